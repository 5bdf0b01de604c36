/-
  The law FnMany from its bits on (printed by many18.py).
-/
import Derived.Test.YtfkjnaaplhcheaaLwE
import Derived.Test.YtfkjnaaplhcheaaNo
import Derived.Deep.RegionHeld3
import Derived.Deep.DeepCutAuto
import Derived.BigRegion
import Derived.BigQuiet
namespace Go.Proofs.Ytfkjnaaplhcheaa
open Go Go.RowKit Go.Sort Ieee

set_option maxRecDepth 100000 in
set_option maxHeartbeats 3200000 in
theorem many_bets (W w : World) (D : Option Addr) (kD cd : Nat) {z0 z2 z3 z4 z5 z6 z7 z8 z9 z10 z11 z12 z13 z14 z15 z16 z17 z18 z19 z20 z21 z22 z23 z24 z25 z26 z27 z28 z29 z30 z31 z32 z33 z34 z35 z36 z37 z38 z39 z40 z41 z42 z43 z44 z45 z46 z47 z48 z49 z50 z51 z52 z53 z54 z55 z56 z57 z58 z59 z60 z61 z62 z63 z64 z65 z66 z67 z68 z69 z70 z71 z72 z73 z74 z75 z76 z77 z78 z79 z80 z81 z82 z83 z84 z85 z86 z87 z88 z89 z90 z91 z92 z93 z94 z95 z96 z97 z98 z99 z100 z101 z102 z103 z104 z105 z106 z107 z108 z109 z110 z111 z112 z113 z114 z115 z116 z117 z118 z119 z120 z121 z122 z123 z124 z125 z126 z127 z128 z129 z130 z131 z132 z133 z134 z135 z136 z137 z138 z139 z140 z141 z142 z143 z144 z145 z146 z147 z148 z149 z150 z151 z152 z153 z154 z155 z156 z157 z158 z159 z160 z161 z162 z163 z164 z165 z166 z167 z168 z169 z170 z171 z172 z173 z174 z175 z176 z177 z178 z179 z180 z181 z182 z183 z184 z185 z186 z187 z188 z189 z190 z191 z192 z193 z194 z195 z196 z197 z198 z199 z200 z201 z202 z203 z204 z205 z206 z207 z208 z209 z210 z211 z212 z213 z214 z215 z216 z217 z218 z219 z220 z221 z222 z223 z224 z225 z226 z227 z228 z229 z230 z231 z232 z233 z234 z235 z236 z237 z238 z239 z240 z241 z242 z243 z244 z245 z246 z247 z248 z249 z250 z251 z252 z253 z254 z255 z256 z257 z258 z259 z260 z261 z262 z263 z264 z265 z266 z267 z268 z269 z270 z271 z272 z273 z274 z275 z276 z277 z278 z279 z280 z281 z282 z283 z284 z285 z286 z287 z288 z289 z290 z291 z292 z293 z294 z295 z296 z297 z298 z299 z300 z301 z302 z303 z304 z305 z306 z307 z308 z309 z310 z311 z312 z313 z314 z315 z316 z317 z318 z319 z320 z321 z322 z323 z324 z325 z326 z327 z328 z329 z330 z331 z332 z333 z334 z335 z336 z337 z338 z339 z340 z341 z342 z343 z344 z345 z346 z347 z348 z349 z350 z351 z352 z353 z354 z355 z356 z357 z358 z359 z360 z361 z362 z363 z364 z365 z366 z367 z368 z369 z370 z371 z372 z373 z374 z375 z376 z377 z378 z379 z380 z381 z382 z383 z384 z385 z386 z387 z388 z389 z390 z391 z392 z393 z394 z395 z396 z397 z398 z399 z400 z401 z402 z403 z404 z405 z406 z407 z408 z409 z410 z411 z412 z413 z414 z415 z416 z417 z418 z419 z420 z421 z422 z423 z424 z425 z426 z427 : Value} (hb : Below W.heap.size W w) (hD : BR w D kD) (_hk : kD ≤ 48) :
    Code.wp Try.prog (tailC 19 (Try.f4.body.getD .skip)) (bodyPost Try.prog Try.f4 (fun e w' => e = .returned (.bool true) ∧ Below W.heap.size W w')) ⟨(z0 :: .slice D kD cd :: z2 :: z3 :: z4 :: z5 :: z6 :: z7 :: z8 :: z9 :: z10 :: z11 :: z12 :: z13 :: z14 :: z15 :: z16 :: z17 :: z18 :: z19 :: z20 :: z21 :: z22 :: z23 :: z24 :: z25 :: z26 :: z27 :: z28 :: z29 :: z30 :: z31 :: z32 :: z33 :: z34 :: z35 :: z36 :: z37 :: z38 :: z39 :: z40 :: z41 :: z42 :: z43 :: z44 :: z45 :: z46 :: z47 :: z48 :: z49 :: z50 :: z51 :: z52 :: z53 :: z54 :: z55 :: z56 :: z57 :: z58 :: z59 :: z60 :: z61 :: z62 :: z63 :: z64 :: z65 :: z66 :: z67 :: z68 :: z69 :: z70 :: z71 :: z72 :: z73 :: z74 :: z75 :: z76 :: z77 :: z78 :: z79 :: z80 :: z81 :: z82 :: z83 :: z84 :: z85 :: z86 :: z87 :: z88 :: z89 :: z90 :: z91 :: z92 :: z93 :: z94 :: z95 :: z96 :: z97 :: z98 :: z99 :: z100 :: z101 :: z102 :: z103 :: z104 :: z105 :: z106 :: z107 :: z108 :: z109 :: z110 :: z111 :: z112 :: z113 :: z114 :: z115 :: z116 :: z117 :: z118 :: z119 :: z120 :: z121 :: z122 :: z123 :: z124 :: z125 :: z126 :: z127 :: z128 :: z129 :: z130 :: z131 :: z132 :: z133 :: z134 :: z135 :: z136 :: z137 :: z138 :: z139 :: z140 :: z141 :: z142 :: z143 :: z144 :: z145 :: z146 :: z147 :: z148 :: z149 :: z150 :: z151 :: z152 :: z153 :: z154 :: z155 :: z156 :: z157 :: z158 :: z159 :: z160 :: z161 :: z162 :: z163 :: z164 :: z165 :: z166 :: z167 :: z168 :: z169 :: z170 :: z171 :: z172 :: z173 :: z174 :: z175 :: z176 :: z177 :: z178 :: z179 :: z180 :: z181 :: z182 :: z183 :: z184 :: z185 :: z186 :: z187 :: z188 :: z189 :: z190 :: z191 :: z192 :: z193 :: z194 :: z195 :: z196 :: z197 :: z198 :: z199 :: z200 :: z201 :: z202 :: z203 :: z204 :: z205 :: z206 :: z207 :: z208 :: z209 :: z210 :: z211 :: z212 :: z213 :: z214 :: z215 :: z216 :: z217 :: z218 :: z219 :: z220 :: z221 :: z222 :: z223 :: z224 :: z225 :: z226 :: z227 :: z228 :: z229 :: z230 :: z231 :: z232 :: z233 :: z234 :: z235 :: z236 :: z237 :: z238 :: z239 :: z240 :: z241 :: z242 :: z243 :: z244 :: z245 :: z246 :: z247 :: z248 :: z249 :: z250 :: z251 :: z252 :: z253 :: z254 :: z255 :: z256 :: z257 :: z258 :: z259 :: z260 :: z261 :: z262 :: z263 :: z264 :: z265 :: z266 :: z267 :: z268 :: z269 :: z270 :: z271 :: z272 :: z273 :: z274 :: z275 :: z276 :: z277 :: z278 :: z279 :: z280 :: z281 :: z282 :: z283 :: z284 :: z285 :: z286 :: z287 :: z288 :: z289 :: z290 :: z291 :: z292 :: z293 :: z294 :: z295 :: z296 :: z297 :: z298 :: z299 :: z300 :: z301 :: z302 :: z303 :: z304 :: z305 :: z306 :: z307 :: z308 :: z309 :: z310 :: z311 :: z312 :: z313 :: z314 :: z315 :: z316 :: z317 :: z318 :: z319 :: z320 :: z321 :: z322 :: z323 :: z324 :: z325 :: z326 :: z327 :: z328 :: z329 :: z330 :: z331 :: z332 :: z333 :: z334 :: z335 :: z336 :: z337 :: z338 :: z339 :: z340 :: z341 :: z342 :: z343 :: z344 :: z345 :: z346 :: z347 :: z348 :: z349 :: z350 :: z351 :: z352 :: z353 :: z354 :: z355 :: z356 :: z357 :: z358 :: z359 :: z360 :: z361 :: z362 :: z363 :: z364 :: z365 :: z366 :: z367 :: z368 :: z369 :: z370 :: z371 :: z372 :: z373 :: z374 :: z375 :: z376 :: z377 :: z378 :: z379 :: z380 :: z381 :: z382 :: z383 :: z384 :: z385 :: z386 :: z387 :: z388 :: z389 :: z390 :: z391 :: z392 :: z393 :: z394 :: z395 :: z396 :: z397 :: z398 :: z399 :: z400 :: z401 :: z402 :: z403 :: z404 :: z405 :: z406 :: z407 :: z408 :: z409 :: z410 :: z411 :: z412 :: z413 :: z414 :: z415 :: z416 :: z417 :: z418 :: z419 :: z420 :: z421 :: z422 :: z423 :: z424 :: z425 :: z426 :: z427 :: []).toArray, []⟩ w := by
  let Q := (bodyPost Try.prog Try.f4 (fun e w' => e = .returned (.bool true) ∧ Below W.heap.size W w'))
  change Code.wp _ _ Q _ _
  conv => arg 2; whnf
  have HA1 : Hid (Calls Try.prog 8 #[.slice D kD cd, .int .i64 42, .int .i64 20] w (fun e w' => ∃ a : Nat, a < 20 ∧ e = .returned (.int .i64 a) ∧ w = w')) := Lib.hid (r8At_any D kD cd 42 20 w (by omega) (by omega) hD)
  have HBI := Lib.hid fun (m : Nat) (hm : m ≤ 40) => R8Bits_any D kD cd m w (by omega) hm hD
  have B0 := Lib.hid hb
  clear hb hD _hk
  generalize hcc : Code.seq (Code.region 47 _ _) _ = cc
  have HCC := Lib.hid hcc
  clear hcc
  go_upto_region 41 with (go_at_call 8; (with_reducible refine HA1.out.mono ?_); rintro e w1 ⟨a, ha, rfl, rfl⟩; obtain ⟨m, hm⟩ : ∃ m, 1 + a = m := ⟨_, rfl⟩; have hadd : IntKind.i64.wrap (1 + (a : Int)) = (m : Int) := by (rw [show 1 + (a : Int) = (m : Int) by omega]; exact IntWalk.i64_in _ (by omega)))
  have HBI2 := Lib.hid (HBI.out m (by omega))
  have HM := Lib.hid (show 1 ≤ m ∧ m ≤ 20 by omega)
  clear HA1 HBI ha hm
  go_upto_region 42 with (go_at_call 29; (with_reducible refine HBI2.out.mono ?_); rintro e w1 ⟨bs, A28, c28, hbl, rfl, ho1, hb1⟩; have HBL := Lib.hid hbl; have HO1 := Lib.hid ho1; have K1 := Lib.hid hb1; clear hbl ho1 hb1)
  clear HBI2 hadd
  obtain rfl := HBL.out
  obtain ⟨hl1, hl2⟩ := HM.out
  have R1 := Lib.hid (Rd.of_own HO1.out)
  have HRW := Lib.hid fun W (hW : Below w1.heap.size w1 W) => RatioWalk_ok A28 bs c28 W hl1 (by omega) (R1.out.at_ hW) (rwL_fin bs hl2)
  have HRS := Lib.hid fun W (hW : Below w1.heap.size w1 W) => RatioStop_ok A28 bs c28 W hl1 (by omega) (R1.out.at_ hW) (rwL_fin bs hl2)
  have HBW := Lib.hid fun W (hW : Below w1.heap.size w1 W) => BetWealth_ok A28 bs c28 W hl1 (by omega) (R1.out.at_ hW) (bwL_fin bs hl2) (fun i hi => bw_finite bs (by omega))
  have K01 := Lib.hid (below_next B0.out K1.out)
  clear HBL HM HO1 K1 B0
  go_upto_region 43 with (go_at_call 30; (with_reducible refine (HRW.out _ (Below.refl _ _)).mono ?_); rintro e w2 ⟨A29, c29, rfl, ho2, hb2⟩; have HO2 := Lib.hid ho2; have K2 := Lib.hid hb2; clear ho2 hb2)
  go_upto_region 44 with (go_at_call 31; (with_reducible refine (HRS.out _ K2.out).mono ?_); rintro e w3 ⟨at_, side, hst, rfl, hb3⟩; have HST := Lib.hid hst; have K3 := Lib.hid hb3; clear hst hb3)
  go_upto_region 45 with (go_at_call 32; (with_reducible refine (HBW.out _ (below_next K2.out K3.out)).mono ?_); rintro e w4 ⟨A34, c34, rfl, ho4, hb4⟩; have HO4 := Lib.hid ho4; have K4 := Lib.hid hb4; clear ho4 hb4)
  have hat : at_ ≤ bs.length := by have := HST.out.1; rwa [rwL_len] at this
  have HWK : Hid (Wk W w4 A28 A29 A34 bs at_ side) := Lib.hid (by
    have K13 := below_next K2.out K3.out
    have K14 := below_next K13 K4.out
    exact ⟨below_next K01.out K14, R1.out.at_ K14, (Rd.of_own HO2.out).at_ (below_next K3.out K4.out), Rd.of_own HO4.out, HST.out, hl1, hl2⟩)
  clear HRW HRS HBW R1 K01 HO2 HO4 HST K2 K3 K4
  have f1 : ¬ (at_ : Int) < 0 := by omega
  have f2 : ¬ (bs.length : Int) < (at_ : Int) := by omega
  go_wp2_with fail
  rw [← HCC.out]
  exact many_walk W _ A28 A29 A34 bs c28 c29 c34 at_ side HWK.out
end Go.Proofs.Ytfkjnaaplhcheaa
