/-
  The law FnMany from its seed on (printed by many18.py).
-/
import Derived.Test.YtfkjnaaplhcheaaLwC
import Derived.Test.YtfkjnaaplhcheaaNm
import Derived.Test.YtfkjnaaplhcheaaNo
import Derived.Deep.RegionHeld3
import Derived.Deep.DeepCutAuto
import Derived.BigRegion
import Derived.BigQuiet
namespace Go.Proofs.Ytfkjnaaplhcheaa
open Go Go.RowKit Go.Sort Ieee SeedFact

theorem means_all {ks : List Nat} (hk : ∀ k ∈ ks, k < 65) (h1 : 1 ≤ ks.length) (h10 : ks.length ≤ 10) (k a b : Int) (hok : sdOk k a b) : ∃ (zs : List Nat) (a2 b2 : Int), zs.length = 20 ∧
    (∀ lo hi, lo ≤ 64 → hi ≤ 64 → (∀ j, j < ks.length → lo ≤ ks.getD j 0) → (∀ j, j < ks.length → ks.getD j 0 ≤ hi) → ∀ i, i < 20 → ∃ j, j ≤ 640 ∧ zs.getD i 0 = gN j ks.length ∧ shN lo ≤ gN j ks.length ∧ gN j ks.length ≤ shN hi) ∧
    (∀ i j, i ≤ j → j < 20 → zs.getD i 0 ≤ zs.getD j 0) ∧ (∀ i, i < 20 → zs.getD i 0 < 2139095040) ∧ sdOk k a2 b2 ∧
    ∀ A c w, Rd w w.heap.size A (fl (ks.map shN)) → Calls Try.prog 27 #[.agg #[.int .i64 k, .int .u64 a, .int .u64 b], .slice A ks.length c, .int .i64 20] w (fun e w' => ∃ A' c', e = .returned (.tuple #[.agg #[.int .i64 k, .int .u64 a2, .int .u64 b2], .slice A' 20 c', .bool true]) ∧ w'.ownsRow w.heap.size 50 1 (.slice A' 20 c') 20 (fl zs) ∧ Below w.heap.size w w') := by
  have hxl : (ks.map shN).length = ks.length := List.length_map ..
  have hm : ∀ y ∈ meansP k (ks.map shN) (a, b) 20, ∃ s, y = meanP k (ks.map shN) s := fun y hy => by
    obtain ⟨j, -, rfl⟩ := List.mem_map.1 hy
    exact ⟨_, rfl⟩
  have hpw : ∀ y ∈ meansP k (ks.map shN) (a, b) 20, y < 2139095040 := fun y hy => by
    obtain ⟨s, rfl⟩ := hm y hy
    obtain ⟨j, hj, e, -, -⟩ := mean_is hk h1 h10 (lo := 0) (hi := 64) (fun i _ => Nat.zero_le _) (fun i hi => by have := ks_lt hk hi; omega) k s (by omega) (by omega)
    rw [e]
    exact g_pw h1 (by omega) hj
  have hfin : (meansP k (ks.map shN) (a, b) 20).all (isFin single) = true := List.all_eq_true.2 fun y hy => (pw_parts (hpw y hy)).1
  have hlist : listB (ks.map shN) = true := by
    unfold listB
    rw [Bool.and_eq_true, Bool.and_eq_true]
    refine ⟨decide_eq_true (by omega), decide_eq_true (by omega), List.all_eq_true.2 fun x hx => ?_⟩
    obtain ⟨q, hq, rfl⟩ := List.mem_map.1 hx
    exact (pw_parts (n_pw (a := q) (by have := hk q hq; omega))).1
  obtain ⟨zs, hzl, hz⟩ := sort_one (meansP k (ks.map shN) (a, b) 20)
  have hml := meansP_len k (ks.map shN) (a, b) 20
  rw [hml] at hzl
  obtain ⟨-, s2, s3⟩ := sorted_is (ys := meansP k (ks.map shN) (a, b) 20) (by omega) hpw hz
  rw [hml] at s2 s3
  refine ⟨zs, (mS k (ks.map shN).length (a, b) 20).1, (mS k (ks.map shN).length (a, b) 20).2, hzl, fun lo hi hlo hhi h2 h3 i hi20 => ?_, s3, fun i hi => hpw _ (s2 i hi), mS_ok (s := (a, b)) hok 20, fun A c w hA => ?_⟩
  · obtain ⟨s, e⟩ := hm _ (s2 i hi20)
    obtain ⟨j, j1, j2, j3, j4⟩ := mean_is hk h1 h10 (lo := lo) (hi := hi) h2 h3 k s hlo hhi
    exact ⟨j, j1, e.trans j2, j3, j4⟩
  · have := DrawnMeans_ok k (a, b) A (ks.map shN) zs c 20 w hok hlist (by omega) (by omega) hA hzl hz true hfin
    unfold dmOut at this
    rw [if_pos rfl, if_pos rfl, if_pos rfl, hzl, hxl] at this
    rw [hxl]
    exact this
/-- what the law's middle leans on -/
structure Lw (W w : World) (D A6 : Option Addr) (kD : Nat) (ks : List Nat) : Prop where
  bw : Below W.heap.size W w
  r6 : Rd w w.heap.size A6 (fl (ks.map shN))
  hk : ∀ k ∈ ks, k < 65
  h1 : 1 ≤ ks.length
  h10 : ks.length ≤ 10
  d : BR w D kD
  hD : kD ≤ 48
theorem Lw.go {W w w' : World} {D A6 : Option Addr} {kD : Nat} {ks : List Nat} (h : Lw W w D A6 kD ks) (hb : Below w.heap.size w w') : Lw W w' D A6 kD ks :=
  ⟨below_next h.bw hb, h.r6.at_ hb, h.hk, h.h1, h.h10, h.d.keep hb, h.hD⟩
set_option maxRecDepth 100000 in
set_option maxHeartbeats 3200000 in
theorem many_band (W w : World) (D A6 : Option Addr) (kD cd c6 : Nat) (ks : List Nat) {z0 z2 z3 z4 z7 z8 z9 z10 z11 z12 z13 z14 z15 z16 z17 z18 z19 z20 z21 z22 z23 z24 z25 z26 z27 z28 z29 z30 z31 z32 z33 z34 z35 z36 z37 z38 z39 z40 z41 z42 z43 z44 z45 z46 z47 z48 z49 z50 z51 z52 z53 z54 z55 z56 z57 z58 z59 z60 z61 z62 z63 z64 z65 z66 z67 z68 z69 z70 z71 z72 z73 z74 z75 z76 z77 z78 z79 z80 z81 z82 z83 z84 z85 z86 z87 z88 z89 z90 z91 z92 z93 z94 z95 z96 z97 z98 z99 z100 z101 z102 z103 z104 z105 z106 z107 z108 z109 z110 z111 z112 z113 z114 z115 z116 z117 z118 z119 z120 z121 z122 z123 z124 z125 z126 z127 z128 z129 z130 z131 z132 z133 z134 z135 z136 z137 z138 z139 z140 z141 z142 z143 z144 z145 z146 z147 z148 z149 z150 z151 z152 z153 z154 z155 z156 z157 z158 z159 z160 z161 z162 z163 z164 z165 z166 z167 z168 z169 z170 z171 z172 z173 z174 z175 z176 z177 z178 z179 z180 z181 z182 z183 z184 z185 z186 z187 z188 z189 z190 z191 z192 z193 z194 z195 z196 z197 z198 z199 z200 z201 z202 z203 z204 z205 z206 z207 z208 z209 z210 z211 z212 z213 z214 z215 z216 z217 z218 z219 z220 z221 z222 z223 z224 z225 z226 z227 z228 z229 z230 z231 z232 z233 z234 z235 z236 z237 z238 z239 z240 z241 z242 z243 z244 z245 z246 z247 z248 z249 z250 z251 z252 z253 z254 z255 z256 z257 z258 z259 z260 z261 z262 z263 z264 z265 z266 z267 z268 z269 z270 z271 z272 z273 z274 z275 z276 z277 z278 z279 z280 z281 z282 z283 z284 z285 z286 z287 z288 z289 z290 z291 z292 z293 z294 z295 z296 z297 z298 z299 z300 z301 z302 z303 z304 z305 z306 z307 z308 z309 z310 z311 z312 z313 z314 z315 z316 z317 z318 z319 z320 z321 z322 z323 z324 z325 z326 z327 z328 z329 z330 z331 z332 z333 z334 z335 z336 z337 z338 z339 z340 z341 z342 z343 z344 z345 z346 z347 z348 z349 z350 z351 z352 z353 z354 z355 z356 z357 z358 z359 z360 z361 z362 z363 z364 z365 z366 z367 z368 z369 z370 z371 z372 z373 z374 z375 z376 z377 z378 z379 z380 z381 z382 z383 z384 z385 z386 z387 z388 z389 z390 z391 z392 z393 z394 z395 z396 z397 z398 z399 z400 z401 z402 z403 z404 z405 z406 z407 z408 z409 z410 z411 z412 z413 z414 z415 z416 z417 z418 z419 z420 z421 z422 z423 z424 z425 z426 z427 : Value} (h : Lw W w D A6 kD ks) :
    Code.wp Try.prog (tailC 9 (Try.f4.body.getD .skip)) (bodyPost Try.prog Try.f4 (fun e w' => e = .returned (.bool true) ∧ Below W.heap.size W w')) ⟨(z0 :: .slice D kD cd :: z2 :: z3 :: z4 :: .int .i64 (ks.length : Nat) :: .slice A6 ks.length c6 :: z7 :: z8 :: z9 :: z10 :: z11 :: z12 :: z13 :: z14 :: z15 :: z16 :: z17 :: z18 :: z19 :: z20 :: z21 :: z22 :: z23 :: z24 :: z25 :: z26 :: z27 :: z28 :: z29 :: z30 :: z31 :: z32 :: z33 :: z34 :: z35 :: z36 :: z37 :: z38 :: z39 :: z40 :: z41 :: z42 :: z43 :: z44 :: z45 :: z46 :: z47 :: z48 :: z49 :: z50 :: z51 :: z52 :: z53 :: z54 :: z55 :: z56 :: z57 :: z58 :: z59 :: z60 :: z61 :: z62 :: z63 :: z64 :: z65 :: z66 :: z67 :: z68 :: z69 :: z70 :: z71 :: z72 :: z73 :: z74 :: z75 :: z76 :: z77 :: z78 :: z79 :: z80 :: z81 :: z82 :: z83 :: z84 :: z85 :: z86 :: z87 :: z88 :: z89 :: z90 :: z91 :: z92 :: z93 :: z94 :: z95 :: z96 :: z97 :: z98 :: z99 :: z100 :: z101 :: z102 :: z103 :: z104 :: z105 :: z106 :: z107 :: z108 :: z109 :: z110 :: z111 :: z112 :: z113 :: z114 :: z115 :: z116 :: z117 :: z118 :: z119 :: z120 :: z121 :: z122 :: z123 :: z124 :: z125 :: z126 :: z127 :: z128 :: z129 :: z130 :: z131 :: z132 :: z133 :: z134 :: z135 :: z136 :: z137 :: z138 :: z139 :: z140 :: z141 :: z142 :: z143 :: z144 :: z145 :: z146 :: z147 :: z148 :: z149 :: z150 :: z151 :: z152 :: z153 :: z154 :: z155 :: z156 :: z157 :: z158 :: z159 :: z160 :: z161 :: z162 :: z163 :: z164 :: z165 :: z166 :: z167 :: z168 :: z169 :: z170 :: z171 :: z172 :: z173 :: z174 :: z175 :: z176 :: z177 :: z178 :: z179 :: z180 :: z181 :: z182 :: z183 :: z184 :: z185 :: z186 :: z187 :: z188 :: z189 :: z190 :: z191 :: z192 :: z193 :: z194 :: z195 :: z196 :: z197 :: z198 :: z199 :: z200 :: z201 :: z202 :: z203 :: z204 :: z205 :: z206 :: z207 :: z208 :: z209 :: z210 :: z211 :: z212 :: z213 :: z214 :: z215 :: z216 :: z217 :: z218 :: z219 :: z220 :: z221 :: z222 :: z223 :: z224 :: z225 :: z226 :: z227 :: z228 :: z229 :: z230 :: z231 :: z232 :: z233 :: z234 :: z235 :: z236 :: z237 :: z238 :: z239 :: z240 :: z241 :: z242 :: z243 :: z244 :: z245 :: z246 :: z247 :: z248 :: z249 :: z250 :: z251 :: z252 :: z253 :: z254 :: z255 :: z256 :: z257 :: z258 :: z259 :: z260 :: z261 :: z262 :: z263 :: z264 :: z265 :: z266 :: z267 :: z268 :: z269 :: z270 :: z271 :: z272 :: z273 :: z274 :: z275 :: z276 :: z277 :: z278 :: z279 :: z280 :: z281 :: z282 :: z283 :: z284 :: z285 :: z286 :: z287 :: z288 :: z289 :: z290 :: z291 :: z292 :: z293 :: z294 :: z295 :: z296 :: z297 :: z298 :: z299 :: z300 :: z301 :: z302 :: z303 :: z304 :: z305 :: z306 :: z307 :: z308 :: z309 :: z310 :: z311 :: z312 :: z313 :: z314 :: z315 :: z316 :: z317 :: z318 :: z319 :: z320 :: z321 :: z322 :: z323 :: z324 :: z325 :: z326 :: z327 :: z328 :: z329 :: z330 :: z331 :: z332 :: z333 :: z334 :: z335 :: z336 :: z337 :: z338 :: z339 :: z340 :: z341 :: z342 :: z343 :: z344 :: z345 :: z346 :: z347 :: z348 :: z349 :: z350 :: z351 :: z352 :: z353 :: z354 :: z355 :: z356 :: z357 :: z358 :: z359 :: z360 :: z361 :: z362 :: z363 :: z364 :: z365 :: z366 :: z367 :: z368 :: z369 :: z370 :: z371 :: z372 :: z373 :: z374 :: z375 :: z376 :: z377 :: z378 :: z379 :: z380 :: z381 :: z382 :: z383 :: z384 :: z385 :: z386 :: z387 :: z388 :: z389 :: z390 :: z391 :: z392 :: z393 :: z394 :: z395 :: z396 :: z397 :: z398 :: z399 :: z400 :: z401 :: z402 :: z403 :: z404 :: z405 :: z406 :: z407 :: z408 :: z409 :: z410 :: z411 :: z412 :: z413 :: z414 :: z415 :: z416 :: z417 :: z418 :: z419 :: z420 :: z421 :: z422 :: z423 :: z424 :: z425 :: z426 :: z427 :: []).toArray, []⟩ w := by
  let Q := (bodyPost Try.prog Try.f4 (fun e w' => e = .returned (.bool true) ∧ Below W.heap.size W w'))
  change Code.wp _ _ Q _ _
  conv => arg 2; whnf
  have HL := Lib.hid h
  have hk48 := h.hD
  have HRS := Lib.hid (R8Seed_any D kD cd w (by omega) h.d)
  have HAT : Hid (∀ W', Below w.heap.size w W' → Calls Try.prog 8 #[.slice D kD cd, .int .i64 41, .int .i64 15] W' (fun e w' => ∃ a : Nat, a < 15 ∧ e = .returned (.int .i64 a) ∧ W' = w')) := Lib.hid fun W' hW => r8At_any D kD cd 41 15 W' (by omega) (by omega) (h.d.keep hW)
  have hn1 := h.h1
  have hn10 := h.h10
  have HMA := Lib.hid fun k a b hok => means_all h.hk h.h1 h.h10 k a b hok
  have HR6 := Lib.hid fun W' (hW : Below w.heap.size w W') => h.r6.at_ hW
  clear h
  generalize hcc : Code.seq (Code.region 26 _ _) _ = cc
  have HCC := Lib.hid hcc
  clear hcc
  go_upto_region 21 with (go_at_call 16; (with_reducible refine HRS.out.mono ?_); rintro e w3 ⟨sk, sa, sb, rfl, hok, hb⟩; have K3 := Lib.hid hb; have HOK := Lib.hid hok; clear hb hok)
  clear HRS
  generalize hW4 : World.alloc w3 _ = W4
  have hx4 : SdAt W4 w3.heap.size sk sa sb := by rw [← hW4]; simp [SdAt, go_sem]
  have K4 : Hid (Below w.heap.size w W4) := by rw [← hW4]; exact Lib.hid (below_al K3.out _)
  clear hW4 K3
  obtain ⟨c0, c1, c2, c3⟩ := hx4
  generalize w3.heap.size = b15 at *
  obtain ⟨zs, a2, b2, hz20, hmean, hsort, hpw, hok2, HD⟩ := HMA.out sk sa sb HOK.out
  have HDM := Lib.hid fun c => HD A6 c W4 (HR6.out W4 K4.out)
  have HZ := Lib.hid (And.intro hz20 (And.intro hmean (And.intro hsort hpw)))
  have HVS : Hid (∀ W', Calls Try.prog 18 #[.agg #[.int .i64 sk, .int .u64 a2, .int .u64 b2]] W' (fun e w' => e = .returned (.bool true) ∧ Below W'.heap.size W' w')) := Lib.hid fun W' => by
    have := ValidSeed_any sk a2 b2 hok2.2.2 W'
    rw [hok2.1] at this
    exact this
  clear hz20 hmean hsort hpw hok2 HD HMA HOK
  go_upto_region 22 with (go_at_call 27; (with_reducible refine (HDM.out _).mono ?_); rintro e w5 ⟨A17, c17, rfl, ho, hb⟩; have K5 := Lib.hid (below_next K4.out hb); have HO := Lib.hid ho; clear hb ho)
  clear HDM K4 c0 c1 c2 c3
  generalize hW6 : World.alloc w5 _ = W6
  have hx6 : SdAt W6 w5.heap.size sk a2 b2 := by rw [← hW6]; simp [SdAt, go_sem]
  have R6 : Hid (Rd W6 W6.heap.size A17 (fl zs)) := by rw [← hW6]; exact Lib.hid ((Rd.of_own HO.out).at_ (below_al (Below.refl _ _) _))
  have K6 : Hid (Below w.heap.size w W6) := by rw [← hW6]; exact Lib.hid (below_al K5.out _)
  clear hW6 K5 HO
  obtain ⟨c0, c1, c2, c3⟩ := hx6
  generalize w5.heap.size = b16 at *
  go_upto_region 23 with (go_at_call 8; (with_reducible refine (HAT.out _ K6.out).mono ?_); rintro e w7 ⟨a, ha, rfl, rfl⟩; obtain ⟨j, hj⟩ : ∃ j, 1 + a = j := ⟨_, rfl⟩; have hadd : IntKind.i64.wrap (1 + (a : Int)) = (j : Int) := (by rw [show 1 + (a : Int) = (j : Int) by omega]; exact IntWalk.i64_in _ (by omega)); have hj1 : 1 ≤ j := (by omega); have hj16 : j < 16 := (by omega); have HB := Lib.hid (band_few j hj16 hj1); have HJ := Lib.hid (And.intro hj1 hj16); have r1 := (fun w => run_float_arith (P := Try.prog) w .quo 50 .f32 _ _ _ HB.out.1))
  have HBO := Lib.hid fun c W' hr => BandOf_ok A17 zs c j W' HJ.out.1 HJ.out.2 HZ.out.1 (List.all_eq_true.2 fun y hy => by
    obtain ⟨i, hi, rfl⟩ := List.getElem_of_mem hy
    have h9 := HZ.out.2.2.2 i (by have := HZ.out.1; omega)
    rw [List.getD_eq_getElem?_getD, List.getElem?_eq_getElem hi] at h9
    exact (pw_parts h9).1) (fun i hi => by
    rw [lt_pw (HZ.out.2.2.2 _ hi) (HZ.out.2.2.2 i (by omega))]
    have := HZ.out.2.2.1 i (i + 1) (by omega) hi
    omega) hr
  have hkk : bandK j ≤ 9 := HB.out.2.2.2.2.2.1
  have hlh : (FloatKind.f32.format.order (zs.getD (bandK j) 0) (zs.getD (19 - bandK j) 0) == some .gt) = false := gts_no (HZ.out.2.2.2 _ (by omega)) (HZ.out.2.2.2 _ (by omega)) (HZ.out.2.2.1 _ _ (by omega) (by omega))
  clear HB HJ r1 HAT
  generalize bandS j = sj at *
  generalize bandK j = kk at *
  generalize hlo : zs.getD kk 0 = lo at *
  generalize hhi : zs.getD (19 - kk) 0 = hi at *
  have HLO := Lib.hid hlo
  have HHI := Lib.hid hhi
  clear hlo hhi
  go_upto_region 24 with (go_at_call 28; (with_reducible refine (HBO.out _ _ R6.out).mono ?_); rintro e w8 ⟨rfl, q, rfl⟩)
  clear HBO
  go_wp2_with (go_at_call 18; (with_reducible refine (HVS.out _).mono ?_); rintro e w9 ⟨rfl, hb⟩; have K9 := Lib.hid hb; clear hb)
  rw [← HCC.out]
  obtain rfl := HLO.out
  obtain rfl := HHI.out
  obtain ⟨z20, zm, zo, zp⟩ := HZ.out
  have KQ : Below W6.heap.size W6 w9 := below_next (below_drewN (Below.refl _ _) _) K9.out
  have L9 := HL.out.go (below_next K6.out KQ)
  exact many_means W _ D A6 A17 kD cd c6 c17 kk ks zs ⟨L9.bw, L9.r6, R6.out.at_ KQ, L9.hk, L9.h1, L9.h10, z20, zm, zo, zp⟩ hkk L9.d L9.hD
end Go.Proofs.Ytfkjnaaplhcheaa
