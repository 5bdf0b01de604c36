/-
  The law FnMany from its last loop on (printed by many18.py).
-/
import Derived.Test.YtfkjnaaplhcheaaLw0
import Derived.Deep.RegionHeld3
import Derived.Deep.DeepCutAuto
import Derived.BigRegion
import Derived.BigQuiet
namespace Go.Proofs.Ytfkjnaaplhcheaa
open Go Go.RowKit Go.Sort Ieee

set_option maxRecDepth 100000 in
set_option maxHeartbeats 3200000 in
theorem many_walk (W w : World) (A28 A29 A34 : Option Addr) (bs : List Bool) (c28 c29 c34 at_ : Nat) (side : Int) {z0 z1 z2 z3 z4 z5 z6 z7 z8 z9 z10 z11 z12 z13 z14 z15 z16 z17 z18 z19 z20 z21 z22 z23 z24 z25 z26 z30 z33 z35 z36 z37 z38 z39 z40 z41 z42 z43 z44 z45 z46 z47 z48 z49 z50 z51 z52 z53 z54 z55 z56 z57 z58 z59 z60 z61 z62 z63 z64 z65 z66 z67 z68 z69 z70 z71 z72 z73 z74 z75 z76 z77 z78 z79 z80 z81 z82 z83 z84 z85 z86 z87 z88 z89 z90 z91 z92 z93 z94 z95 z96 z97 z98 z99 z100 z101 z102 z103 z104 z105 z106 z107 z108 z109 z110 z111 z112 z113 z114 z115 z116 z117 z118 z119 z120 z121 z122 z123 z124 z125 z126 z127 z128 z129 z130 z131 z132 z133 z134 z135 z136 z137 z138 z139 z140 z141 z142 z143 z144 z145 z146 z147 z148 z149 z150 z151 z152 z153 z154 z155 z156 z157 z158 z159 z160 z161 z162 z163 z164 z165 z166 z167 z168 z169 z170 z171 z172 z173 z174 z175 z176 z177 z178 z179 z180 z181 z182 z183 z184 z185 z186 z187 z188 z189 z190 z191 z192 z193 z194 z195 z196 z197 z198 z199 z200 z201 z202 z203 z204 z205 z206 z207 z208 z209 z210 z211 z212 z213 z214 z215 z216 z217 z218 z219 z220 z221 z222 z223 z224 z225 z226 z227 z228 z229 z230 z231 z232 z233 z234 z235 z236 z237 z238 z239 z240 z241 z242 z243 z244 z245 z246 z247 z248 z249 z250 z251 z252 z253 z254 z255 z256 z257 z258 z259 z260 z261 z262 z263 z264 z265 z266 z267 z268 z269 z270 z271 z272 z273 z274 z275 z276 z277 z278 z279 z280 z281 z282 z283 z284 z285 z286 z287 z288 z289 z290 z291 z292 z293 z294 z295 z296 z297 z298 z299 z300 z301 z302 z303 z304 z305 z306 z307 z308 z309 z310 z311 z312 z313 z314 z315 z316 z317 z318 z319 z320 z321 z322 z323 z324 z325 z326 z327 z328 z329 z330 z331 z332 z333 z334 z335 z336 z337 z338 z339 z340 z341 z342 z343 z344 z345 z346 z347 z348 z349 z350 z351 z352 z353 z354 z355 z356 z357 z358 z359 z360 z361 z362 z363 z364 z365 z366 z367 z368 z369 z370 z371 z372 z373 z374 z375 z376 z377 z378 z379 z380 z381 z382 z383 z384 z385 z386 z387 z388 z389 z390 z391 z392 z393 z394 z395 z396 z397 z398 z399 z400 z401 z402 z403 z404 z405 z406 z407 z408 z409 z410 z411 z412 z413 z414 z415 z416 z417 z418 z419 z420 z421 z422 z423 z424 z425 z426 z427 : Value} (h : Wk W w A28 A29 A34 bs at_ side) :
    Code.wp Try.prog (tailC 25 (Try.f4.body.getD .skip)) (bodyPost Try.prog Try.f4 (fun e w' => e = .returned (.bool true) ∧ Below W.heap.size W w')) ⟨(z0 :: z1 :: z2 :: z3 :: z4 :: z5 :: z6 :: z7 :: z8 :: z9 :: z10 :: z11 :: z12 :: z13 :: z14 :: z15 :: z16 :: z17 :: z18 :: z19 :: z20 :: z21 :: z22 :: z23 :: z24 :: z25 :: z26 :: .int .i64 (bs.length : Nat) :: .slice A28 bs.length c28 :: .slice A29 bs.length c29 :: z30 :: .int .i64 (at_ : Nat) :: .int .i64 side :: z33 :: .slice A34 bs.length c34 :: z35 :: z36 :: z37 :: z38 :: z39 :: z40 :: z41 :: z42 :: z43 :: z44 :: z45 :: z46 :: z47 :: z48 :: z49 :: z50 :: z51 :: z52 :: z53 :: z54 :: z55 :: z56 :: z57 :: z58 :: z59 :: z60 :: z61 :: z62 :: z63 :: z64 :: z65 :: z66 :: z67 :: z68 :: z69 :: z70 :: z71 :: z72 :: z73 :: z74 :: z75 :: z76 :: z77 :: z78 :: z79 :: z80 :: z81 :: z82 :: z83 :: z84 :: z85 :: z86 :: z87 :: z88 :: z89 :: z90 :: z91 :: z92 :: z93 :: z94 :: z95 :: z96 :: z97 :: z98 :: z99 :: z100 :: z101 :: z102 :: z103 :: z104 :: z105 :: z106 :: z107 :: z108 :: z109 :: z110 :: z111 :: z112 :: z113 :: z114 :: z115 :: z116 :: z117 :: z118 :: z119 :: z120 :: z121 :: z122 :: z123 :: z124 :: z125 :: z126 :: z127 :: z128 :: z129 :: z130 :: z131 :: z132 :: z133 :: z134 :: z135 :: z136 :: z137 :: z138 :: z139 :: z140 :: z141 :: z142 :: z143 :: z144 :: z145 :: z146 :: z147 :: z148 :: z149 :: z150 :: z151 :: z152 :: z153 :: z154 :: z155 :: z156 :: z157 :: z158 :: z159 :: z160 :: z161 :: z162 :: z163 :: z164 :: z165 :: z166 :: z167 :: z168 :: z169 :: z170 :: z171 :: z172 :: z173 :: z174 :: z175 :: z176 :: z177 :: z178 :: z179 :: z180 :: z181 :: z182 :: z183 :: z184 :: z185 :: z186 :: z187 :: z188 :: z189 :: z190 :: z191 :: z192 :: z193 :: z194 :: z195 :: z196 :: z197 :: z198 :: z199 :: z200 :: z201 :: z202 :: z203 :: z204 :: z205 :: z206 :: z207 :: z208 :: z209 :: z210 :: z211 :: z212 :: z213 :: z214 :: z215 :: z216 :: z217 :: z218 :: z219 :: z220 :: z221 :: z222 :: z223 :: z224 :: z225 :: z226 :: z227 :: z228 :: z229 :: z230 :: z231 :: z232 :: z233 :: z234 :: z235 :: z236 :: z237 :: z238 :: z239 :: z240 :: z241 :: z242 :: z243 :: z244 :: z245 :: z246 :: z247 :: z248 :: z249 :: z250 :: z251 :: z252 :: z253 :: z254 :: z255 :: z256 :: z257 :: z258 :: z259 :: z260 :: z261 :: z262 :: z263 :: z264 :: z265 :: z266 :: z267 :: z268 :: z269 :: z270 :: z271 :: z272 :: z273 :: z274 :: z275 :: z276 :: z277 :: z278 :: z279 :: z280 :: z281 :: z282 :: z283 :: z284 :: z285 :: z286 :: z287 :: z288 :: z289 :: z290 :: z291 :: z292 :: z293 :: z294 :: z295 :: z296 :: z297 :: z298 :: z299 :: z300 :: z301 :: z302 :: z303 :: z304 :: z305 :: z306 :: z307 :: z308 :: z309 :: z310 :: z311 :: z312 :: z313 :: z314 :: z315 :: z316 :: z317 :: z318 :: z319 :: z320 :: z321 :: z322 :: z323 :: z324 :: z325 :: z326 :: z327 :: z328 :: z329 :: z330 :: z331 :: z332 :: z333 :: z334 :: z335 :: z336 :: z337 :: z338 :: z339 :: z340 :: z341 :: z342 :: z343 :: z344 :: z345 :: z346 :: z347 :: z348 :: z349 :: z350 :: z351 :: z352 :: z353 :: z354 :: z355 :: z356 :: z357 :: z358 :: z359 :: z360 :: z361 :: z362 :: z363 :: z364 :: z365 :: z366 :: z367 :: z368 :: z369 :: z370 :: z371 :: z372 :: z373 :: z374 :: z375 :: z376 :: z377 :: z378 :: z379 :: z380 :: z381 :: z382 :: z383 :: z384 :: z385 :: z386 :: z387 :: z388 :: z389 :: z390 :: z391 :: z392 :: z393 :: z394 :: z395 :: z396 :: z397 :: z398 :: z399 :: z400 :: z401 :: z402 :: z403 :: z404 :: z405 :: z406 :: z407 :: z408 :: z409 :: z410 :: z411 :: z412 :: z413 :: z414 :: z415 :: z416 :: z417 :: z418 :: z419 :: z420 :: z421 :: z422 :: z423 :: z424 :: z425 :: z426 :: z427 :: []).toArray, []⟩ w := by
  let Q := (bodyPost Try.prog Try.f4 (fun e w' => e = .returned (.bool true) ∧ Below W.heap.size W w'))
  change Code.wp _ _ Q _ _
  conv => arg 2; whnf
  obtain ⟨b28, o28, rfl, hb28, c28⟩ := bol_cells h.r28 h.h1
  obtain ⟨b29, o29, rfl, hb29, c29⟩ := fl_cells h.r29 (by rw [rwL_len]; exact h.h1)
  obtain ⟨b34, o34, rfl, hb34, c34⟩ := fl_cells h.r34 (by rw [bwL_len]; exact h.h1)
  have C28 : Hid (∀ i, i < bs.length → w.cell? ⟨b28, o28 + i, none⟩ = some (.bool (bs.getD i false))) := Lib.hid c28
  have C29 : Hid (∀ i, i < bs.length → w.cell? ⟨b29, o29 + i, none⟩ = some (.float .f32 (rwS bs (i + 1)))) := Lib.hid fun i hi => by rw [c29 i (by rw [rwL_len]; exact hi), rwL_at hi]
  have C34 : Hid (∀ i, i < bs.length → w.cell? ⟨b34, o34 + i, none⟩ = some (.float .f32 (bwS bs (i + 1)))) := Lib.hid fun i hi => by rw [c34 i (by rw [bwL_len]; exact hi), bwL_at hi]
  have h20 := h.h2
  have NEAR : Hid (∀ i, i < bs.length → nearB (rwS bs (i + 1)) (wsS bs (i + 1)) = true) := Lib.hid fun i hi => near_at bs (by omega)
  have BET : Hid (∀ i, i < bs.length → betB (bwS bs (i + 1)) (nwS bs (i + 1)) = true) := Lib.hid fun i hi => bet_at bs (by omega)
  have WS : Hid (∀ i, i < bs.length → if bs.getD i false then floatBits .add .f64 (wsS bs i) 4604418534488542221 = some (wsS bs (i + 1)) else floatBits .sub .f64 (wsS bs i) 4600975829810992884 = some (wsS bs (i + 1))) := Lib.hid fun i hi => ws_step bs (by omega)
  have NW : Hid (∀ i, i < bs.length → if bs.getD i false then floatBits .mul .f64 (nwS bs i) 4608308318706860032 = some (nwS bs (i + 1)) else floatBits .mul .f64 (nwS bs i) 4604930618986332160 = some (nwS bs (i + 1))) := Lib.hid fun i hi => nw_step bs (by omega)
  have W0 : Hid (wsS bs 0 = 0 ∧ nwS bs 0 = 4607182418800017408) := Lib.hid ⟨rfl, rfl⟩
  have ST0 := h.st
  unfold StopAt at ST0
  rw [rwL_len] at ST0
  have ST : Hid (∀ i, i < at_ → geF (rwS bs (i + 1)) 1065353216 = false ∧ leF (rwS bs (i + 1)) 3212836864 = false) := Lib.hid fun i hi => by
    have := ST0.2.1 i hi
    rwa [rwL_at (by omega)] at this
  have SE : Hid ((at_ = bs.length ∧ side = 0) ∨ (at_ < bs.length ∧ side = 1 ∧ geF (rwS bs (at_ + 1)) 1065353216 = true) ∨ (at_ < bs.length ∧ side = -1 ∧ leF (rwS bs (at_ + 1)) 3212836864 = true)) := Lib.hid (by
    rcases ST0.2.2 with a | ⟨a, b, c⟩ | ⟨a, b, c⟩
    · exact .inl a
    · rw [rwL_at a] at c; exact .inr (.inl ⟨a, b, c⟩)
    · rw [rwL_at a] at c; exact .inr (.inr ⟨a, b, c⟩))
  have hat := ST0.1
  have B0 := Lib.hid h.bw
  have hm1 := h.h1
  clear ST0 h c28 c29 c34 hb28 hb29 hb34
  generalize rwS bs = rw_ at *
  generalize bwS bs = bw_ at *
  generalize wsS bs = ws_ at *
  generalize nwS bs = nw_ at *
  generalize hbv : (fun i => bs.getD i false) = bv at *
  have hbv' : ∀ i, bs.getD i false = bv i := fun i => by rw [← hbv]
  simp only [hbv'] at C28 WS NW
  clear hbv hbv'
  generalize bs.length = m at *
  go_wp2_with fail
  go_loopw [36, 37, 38] (fun nv sv iv wr => ∃ i : Nat, i ≤ m ∧ iv = .int .i64 (i : Nat) ∧ nv = .float .f64 (nw_ i) ∧ sv = .float .f64 (ws_ i) ∧ w = wr) (fun _ _ iv _ => m - (intOf iv).toNat)
  case atStart => exact ⟨0, by omega, rfl, by rw [W0.out.2], by rw [W0.out.1], rfl⟩
  case round =>
    clear W0
    obtain ⟨i, hi, rfl, rfl, rfl, rfl⟩ := hrel
    by_cases hlt : i < m
    · have k28 := C28.out i hlt
      have k29 := C29.out i hlt
      have k34 := C34.out i hlt
      have hN := NEAR.out i hlt
      have hB := BET.out i hlt
      have hS := WS.out i hlt
      have hNW := NW.out i hlt
      unfold nearB at hN
      unfold betB at hB
      simp only [Bool.and_eq_true, beq_iff_eq, Bool.not_eq_true'] at hN hB
      obtain ⟨⟨⟨-, n1⟩, n2⟩, n3⟩ := hN
      obtain ⟨⟨⟨⟨⟨-, e1⟩, e2⟩, e3⟩, e4⟩, e5⟩ := hB
      have G1 := Lib.hid fun W => r8Gap_any _ _ W n2
      have G2 := Lib.hid fun W => r8Gap_any _ _ W e2
      have v1 := fun w => run_convert_float_float (P := Try.prog) w 50 51 .f32 .f64 _ _ (by rw [Try.underlying50]; rfl) Try.underlying51 n1
      have v2 := fun w => run_convert_float_float (P := Try.prog) w 50 51 .f32 .f64 _ _ (by rw [Try.underlying50]; rfl) Try.underlying51 e1
      have v3 := fun w => run_float_arith (P := Try.prog) w .add 51 .f64 _ _ _ e3
      have v4 := fun w => run_float_arith (P := Try.prog) w .mul 51 .f64 _ _ _ e4
      have hOUT : Hid (i < at_ → geF (rw_ (i + 1)) 1065353216 = false ∧ leF (rw_ (i + 1)) 3212836864 = false) := Lib.hid (ST.out i)
      generalize hnx : nw_ (i + 1) = nx at *
      generalize hsx : ws_ (i + 1) = sx at *
      have HNX := Lib.hid hnx
      have HSX := Lib.hid hsx
      clear hnx hsx C28 C29 C34 NEAR BET WS NW ST SE n1 n2 e1 e2 e3 e4
      generalize dop .mul 4562254508917369340 (dop .add 4607182418800017408 nx) = lim at *
      generalize dop .add 4607182418800017408 nx = p1 at *
      generalize hgx : rw_ (i + 1) = x at *
      generalize hgy : bw_ (i + 1) = y at *
      clear hgx hgy
      generalize wd8 x = xd at *
      generalize wd8 y = yd at *
      generalize gap8 xd sx = g1 at *
      generalize gap8 yd nx = g2 at *
      generalize ws_ i = s0 at *
      generalize nw_ i = n0 at *
      generalize bv i = bit at *
      cases bit
      all_goals
        simp only [if_true, if_false, Bool.false_eq_true] at hS hNW
        first
          | have u1 := fun w => run_float_arith (P := Try.prog) w .sub 51 .f64 _ _ _ hS
          | have u1 := fun w => run_float_arith (P := Try.prog) w .add 51 .f64 _ _ _ hS
        have u2 := fun w => run_float_arith (P := Try.prog) w .mul 51 .f64 _ _ _ hNW
        clear hS hNW
        by_cases ha : i < at_
        · obtain ⟨f1, f2⟩ := hOUT.out ha
          unfold geF at f1
          unfold leF at f2
          have ha' : (i : Int) < (at_ : Int) := by omega
          clear hOUT
          go_wp2_with (first
            | (go_at_call 33; (with_reducible refine (G1.out _).mono ?_); rintro e w1 ⟨rfl, rfl⟩)
            | (go_at_call 33; (with_reducible refine (G2.out _).mono ?_); rintro e w1 ⟨rfl, rfl⟩))
          go_roundw
          case rel => exact ⟨i + 1, by omega, by go_num, by rw [HNX.out], by rw [HSX.out], by first | rfl | trivial⟩
          case measure => simp [intOf]; omega
        · have ha' : ¬ (i : Int) < (at_ : Int) := by omega
          clear hOUT
          go_wp2_with (first
            | (go_at_call 33; (with_reducible refine (G1.out _).mono ?_); rintro e w1 ⟨rfl, rfl⟩)
            | (go_at_call 33; (with_reducible refine (G2.out _).mono ?_); rintro e w1 ⟨rfl, rfl⟩))
          go_roundw
          case rel => exact ⟨i + 1, by omega, by go_num, by rw [HNX.out], by rw [HSX.out], by first | rfl | trivial⟩
          case measure => simp [intOf]; omega
    · obtain rfl : i = m := by omega
      clear NEAR BET WS NW ST C28 C34
      rcases SE.out with ⟨rfl, rfl⟩ | ⟨ha, rfl, hs⟩ | ⟨ha, rfl, hs⟩
      · clear SE C29
        go_wp2_with fail
        go_ret
        exact ⟨rfl, B0.out⟩
      · have k29 := C29.out _ ha
        have hne : ¬ (at_ : Int) = (i : Int) := by omega
        have hlt' : (at_ : Int) < (i : Int) := by omega
        unfold geF at hs
        clear SE C29
        generalize rw_ (at_ + 1) = x at *
        go_wp2_with fail
        go_ret
        exact ⟨by simp, B0.out⟩
      · have k29 := C29.out _ ha
        have hne : ¬ (at_ : Int) = (i : Int) := by omega
        have hlt' : (at_ : Int) < (i : Int) := by omega
        unfold leF at hs
        clear SE C29
        generalize rw_ (at_ + 1) = x at *
        go_wp2_with fail
        go_ret
        exact ⟨by simp, B0.out⟩
end Go.Proofs.Ytfkjnaaplhcheaa
