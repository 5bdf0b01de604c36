/-
  The law FnTables from its turned table on (printed by lawparts15.py).
-/
import Derived.Test.YtbpigeipjeegiaaLt0
import Derived.Deep.RegionHeld3
import Derived.Deep.DeepCutAuto
import Derived.BigRegion
namespace Go.Proofs.Ytbpigeipjeegiaa
open Go Go.RowKit

theorem own_new9 (w : World) : (w.alloc (.cells #[.int .i64 1, .int .i64 0, .int .i64 0, .int .i64 0, .int .i64 1, .int .i64 0, .int .i64 0, .int .i64 0, .int .i64 1] 2)).ownsRow 0 2 1 (.slice (some ⟨w.heap.size, 0, none⟩) 9 9) 9 (nlv [1, 0, 0, 0, 1, 0, 0, 0, 1]) :=
  ⟨rfl, .inr ⟨w.heap.size, 9, _, rfl, Nat.zero_le _, heap_alloc_new w _, Nat.le_refl _, by unfold maxLen; omega, rfl, rfl⟩⟩
set_option maxRecDepth 100000 in
set_option maxHeartbeats 3200000 in
theorem tables_rest (B : Option Addr) (W wr : World) (m cb bx gx a b c d L T Bo ow : Nat) {z0 z2 z3 z4 z5 z6 z7 z8 z9 z12 z14 z15 z16 z17 z18 z19 z20 z21 z22 z23 z24 z25 z28 z29 z30 z31 z32 z34 z35 z36 z37 z38 z39 z40 z41 z42 z43 z44 z45 z46 z47 z48 z49 z50 z51 z52 z53 z54 z55 z56 z57 z58 z59 z60 z61 z62 z63 z64 z65 z66 z67 z68 z69 z70 z71 z72 z73 z74 z75 z76 z77 z78 z79 z80 z81 z82 z83 z84 z85 z86 z87 z88 z89 z90 z91 z92 z93 z94 z95 z96 z97 z98 z99 z100 z101 z102 z103 z104 z105 z106 z107 z108 z109 z110 z111 z112 z113 z114 z115 z116 z117 z118 z119 z120 z121 z122 z123 z124 z125 z126 z127 z128 z129 z130 z131 z132 z133 z134 z135 z136 z137 z138 z139 z140 z141 z142 z143 z144 z145 z146 z147 z148 z149 z150 z151 z152 z153 z154 z155 z156 z157 z158 z159 z160 z161 z162 z163 z164 z165 z166 z167 z168 z169 z170 z171 z172 z173 z174 z175 z176 z177 z178 z179 z180 z181 z182 z183 z184 z185 z186 z187 z188 z189 z190 z191 z192 z193 z194 z195 z196 z197 z198 z199 z200 z201 z202 z203 z204 z205 z206 z207 z208 z209 z210 z211 z212 z213 z214 z215 z216 z217 z218 z219 z220 z221 z222 z223 z224 z225 z226 z227 z228 z229 z230 z231 z232 z233 z234 z235 z236 z237 z238 z239 z240 z241 z242 z243 z244 z245 z246 z247 z248 z249 z250 z251 z252 z253 z254 z255 z256 z257 z258 z259 z260 z261 z262 z263 z264 z265 z266 z267 z268 z269 z270 z271 z272 z273 z274 z275 z276 z277 z278 z279 z280 z281 z282 z283 z284 z285 z286 z287 z288 z289 z290 z291 z292 z293 z294 z295 z296 z297 z298 z299 z300 z301 z302 z303 z304 z305 z306 z307 z308 z309 z310 z311 z312 z313 z314 z315 z316 z317 z318 z319 z320 z321 z322 z323 z324 z325 z326 z327 z328 z329 z330 z331 z332 z333 z334 z335 z336 z337 z338 z339 z340 z341 z342 z343 z344 z345 z346 z347 z348 z349 z350 z351 z352 z353 z354 z355 z356 z357 z358 z359 z360 z361 z362 z363 z364 z365 z366 z367 z368 z369 z370 z371 z372 z373 z374 z375 z376 z377 z378 z379 z380 z381 z382 z383 z384 z385 z386 z387 z388 : Value} (hBW : Below W.heap.size W wr) (hB : BR W B m) (hm : m ≤ 48)
    (hT16 : Two c d a b gx 4 wr) (u0 : wr.cell? ⟨bx, 0, none⟩ = some (.int .i64 2)) (u1 : wr.cell? ⟨bx, 1, none⟩ = some (.int .i64 2)) (u2 : wr.cell? ⟨bx, 2, none⟩ = some (.slice (some ⟨gx, 0, none⟩) 4 4))
    (hsum : L + lessN c d a b = T + ow) (hbo : ow ≤ Bo) (hT : T ≤ 1152921504606846976) (how : ow ≤ T) :
    Code.wp Try.prog (tailC 19 (Try.f3.body.getD .skip)) (bodyPost Try.prog Try.f3 (fun e w' => e = .returned (.bool true) ∧ Below W.heap.size W w')) ⟨(z0 :: .slice B m cb :: z2 :: z3 :: z4 :: z5 :: z6 :: z7 :: z8 :: z9 :: .int .i64 (L : Nat) :: .int .i64 (T : Nat) :: z12 :: .int .i64 (Bo : Nat) :: z14 :: z15 :: z16 :: z17 :: z18 :: z19 :: z20 :: z21 :: z22 :: z23 :: z24 :: z25 :: .int .i64 (L : Nat) :: .int .i64 (ow : Nat) :: z28 :: z29 :: z30 :: z31 :: z32 :: .pointer (some ⟨bx, 0, none⟩) :: z34 :: z35 :: z36 :: z37 :: z38 :: z39 :: z40 :: z41 :: z42 :: z43 :: z44 :: z45 :: z46 :: z47 :: z48 :: z49 :: z50 :: z51 :: z52 :: z53 :: z54 :: z55 :: z56 :: z57 :: z58 :: z59 :: z60 :: z61 :: z62 :: z63 :: z64 :: z65 :: z66 :: z67 :: z68 :: z69 :: z70 :: z71 :: z72 :: z73 :: z74 :: z75 :: z76 :: z77 :: z78 :: z79 :: z80 :: z81 :: z82 :: z83 :: z84 :: z85 :: z86 :: z87 :: z88 :: z89 :: z90 :: z91 :: z92 :: z93 :: z94 :: z95 :: z96 :: z97 :: z98 :: z99 :: z100 :: z101 :: z102 :: z103 :: z104 :: z105 :: z106 :: z107 :: z108 :: z109 :: z110 :: z111 :: z112 :: z113 :: z114 :: z115 :: z116 :: z117 :: z118 :: z119 :: z120 :: z121 :: z122 :: z123 :: z124 :: z125 :: z126 :: z127 :: z128 :: z129 :: z130 :: z131 :: z132 :: z133 :: z134 :: z135 :: z136 :: z137 :: z138 :: z139 :: z140 :: z141 :: z142 :: z143 :: z144 :: z145 :: z146 :: z147 :: z148 :: z149 :: z150 :: z151 :: z152 :: z153 :: z154 :: z155 :: z156 :: z157 :: z158 :: z159 :: z160 :: z161 :: z162 :: z163 :: z164 :: z165 :: z166 :: z167 :: z168 :: z169 :: z170 :: z171 :: z172 :: z173 :: z174 :: z175 :: z176 :: z177 :: z178 :: z179 :: z180 :: z181 :: z182 :: z183 :: z184 :: z185 :: z186 :: z187 :: z188 :: z189 :: z190 :: z191 :: z192 :: z193 :: z194 :: z195 :: z196 :: z197 :: z198 :: z199 :: z200 :: z201 :: z202 :: z203 :: z204 :: z205 :: z206 :: z207 :: z208 :: z209 :: z210 :: z211 :: z212 :: z213 :: z214 :: z215 :: z216 :: z217 :: z218 :: z219 :: z220 :: z221 :: z222 :: z223 :: z224 :: z225 :: z226 :: z227 :: z228 :: z229 :: z230 :: z231 :: z232 :: z233 :: z234 :: z235 :: z236 :: z237 :: z238 :: z239 :: z240 :: z241 :: z242 :: z243 :: z244 :: z245 :: z246 :: z247 :: z248 :: z249 :: z250 :: z251 :: z252 :: z253 :: z254 :: z255 :: z256 :: z257 :: z258 :: z259 :: z260 :: z261 :: z262 :: z263 :: z264 :: z265 :: z266 :: z267 :: z268 :: z269 :: z270 :: z271 :: z272 :: z273 :: z274 :: z275 :: z276 :: z277 :: z278 :: z279 :: z280 :: z281 :: z282 :: z283 :: z284 :: z285 :: z286 :: z287 :: z288 :: z289 :: z290 :: z291 :: z292 :: z293 :: z294 :: z295 :: z296 :: z297 :: z298 :: z299 :: z300 :: z301 :: z302 :: z303 :: z304 :: z305 :: z306 :: z307 :: z308 :: z309 :: z310 :: z311 :: z312 :: z313 :: z314 :: z315 :: z316 :: z317 :: z318 :: z319 :: z320 :: z321 :: z322 :: z323 :: z324 :: z325 :: z326 :: z327 :: z328 :: z329 :: z330 :: z331 :: z332 :: z333 :: z334 :: z335 :: z336 :: z337 :: z338 :: z339 :: z340 :: z341 :: z342 :: z343 :: z344 :: z345 :: z346 :: z347 :: z348 :: z349 :: z350 :: z351 :: z352 :: z353 :: z354 :: z355 :: z356 :: z357 :: z358 :: z359 :: z360 :: z361 :: z362 :: z363 :: z364 :: z365 :: z366 :: z367 :: z368 :: z369 :: z370 :: z371 :: z372 :: z373 :: z374 :: z375 :: z376 :: z377 :: z378 :: z379 :: z380 :: z381 :: z382 :: z383 :: z384 :: z385 :: z386 :: z387 :: z388 :: []).toArray, []⟩ wr := by
  let Q := (bodyPost Try.prog Try.f3 (fun e w' => e = .returned (.bool true) ∧ Below W.heap.size W w'))
  change Code.wp _ _ Q _ _
  conv => arg 2; whnf
  have B0 := Lib.hid hBW
  have HT2 : Hid (∀ W', Below W.heap.size W W' → Calls Try.prog 5 #[.slice B m cb, .int .i64 3, .int .i64 3, .int .i64 1] W' (fun e w' => ∃ (x0 : Nat) (xs : List Nat) (g3 c3 : Nat), xs.length + 1 = 9 ∧ x0 ≤ 1 ∧ (∀ x, x ∈ xs → x ≤ 1) ∧ e = .returned (.agg #[.int .i64 3, .int .i64 3, .slice (some ⟨g3, 0, none⟩) 9 c3]) ∧ w'.ownsRow W'.heap.size 2 1 (.slice (some ⟨g3, 0, none⟩) 9 c3) 9 (nlv ((x0 + 1) :: xs)) ∧ Below W'.heap.size W' w')) := Lib.hid fun W' hW => R8Table_any 3 3 1 9 m cb B W' (by omega) (by decide) (by omega) (by omega) (hB.keep hW)
  have HAT : Hid (∀ W', Below W.heap.size W W' → Calls Try.prog 14 #[.slice B m cb, .int .i64 0, .int .i64 20] W' (fun e w' => ∃ k : Nat, k < 20 ∧ e = .returned (.int .i64 k) ∧ W' = w')) := Lib.hid fun W' hW => r8At_any B m cb 20 W' (by omega) (hB.keep hW)
  have T16 := Lib.hid (hT16.ls wr (Below.refl _ _))
  generalize hL2 : lessN c d a b = L2 at *
  generalize pas (c + d + a + b) (c + d) = T2 at *
  obtain ⟨Z, hZ⟩ : ∃ Z, Z = T + ow := ⟨_, rfl⟩
  have hadd1 : IntKind.i64.wrap ((L : Int) + (L2 : Int)) = (Z : Int) := by
    rw [show (L : Int) + (L2 : Int) = (Z : Int) by omega]
    exact IntWalk.i64_in _ (by omega)
  have hadd2 : IntKind.i64.wrap ((T : Int) + (ow : Int)) = (Z : Int) := by
    rw [show (T : Int) + (ow : Int) = (Z : Int) by omega]
    exact IntWalk.i64_in _ (by omega)
  have hboI : ¬ (Bo : Int) < (ow : Int) := by omega
  clear hBW hB hT16 hsum hbo hT how hZ hL2
  go_upto_region 33 with (go_at_call 8; (with_reducible refine T16.out.mono ?_); rintro e w1 ⟨rfl, hb1⟩; have B1 := Lib.hid (below_next B0.out hb1); clear hb1)
  clear u0 u1 u2 T16 B0
  go_upto_region 35 with fail
  clear hadd1 hadd2 hboI
  go_upto_region 36 with (go_at_call 5; (with_reducible refine (HT2.out _ B1.out).mono ?_); rintro e w2 ⟨x0, xs, g3, c3, hl, hx0, hxs, rfl, hown, hb2⟩; have O2 := Lib.hid hown; have B2 := Lib.hid (below_next B1.out hb2); have X2 := Lib.hid (nine hl hx0 hxs); have HL2 := Lib.hid hl; clear hown hb2 hl hx0 hxs)
  have F3 : Hid (∀ w3, w3 = w2.alloc (.cells #[.int .i64 3, .int .i64 3, .slice (some ⟨g3, 0, none⟩) 9 c3] 26) → Below W.heap.size W w3 ∧ Rd w3 w3.heap.size (some ⟨g3, 0, none⟩) (nlv ((x0 + 1) :: xs)) ∧ (w3.cell? ⟨w2.heap.size, 0, none⟩ = some (.int .i64 3) ∧ w3.cell? ⟨w2.heap.size, 1, none⟩ = some (.int .i64 3) ∧ w3.cell? ⟨w2.heap.size, 2, none⟩ = some (.slice (some ⟨g3, 0, none⟩) 9 c3))) := Lib.hid fun w3 h => by
    subst h
    exact ⟨below_al B2.out _, (Rd.of_own O2.out).at_ (below_al (Below.refl _ _) _), at_new _ _ _ _ _ _ rfl rfl, at_new _ _ _ _ _ _ rfl rfl, at_new _ _ _ _ _ _ rfl rfl⟩
  have hF := F3.out _ rfl
  obtain ⟨t0, t1, t2⟩ := hF.2.2
  have B3 := Lib.hid hF.1
  have R3 := Lib.hid hF.2.1
  obtain ⟨p, q, hpq, hp1, hp2, hp3, hs1, hs2⟩ := X2.out
  have HEX : Hid (Calls Try.prog 10 #[.agg #[.int .i64 3, .int .i64 3, .slice (some ⟨g3, 0, none⟩) 9 c3]] (w2.alloc (.cells #[.int .i64 3, .int .i64 3, .slice (some ⟨g3, 0, none⟩) 9 c3] 26)) (fun e w' => e = .returned (.tuple #[.int .i64 p, .int .i64 q, .bool true]) ∧ Below (w2.alloc (.cells #[.int .i64 3, .int .i64 3, .slice (some ⟨g3, 0, none⟩) 9 c3] 26)).heap.size (w2.alloc (.cells #[.int .i64 3, .int .i64 3, .slice (some ⟨g3, 0, none⟩) 9 c3] 26)) w')) := Lib.hid (by
    have := ExactTail_ok 3 3 ((x0 + 1) :: xs) (some ⟨g3, 0, none⟩) c3 _ (by omega) (by omega) HL2.out ⟨hs1, hs2⟩ (own_cap O2.out) R3.out
    rw [hpq] at this
    exact this)
  obtain ⟨sh, hsh, hg, hle⟩ := share_run hp1 hp2 hp3
  have HSH := Lib.hid fun w => ShareOfTail_ok p q sh hp1 hp2 hsh w
  have hg2 : (FloatKind.f32.format.order sh 0 == some .gt) = true := hg
  have hle2 : (FloatKind.f32.format.order sh 1065353216 == some .lt || FloatKind.f32.format.order sh 1065353216 == some .eq) = true := hle
  clear hg hle
  have hp1I : (1 : Int) ≤ (p : Int) := by omega
  have hpqI : (p : Int) ≤ (q : Int) := by omega
  clear F3 hF X2 HL2 hpq hp1 hp2 hp3 hs1 hs2 hsh R3 O2 B2 HT2
  generalize World.alloc w2 _ = w3 at *
  generalize w2.heap.size = b2 at *
  go_upto_region 37 with (go_at_call 10; (with_reducible refine HEX.out.mono ?_); rintro e w4 ⟨rfl, hb4⟩; have B4 := Lib.hid (below_next B3.out hb4); clear hb4)
  clear t0 t1 t2 HEX
  have HFL : Hid (∀ W' gq, W'.ownsRow 0 2 1 (.slice (some ⟨gq, 0, none⟩) 9 9) 9 (nlv [1, 0, 0, 0, 1, 0, 0, 0, 1]) → Calls Try.prog 10 #[.agg #[.int .i64 3, .int .i64 3, .slice (some ⟨gq, 0, none⟩) 9 9]] W' (fun e w' => e = .returned (.tuple #[.int .i64 6, .int .i64 6, .bool true]) ∧ Below W'.heap.size W' w')) := Lib.hid fun W' gq h => by
    have := ExactTail_ok 3 3 [1, 0, 0, 0, 1, 0, 0, 0, 1] (some ⟨gq, 0, none⟩) 9 W' (by omega) (by omega) rfl (by decide) (Nat.le_refl 9) (Rd.of_own h)
    rw [flat33] at this
    exact this
  have O9 : Hid (∀ W', W' = w4.alloc (.cells #[.int .i64 1, .int .i64 0, .int .i64 0, .int .i64 0, .int .i64 1, .int .i64 0, .int .i64 0, .int .i64 0, .int .i64 1] 2) → Below W.heap.size W W' ∧ W'.ownsRow 0 2 1 (.slice (some ⟨w4.heap.size, 0, none⟩) 9 9) 9 (nlv [1, 0, 0, 0, 1, 0, 0, 0, 1])) := Lib.hid fun W' h => by
    subst h
    exact ⟨below_al B4.out _, own_new9 w4⟩
  go_upto_region 38 with (go_at_call 10; (with_reducible refine (HFL.out _ _ (O9.out _ rfl).2).mono ?_); rintro e w5 ⟨rfl, hb5⟩; have B5 := Lib.hid (below_next (O9.out _ rfl).1 hb5); clear hb5)
  clear HFL O9 B4
  go_upto_region 39 with (go_at_call 13; (with_reducible refine (HSH.out _).mono ?_); rintro e w6 ⟨rfl, rfl⟩)
  clear HSH
  go_upto_region 40 with (go_at_call 14; (with_reducible refine (HAT.out _ B5.out).mono ?_); rintro e w7 ⟨k, hk, rfl, rfl⟩)
  clear HAT
  have hkw : IntKind.i64.wrap ((k : Int) + 1) = ((k + 1 : Nat) : Int) := by
    rw [show (k : Int) + 1 = ((k + 1 : Nat) : Int) by omega]
    exact IntWalk.i64_in _ (by omega)
  have HC1 : Hid (∀ W', Calls Try.prog 11 #[.int .i64 20, .int .i64 (k : Nat)] W' (fun e w' => e = .returned (.tuple #[.int .i64 (pas 20 k : Nat), .bool true]) ∧ Below W'.heap.size W' w')) := Lib.hid fun W' => Choices_ok 20 k (by omega) (by omega) W'
  have HC2 : Hid (∀ W', Calls Try.prog 11 #[.int .i64 20, .int .i64 ((k + 1 : Nat) : Int)] W' (fun e w' => e = .returned (.tuple #[.int .i64 (pas 20 (k + 1) : Nat), .bool true]) ∧ Below W'.heap.size W' w')) := Lib.hid fun W' => Choices_ok 20 (k + 1) (by omega) (by omega) W'
  have HC3 : Hid (∀ W', Calls Try.prog 11 #[.int .i64 21, .int .i64 ((k + 1 : Nat) : Int)] W' (fun e w' => e = .returned (.tuple #[.int .i64 (pas 21 (k + 1) : Nat), .bool true]) ∧ Below W'.heap.size W' w')) := Lib.hid fun W' => Choices_ok 21 (k + 1) (by omega) (by omega) W'
  have hpe : IntKind.i64.wrap ((pas 20 k : Int) + (pas 20 (k + 1) : Int)) = (pas 21 (k + 1) : Int) := by
    have e := pas_succ 20 k
    have h1 := pas_small (n := 21) (by omega) (k + 1)
    rw [e] at h1
    rw [e, ← Int.natCast_add]
    exact IntWalk.i64_in _ (by omega)
  clear hk
  generalize k + 1 = k1 at *
  generalize pas 20 k = P1 at *
  generalize pas 20 k1 = P2 at *
  generalize pas 21 k1 = P3 at *
  go_upto_region 41 with (go_at_call 11; (with_reducible refine (HC1.out _).mono ?_); rintro e w8 ⟨rfl, hb8⟩; have B8 := Lib.hid (below_next B5.out hb8); clear hb8)
  go_upto_region 42 with (go_at_call 11; (with_reducible refine (HC2.out _).mono ?_); rintro e w9 ⟨rfl, hb9⟩; have B9 := Lib.hid (below_next B8.out hb9); clear hb9)
  go_upto_region 43 with (go_at_call 11; (with_reducible refine (HC3.out _).mono ?_); rintro e w10 ⟨rfl, hb10⟩; have B10 := Lib.hid (below_next B9.out hb10); clear hb10)
  clear HC1 HC2 HC3
  go_wp2_with fail
  go_ret
  refine ⟨?_, B10.out⟩
  first | rfl | (show Ending.returned (.bool (FloatKind.f32.format.order sh 1065353216 == some .lt || FloatKind.f32.format.order sh 1065353216 == some .eq)) = _; rw [hle2])
theorem own_four (w : World) (c d a b : Nat) : (w.alloc (.cells #[.int .i64 (c : Nat), .int .i64 (d : Nat), .int .i64 (a : Nat), .int .i64 (b : Nat)] 2)).ownsRow w.heap.size 2 1 (.slice (some ⟨w.heap.size, 0, none⟩) 4 4) 4 (nlv [c, d, a, b]) :=
  ⟨rfl, .inr ⟨w.heap.size, 4, _, rfl, Nat.le_refl _, heap_alloc_new w _, Nat.le_refl _, by unfold maxLen; omega, rfl, rfl⟩⟩
/-- what the rest leans on -/
structure Rest (W : World) (m : Nat) (B : Option Addr) (cb bx gx a b c d L T Bo ow : Nat) (wr : World) : Prop where
  bw : Below W.heap.size W wr
  hB : BR W B m
  hm : m ≤ 48
  t : Two c d a b gx 4 wr
  u0 : wr.cell? ⟨bx, 0, none⟩ = some (.int .i64 2)
  u1 : wr.cell? ⟨bx, 1, none⟩ = some (.int .i64 2)
  u2 : wr.cell? ⟨bx, 2, none⟩ = some (.slice (some ⟨gx, 0, none⟩) 4 4)
  s : L + lessN c d a b = T + ow
  o : ow ≤ Bo
  h : T ≤ 1152921504606846976
  w : ow ≤ T
set_option maxRecDepth 100000 in
theorem Rest.go {B : Option Addr} {W wr : World} {m cb bx gx a b c d L T Bo ow : Nat} {z0 z2 z3 z4 z5 z6 z7 z8 z9 z12 z14 z15 z16 z17 z18 z19 z20 z21 z22 z23 z24 z25 z28 z29 z30 z31 z32 z34 z35 z36 z37 z38 z39 z40 z41 z42 z43 z44 z45 z46 z47 z48 z49 z50 z51 z52 z53 z54 z55 z56 z57 z58 z59 z60 z61 z62 z63 z64 z65 z66 z67 z68 z69 z70 z71 z72 z73 z74 z75 z76 z77 z78 z79 z80 z81 z82 z83 z84 z85 z86 z87 z88 z89 z90 z91 z92 z93 z94 z95 z96 z97 z98 z99 z100 z101 z102 z103 z104 z105 z106 z107 z108 z109 z110 z111 z112 z113 z114 z115 z116 z117 z118 z119 z120 z121 z122 z123 z124 z125 z126 z127 z128 z129 z130 z131 z132 z133 z134 z135 z136 z137 z138 z139 z140 z141 z142 z143 z144 z145 z146 z147 z148 z149 z150 z151 z152 z153 z154 z155 z156 z157 z158 z159 z160 z161 z162 z163 z164 z165 z166 z167 z168 z169 z170 z171 z172 z173 z174 z175 z176 z177 z178 z179 z180 z181 z182 z183 z184 z185 z186 z187 z188 z189 z190 z191 z192 z193 z194 z195 z196 z197 z198 z199 z200 z201 z202 z203 z204 z205 z206 z207 z208 z209 z210 z211 z212 z213 z214 z215 z216 z217 z218 z219 z220 z221 z222 z223 z224 z225 z226 z227 z228 z229 z230 z231 z232 z233 z234 z235 z236 z237 z238 z239 z240 z241 z242 z243 z244 z245 z246 z247 z248 z249 z250 z251 z252 z253 z254 z255 z256 z257 z258 z259 z260 z261 z262 z263 z264 z265 z266 z267 z268 z269 z270 z271 z272 z273 z274 z275 z276 z277 z278 z279 z280 z281 z282 z283 z284 z285 z286 z287 z288 z289 z290 z291 z292 z293 z294 z295 z296 z297 z298 z299 z300 z301 z302 z303 z304 z305 z306 z307 z308 z309 z310 z311 z312 z313 z314 z315 z316 z317 z318 z319 z320 z321 z322 z323 z324 z325 z326 z327 z328 z329 z330 z331 z332 z333 z334 z335 z336 z337 z338 z339 z340 z341 z342 z343 z344 z345 z346 z347 z348 z349 z350 z351 z352 z353 z354 z355 z356 z357 z358 z359 z360 z361 z362 z363 z364 z365 z366 z367 z368 z369 z370 z371 z372 z373 z374 z375 z376 z377 z378 z379 z380 z381 z382 z383 z384 z385 z386 z387 z388 : Value} (h : Rest W m B cb bx gx a b c d L T Bo ow wr) : Code.wp Try.prog (tailC 19 (Try.f3.body.getD .skip)) (bodyPost Try.prog Try.f3 (fun e w' => e = .returned (.bool true) ∧ Below W.heap.size W w')) ⟨(z0 :: .slice B m cb :: z2 :: z3 :: z4 :: z5 :: z6 :: z7 :: z8 :: z9 :: .int .i64 (L : Nat) :: .int .i64 (T : Nat) :: z12 :: .int .i64 (Bo : Nat) :: z14 :: z15 :: z16 :: z17 :: z18 :: z19 :: z20 :: z21 :: z22 :: z23 :: z24 :: z25 :: .int .i64 (L : Nat) :: .int .i64 (ow : Nat) :: z28 :: z29 :: z30 :: z31 :: z32 :: .pointer (some ⟨bx, 0, none⟩) :: z34 :: z35 :: z36 :: z37 :: z38 :: z39 :: z40 :: z41 :: z42 :: z43 :: z44 :: z45 :: z46 :: z47 :: z48 :: z49 :: z50 :: z51 :: z52 :: z53 :: z54 :: z55 :: z56 :: z57 :: z58 :: z59 :: z60 :: z61 :: z62 :: z63 :: z64 :: z65 :: z66 :: z67 :: z68 :: z69 :: z70 :: z71 :: z72 :: z73 :: z74 :: z75 :: z76 :: z77 :: z78 :: z79 :: z80 :: z81 :: z82 :: z83 :: z84 :: z85 :: z86 :: z87 :: z88 :: z89 :: z90 :: z91 :: z92 :: z93 :: z94 :: z95 :: z96 :: z97 :: z98 :: z99 :: z100 :: z101 :: z102 :: z103 :: z104 :: z105 :: z106 :: z107 :: z108 :: z109 :: z110 :: z111 :: z112 :: z113 :: z114 :: z115 :: z116 :: z117 :: z118 :: z119 :: z120 :: z121 :: z122 :: z123 :: z124 :: z125 :: z126 :: z127 :: z128 :: z129 :: z130 :: z131 :: z132 :: z133 :: z134 :: z135 :: z136 :: z137 :: z138 :: z139 :: z140 :: z141 :: z142 :: z143 :: z144 :: z145 :: z146 :: z147 :: z148 :: z149 :: z150 :: z151 :: z152 :: z153 :: z154 :: z155 :: z156 :: z157 :: z158 :: z159 :: z160 :: z161 :: z162 :: z163 :: z164 :: z165 :: z166 :: z167 :: z168 :: z169 :: z170 :: z171 :: z172 :: z173 :: z174 :: z175 :: z176 :: z177 :: z178 :: z179 :: z180 :: z181 :: z182 :: z183 :: z184 :: z185 :: z186 :: z187 :: z188 :: z189 :: z190 :: z191 :: z192 :: z193 :: z194 :: z195 :: z196 :: z197 :: z198 :: z199 :: z200 :: z201 :: z202 :: z203 :: z204 :: z205 :: z206 :: z207 :: z208 :: z209 :: z210 :: z211 :: z212 :: z213 :: z214 :: z215 :: z216 :: z217 :: z218 :: z219 :: z220 :: z221 :: z222 :: z223 :: z224 :: z225 :: z226 :: z227 :: z228 :: z229 :: z230 :: z231 :: z232 :: z233 :: z234 :: z235 :: z236 :: z237 :: z238 :: z239 :: z240 :: z241 :: z242 :: z243 :: z244 :: z245 :: z246 :: z247 :: z248 :: z249 :: z250 :: z251 :: z252 :: z253 :: z254 :: z255 :: z256 :: z257 :: z258 :: z259 :: z260 :: z261 :: z262 :: z263 :: z264 :: z265 :: z266 :: z267 :: z268 :: z269 :: z270 :: z271 :: z272 :: z273 :: z274 :: z275 :: z276 :: z277 :: z278 :: z279 :: z280 :: z281 :: z282 :: z283 :: z284 :: z285 :: z286 :: z287 :: z288 :: z289 :: z290 :: z291 :: z292 :: z293 :: z294 :: z295 :: z296 :: z297 :: z298 :: z299 :: z300 :: z301 :: z302 :: z303 :: z304 :: z305 :: z306 :: z307 :: z308 :: z309 :: z310 :: z311 :: z312 :: z313 :: z314 :: z315 :: z316 :: z317 :: z318 :: z319 :: z320 :: z321 :: z322 :: z323 :: z324 :: z325 :: z326 :: z327 :: z328 :: z329 :: z330 :: z331 :: z332 :: z333 :: z334 :: z335 :: z336 :: z337 :: z338 :: z339 :: z340 :: z341 :: z342 :: z343 :: z344 :: z345 :: z346 :: z347 :: z348 :: z349 :: z350 :: z351 :: z352 :: z353 :: z354 :: z355 :: z356 :: z357 :: z358 :: z359 :: z360 :: z361 :: z362 :: z363 :: z364 :: z365 :: z366 :: z367 :: z368 :: z369 :: z370 :: z371 :: z372 :: z373 :: z374 :: z375 :: z376 :: z377 :: z378 :: z379 :: z380 :: z381 :: z382 :: z383 :: z384 :: z385 :: z386 :: z387 :: z388 :: []).toArray, []⟩ wr :=
  tables_rest B W wr m cb bx gx a b c d L T Bo ow h.bw h.hB h.hm h.t h.u0 h.u1 h.u2 h.s h.o h.h h.w
end Go.Proofs.Ytbpigeipjeegiaa
