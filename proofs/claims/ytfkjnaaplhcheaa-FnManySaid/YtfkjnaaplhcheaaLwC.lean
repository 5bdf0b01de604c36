/-
  The law FnMany from its least share on (printed by many18.py).
-/
import Derived.Test.YtfkjnaaplhcheaaLwD
import Derived.Deep.RegionHeld3
import Derived.Deep.DeepCutAuto
import Derived.BigRegion
import Derived.BigQuiet
namespace Go.Proofs.Ytfkjnaaplhcheaa
open Go Go.RowKit Go.Sort Ieee

theorem min_sh {P : Program} {a b : Nat} (ha : a ≤ 64) (hb : b ≤ 64) (ts : Array TypeId) (t : TypeId) (w : World) : (Builtin.min_ ts t #[.float .f32 (shN a), .float .f32 (shN b)]).run P w = .ok (.float .f32 (shN (min a b))) w := by
  have la := n_pw (show a ≤ 640 by omega)
  have lb := n_pw (show b ≤ 640 by omega)
  have ho : FloatKind.f32.format.order (shN a) (shN b) = some (compare (key single (shN a)) (key single (shN b))) := order_key (f := single) (by decide) (pw_parts la).2.1 (pw_parts lb).2.1
  rw [(pw_parts la).2.2, (pw_parts lb).2.2] at ho
  rcases Nat.lt_trichotomy a b with h | h | h
  · have h1 := n_lt h (show b ≤ 640 by omega)
    have : compare ((shN a : Nat) : Int) (shN b : Nat) = .lt := by rw [Int.compare_eq_lt]; omega
    rw [this] at ho
    rw [show min a b = a by omega]
    simp [Builtin.min_, Builtin.min2, ho]
  · subst h
    have : compare ((shN a : Nat) : Int) (shN a : Nat) = .eq := by rw [Int.compare_eq_eq]
    rw [this] at ho
    rw [Nat.min_self]
    simp [Builtin.min_, Builtin.min2, ho]
  · have h1 := n_lt h (show a ≤ 640 by omega)
    have : compare ((shN a : Nat) : Int) (shN b : Nat) = .gt := by rw [Int.compare_eq_gt]; omega
    rw [this] at ho
    rw [show min a b = b by omega]
    simp [Builtin.min_, Builtin.min2, ho]
theorem max_sh {P : Program} {a b : Nat} (ha : a ≤ 64) (hb : b ≤ 64) (ts : Array TypeId) (t : TypeId) (w : World) : (Builtin.max_ ts t #[.float .f32 (shN a), .float .f32 (shN b)]).run P w = .ok (.float .f32 (shN (max a b))) w := by
  have la := n_pw (show a ≤ 640 by omega)
  have lb := n_pw (show b ≤ 640 by omega)
  have ho : FloatKind.f32.format.order (shN a) (shN b) = some (compare (key single (shN a)) (key single (shN b))) := order_key (f := single) (by decide) (pw_parts la).2.1 (pw_parts lb).2.1
  rw [(pw_parts la).2.2, (pw_parts lb).2.2] at ho
  rcases Nat.lt_trichotomy a b with h | h | h
  · have h1 := n_lt h (show b ≤ 640 by omega)
    have : compare ((shN a : Nat) : Int) (shN b : Nat) = .lt := by rw [Int.compare_eq_lt]; omega
    rw [this] at ho
    rw [show max a b = b by omega]
    simp [Builtin.max_, Builtin.max2, ho]
  · subst h
    have : compare ((shN a : Nat) : Int) (shN a : Nat) = .eq := by rw [Int.compare_eq_eq]
    rw [this] at ho
    rw [Nat.max_self]
    simp [Builtin.max_, Builtin.max2, ho]
  · have h1 := n_lt h (show a ≤ 640 by omega)
    have : compare ((shN a : Nat) : Int) (shN b : Nat) = .gt := by rw [Int.compare_eq_gt]; omega
    rw [this] at ho
    rw [show max a b = a by omega]
    simp [Builtin.max_, Builtin.max2, ho]
/-- what the loop over the means leans on -/
structure Mn (W w : World) (A6 A17 : Option Addr) (ks zs : List Nat) : Prop where
  bw : Below W.heap.size W w
  r6 : Rd w w.heap.size A6 (fl (ks.map shN))
  r17 : Rd w w.heap.size A17 (fl zs)
  hk : ∀ k ∈ ks, k < 65
  h1 : 1 ≤ ks.length
  h10 : ks.length ≤ 10
  z20 : zs.length = 20
  mean : ∀ lo hi, lo ≤ 64 → hi ≤ 64 → (∀ j, j < ks.length → lo ≤ ks.getD j 0) → (∀ j, j < ks.length → ks.getD j 0 ≤ hi) → ∀ i, i < 20 → ∃ j, j ≤ 640 ∧ zs.getD i 0 = gN j ks.length ∧ shN lo ≤ gN j ks.length ∧ gN j ks.length ≤ shN hi
  sort : ∀ i j, i ≤ j → j < 20 → zs.getD i 0 ≤ zs.getD j 0
  pw : ∀ i, i < 20 → zs.getD i 0 < 2139095040
/-- what the law asks of a mean, against the least and the most share -/
structure Mean1 (x L H : Nat) : Prop where
  cx : floatToFloatBits .f32 x .f64 = some (wdF x)
  cL : floatToFloatBits .f32 L .f64 = some (wdF L)
  cH : floatToFloatBits .f32 H .f64 = some (wdF H)
  aL : floatBits .sub .f64 (wdF L) 4562254508917369340 = some (dop .sub (wdF L) 4562254508917369340)
  aH : floatBits .add .f64 (wdF H) 4562254508917369340 = some (dop .add (wdF H) 4562254508917369340)
  oL : (FloatKind.f64.format.order (wdF x) (dop .sub (wdF L) 4562254508917369340) == some .lt) = false
  oH : (FloatKind.f64.format.order (wdF x) (dop .add (wdF H) 4562254508917369340) == some .gt) = false
theorem Mn.one {W w : World} {A6 A17 : Option Addr} {ks zs : List Nat} (h : Mn W w A6 A17 ks zs) {lo hi : Nat} (hlo : lo ≤ 64) (hhi : hi ≤ 64) (h1 : ∀ j, j < ks.length → lo ≤ ks.getD j 0) (h2 : ∀ j, j < ks.length → ks.getD j 0 ≤ hi) {i : Nat} (hi20 : i < 20) : Mean1 (zs.getD i 0) (shN lo) (shN hi) := by
  obtain ⟨j, hj, e, a, b⟩ := h.mean lo hi hlo hhi h1 h2 i hi20
  have n1 := h.h1
  have n10 := h.h10
  rw [e]
  exact ⟨(g_brk n1 (by omega) hj).2.2, wd_sh hlo, wd_sh hhi, (dn_s hlo).1, (up_s hhi).1, wide_down hj n1 (by omega) hlo a, wide_up hj n1 (by omega) hhi b⟩
theorem Mn.next {W w : World} {A6 A17 : Option Addr} {ks zs : List Nat} (h : Mn W w A6 A17 ks zs) {i j : Nat} (hij : i ≤ j) (hj : j < 20) : (FloatKind.f32.format.order (zs.getD j 0) (zs.getD i 0) == some .lt) = false ∧ (FloatKind.f32.format.order (zs.getD i 0) (zs.getD j 0) == some .gt) = false := by
  have hs := h.sort i j hij hj
  refine ⟨?_, gts_no (h.pw i (by omega)) (h.pw j hj) hs⟩
  rw [lts_iff (h.pw j hj) (h.pw i (by omega))]
  exact decide_eq_false (by omega)
set_option maxRecDepth 100000 in
set_option maxHeartbeats 3200000 in
theorem many_means (W w : World) (D A6 A17 : Option Addr) (kD cd c6 c17 kk : Nat) (ks zs : List Nat) {z0 z2 z3 z4 z7 z8 z9 z10 z11 z12 z13 z14 z15 z16 z18 z19 z22 z23 z24 z25 z26 z27 z28 z29 z30 z31 z32 z33 z34 z35 z36 z37 z38 z39 z40 z41 z42 z43 z44 z45 z46 z47 z48 z49 z50 z51 z52 z53 z54 z55 z56 z57 z58 z59 z60 z61 z62 z63 z64 z65 z66 z67 z68 z69 z70 z71 z72 z73 z74 z75 z76 z77 z78 z79 z80 z81 z82 z83 z84 z85 z86 z87 z88 z89 z90 z91 z92 z93 z94 z95 z96 z97 z98 z99 z100 z101 z102 z103 z104 z105 z106 z107 z108 z109 z110 z111 z112 z113 z114 z115 z116 z117 z118 z119 z120 z121 z122 z123 z124 z125 z126 z127 z128 z129 z130 z131 z132 z133 z134 z135 z136 z137 z138 z139 z140 z141 z142 z143 z144 z145 z146 z147 z148 z149 z150 z151 z152 z153 z154 z155 z156 z157 z158 z159 z160 z161 z162 z163 z164 z165 z166 z167 z168 z169 z170 z171 z172 z173 z174 z175 z176 z177 z178 z179 z180 z181 z182 z183 z184 z185 z186 z187 z188 z189 z190 z191 z192 z193 z194 z195 z196 z197 z198 z199 z200 z201 z202 z203 z204 z205 z206 z207 z208 z209 z210 z211 z212 z213 z214 z215 z216 z217 z218 z219 z220 z221 z222 z223 z224 z225 z226 z227 z228 z229 z230 z231 z232 z233 z234 z235 z236 z237 z238 z239 z240 z241 z242 z243 z244 z245 z246 z247 z248 z249 z250 z251 z252 z253 z254 z255 z256 z257 z258 z259 z260 z261 z262 z263 z264 z265 z266 z267 z268 z269 z270 z271 z272 z273 z274 z275 z276 z277 z278 z279 z280 z281 z282 z283 z284 z285 z286 z287 z288 z289 z290 z291 z292 z293 z294 z295 z296 z297 z298 z299 z300 z301 z302 z303 z304 z305 z306 z307 z308 z309 z310 z311 z312 z313 z314 z315 z316 z317 z318 z319 z320 z321 z322 z323 z324 z325 z326 z327 z328 z329 z330 z331 z332 z333 z334 z335 z336 z337 z338 z339 z340 z341 z342 z343 z344 z345 z346 z347 z348 z349 z350 z351 z352 z353 z354 z355 z356 z357 z358 z359 z360 z361 z362 z363 z364 z365 z366 z367 z368 z369 z370 z371 z372 z373 z374 z375 z376 z377 z378 z379 z380 z381 z382 z383 z384 z385 z386 z387 z388 z389 z390 z391 z392 z393 z394 z395 z396 z397 z398 z399 z400 z401 z402 z403 z404 z405 z406 z407 z408 z409 z410 z411 z412 z413 z414 z415 z416 z417 z418 z419 z420 z421 z422 z423 z424 z425 z426 z427 : Value} (h : Mn W w A6 A17 ks zs) (hkk : kk ≤ 9) (hD : BR w D kD) (hkD : kD ≤ 48) :
    Code.wp Try.prog (tailC 14 (Try.f4.body.getD .skip)) (bodyPost Try.prog Try.f4 (fun e w' => e = .returned (.bool true) ∧ Below W.heap.size W w')) ⟨(z0 :: .slice D kD cd :: z2 :: z3 :: z4 :: .int .i64 (ks.length : Nat) :: .slice A6 ks.length c6 :: z7 :: z8 :: z9 :: z10 :: z11 :: z12 :: z13 :: z14 :: z15 :: z16 :: .slice A17 20 c17 :: z18 :: z19 :: .float .f32 (zs.getD kk 0) :: .float .f32 (zs.getD (19 - kk) 0) :: z22 :: z23 :: z24 :: z25 :: z26 :: z27 :: z28 :: z29 :: z30 :: z31 :: z32 :: z33 :: z34 :: z35 :: z36 :: z37 :: z38 :: z39 :: z40 :: z41 :: z42 :: z43 :: z44 :: z45 :: z46 :: z47 :: z48 :: z49 :: z50 :: z51 :: z52 :: z53 :: z54 :: z55 :: z56 :: z57 :: z58 :: z59 :: z60 :: z61 :: z62 :: z63 :: z64 :: z65 :: z66 :: z67 :: z68 :: z69 :: z70 :: z71 :: z72 :: z73 :: z74 :: z75 :: z76 :: z77 :: z78 :: z79 :: z80 :: z81 :: z82 :: z83 :: z84 :: z85 :: z86 :: z87 :: z88 :: z89 :: z90 :: z91 :: z92 :: z93 :: z94 :: z95 :: z96 :: z97 :: z98 :: z99 :: z100 :: z101 :: z102 :: z103 :: z104 :: z105 :: z106 :: z107 :: z108 :: z109 :: z110 :: z111 :: z112 :: z113 :: z114 :: z115 :: z116 :: z117 :: z118 :: z119 :: z120 :: z121 :: z122 :: z123 :: z124 :: z125 :: z126 :: z127 :: z128 :: z129 :: z130 :: z131 :: z132 :: z133 :: z134 :: z135 :: z136 :: z137 :: z138 :: z139 :: z140 :: z141 :: z142 :: z143 :: z144 :: z145 :: z146 :: z147 :: z148 :: z149 :: z150 :: z151 :: z152 :: z153 :: z154 :: z155 :: z156 :: z157 :: z158 :: z159 :: z160 :: z161 :: z162 :: z163 :: z164 :: z165 :: z166 :: z167 :: z168 :: z169 :: z170 :: z171 :: z172 :: z173 :: z174 :: z175 :: z176 :: z177 :: z178 :: z179 :: z180 :: z181 :: z182 :: z183 :: z184 :: z185 :: z186 :: z187 :: z188 :: z189 :: z190 :: z191 :: z192 :: z193 :: z194 :: z195 :: z196 :: z197 :: z198 :: z199 :: z200 :: z201 :: z202 :: z203 :: z204 :: z205 :: z206 :: z207 :: z208 :: z209 :: z210 :: z211 :: z212 :: z213 :: z214 :: z215 :: z216 :: z217 :: z218 :: z219 :: z220 :: z221 :: z222 :: z223 :: z224 :: z225 :: z226 :: z227 :: z228 :: z229 :: z230 :: z231 :: z232 :: z233 :: z234 :: z235 :: z236 :: z237 :: z238 :: z239 :: z240 :: z241 :: z242 :: z243 :: z244 :: z245 :: z246 :: z247 :: z248 :: z249 :: z250 :: z251 :: z252 :: z253 :: z254 :: z255 :: z256 :: z257 :: z258 :: z259 :: z260 :: z261 :: z262 :: z263 :: z264 :: z265 :: z266 :: z267 :: z268 :: z269 :: z270 :: z271 :: z272 :: z273 :: z274 :: z275 :: z276 :: z277 :: z278 :: z279 :: z280 :: z281 :: z282 :: z283 :: z284 :: z285 :: z286 :: z287 :: z288 :: z289 :: z290 :: z291 :: z292 :: z293 :: z294 :: z295 :: z296 :: z297 :: z298 :: z299 :: z300 :: z301 :: z302 :: z303 :: z304 :: z305 :: z306 :: z307 :: z308 :: z309 :: z310 :: z311 :: z312 :: z313 :: z314 :: z315 :: z316 :: z317 :: z318 :: z319 :: z320 :: z321 :: z322 :: z323 :: z324 :: z325 :: z326 :: z327 :: z328 :: z329 :: z330 :: z331 :: z332 :: z333 :: z334 :: z335 :: z336 :: z337 :: z338 :: z339 :: z340 :: z341 :: z342 :: z343 :: z344 :: z345 :: z346 :: z347 :: z348 :: z349 :: z350 :: z351 :: z352 :: z353 :: z354 :: z355 :: z356 :: z357 :: z358 :: z359 :: z360 :: z361 :: z362 :: z363 :: z364 :: z365 :: z366 :: z367 :: z368 :: z369 :: z370 :: z371 :: z372 :: z373 :: z374 :: z375 :: z376 :: z377 :: z378 :: z379 :: z380 :: z381 :: z382 :: z383 :: z384 :: z385 :: z386 :: z387 :: z388 :: z389 :: z390 :: z391 :: z392 :: z393 :: z394 :: z395 :: z396 :: z397 :: z398 :: z399 :: z400 :: z401 :: z402 :: z403 :: z404 :: z405 :: z406 :: z407 :: z408 :: z409 :: z410 :: z411 :: z412 :: z413 :: z414 :: z415 :: z416 :: z417 :: z418 :: z419 :: z420 :: z421 :: z422 :: z423 :: z424 :: z425 :: z426 :: z427 :: []).toArray, []⟩ w := by
  let Q := (bodyPost Try.prog Try.f4 (fun e w' => e = .returned (.bool true) ∧ Below W.heap.size W w'))
  change Code.wp _ _ Q _ _
  conv => arg 2; whnf
  obtain ⟨b6, o6, rfl, hb6, c6⟩ := fl_cells h.r6 (by rw [List.length_map]; exact h.h1)
  obtain ⟨b17, o17, rfl, hb17, c17⟩ := fl_cells h.r17 (by rw [h.z20]; omega)
  have C6 : Hid (∀ i, i < ks.length → w.cell? ⟨b6, o6 + i, none⟩ = some (.float .f32 (shN (ks.getD i 0)))) := Lib.hid fun i hi => by rw [c6 i (by rw [List.length_map]; exact hi), sh_get hi]
  have C17 : Hid (∀ i, i < 20 → w.cell? ⟨b17, o17 + i, none⟩ = some (.float .f32 (zs.getD i 0))) := Lib.hid fun i hi => c17 i (by rw [h.z20]; exact hi)
  have K64 : Hid (∀ i, i < ks.length → ks.getD i 0 ≤ 64) := Lib.hid fun i hi => by have := ks_lt h.hk hi; omega
  have ONE : Hid (∀ lo hi, lo ≤ 64 → hi ≤ 64 → (∀ j, j < ks.length → lo ≤ ks.getD j 0) → (∀ j, j < ks.length → ks.getD j 0 ≤ hi) → ∀ i, i < 20 → Mean1 (zs.getD i 0) (shN lo) (shN hi)) := Lib.hid fun lo hi a b c d i hi20 => h.one a b c d hi20
  have NEXT : Hid (∀ i j, i ≤ j → j < 20 → (FloatKind.f32.format.order (zs.getD j 0) (zs.getD i 0) == some .lt) = false ∧ (FloatKind.f32.format.order (zs.getD i 0) (zs.getD j 0) == some .gt) = false) := Lib.hid fun i j a b => h.next a b
  have MIN : Hid (∀ a b, a ≤ 64 → b ≤ 64 → ∀ ts t w, (Builtin.min_ ts t #[.float .f32 (shN a), .float .f32 (shN b)]).run Try.prog w = .ok (.float .f32 (shN (min a b))) w) := Lib.hid fun a b ha hb ts t w => min_sh ha hb ts t w
  have MAX : Hid (∀ a b, a ≤ 64 → b ≤ 64 → ∀ ts t w, (Builtin.max_ ts t #[.float .f32 (shN a), .float .f32 (shN b)]).run Try.prog w = .ok (.float .f32 (shN (max a b))) w) := Lib.hid fun a b ha hb ts t w => max_sh ha hb ts t w
  have B0 := Lib.hid h.bw
  have HD := Lib.hid hD
  have h1 := h.h1
  have h10 := h.h10
  have HKD := Lib.hid hkD
  clear h c6 c17 hb6 hb17 hD hkD
  generalize hcc : Code.seq (Code.region 40 _ _) _ = cc
  have HCC := Lib.hid hcc
  clear hcc
  generalize hkv : (fun i => ks.getD i 0) = kv at *
  have hkv' : ∀ i, ks.getD i 0 = kv i := fun i => by rw [← hkv]
  simp only [hkv'] at C6 K64 ONE
  clear hkv hkv'
  generalize ks.length = n at *
  have c60 : w.cell? ⟨b6, o6, none⟩ = some (.float .f32 (shN (kv 0))) := C6.out 0 (by omega)
  have n0 : (0 : Int) < (n : Int) := by omega
  go_wp2_with fail
  go_loopw [23, 24, 25] (fun lv hv iv wr => ∃ i lo hi : Nat, 1 ≤ i ∧ i ≤ n ∧ iv = .int .i64 (i : Nat) ∧ lv = .float .f32 (shN lo) ∧ hv = .float .f32 (shN hi) ∧ lo ≤ 64 ∧ hi ≤ 64 ∧ (∀ j, j < i → lo ≤ kv j) ∧ (∀ j, j < i → kv j ≤ hi) ∧ w = wr) (fun _ _ iv _ => n - (intOf iv).toNat)
  case atStart =>
    refine ⟨1, kv 0, kv 0, by omega, by omega, rfl, rfl, rfl, K64.out 0 (by omega), K64.out 0 (by omega), fun j hj => ?_, fun j hj => ?_, rfl⟩
    · obtain rfl : j = 0 := by omega
      exact Nat.le_refl _
    · obtain rfl : j = 0 := by omega
      exact Nat.le_refl _
  case round =>
    clear c60
    obtain ⟨i, lo, hi, hi1, hin, rfl, rfl, rfl, hlo, hhi, hL, hH, rfl⟩ := hrel
    have HL := Lib.hid hL
    have HH := Lib.hid hH
    clear hL hH
    by_cases hlt : i < n
    · have ci := C6.out i hlt
      have k64 := K64.out i hlt
      have m1 := MIN.out lo (kv i) hlo k64
      have m2 := MAX.out hi (kv i) hhi k64
      have HKV := Lib.hid (rfl : kv i = kv i)
      obtain ⟨x, hx⟩ : ∃ x, kv i = x := ⟨_, rfl⟩
      rw [hx] at ci k64 m1 m2
      have HX := Lib.hid hx
      clear hx HKV
      obtain ⟨lo2, hlo2⟩ : ∃ y, min lo x = y := ⟨_, rfl⟩
      obtain ⟨hi2, hhi2⟩ : ∃ y, max hi x = y := ⟨_, rfl⟩
      rw [hlo2] at m1
      rw [hhi2] at m2
      have HLO := Lib.hid hlo2
      have HHI := Lib.hid hhi2
      clear hlo2 hhi2
      go_wp2_with fail
      go_roundw
      case rel =>
        refine ⟨i + 1, lo2, hi2, by omega, by omega, by go_num, by first | rfl | trivial, by first | rfl | trivial, ?_, ?_, fun j hj => ?_, fun j hj => ?_, by first | rfl | trivial⟩
        · have := HLO.out; omega
        · have := HHI.out; omega
        · have h9 := HLO.out
          by_cases hji : j < i
          · have := HL.out j hji
            omega
          · obtain rfl : j = i := by omega
            rw [HX.out]
            omega
        · have h9 := HHI.out
          by_cases hji : j < i
          · have := HH.out j hji
            omega
          · obtain rfl : j = i := by omega
            rw [HX.out]
            omega
      case measure => simp [intOf]; omega
    · obtain rfl : i = n := by omega
      have MEAN := Lib.hid (ONE.out lo hi hlo hhi HL.out HH.out)
      clear ONE HL HH MIN MAX C6 K64
      generalize shN lo = sl at *
      generalize shN hi = sh at *
      generalize hzv : (fun i => zs.getD i 0) = zv at *
      have hzv' : ∀ i, zs.getD i 0 = zv i := fun i => by rw [← hzv]
      simp only [hzv'] at C17 NEXT MEAN
      simp only [hzv']
      clear hzv hzv'
      go_wp2_with fail
      go_loopw [26] (fun iv wr => ∃ i q : Nat, i ≤ 20 ∧ iv = .int .i64 (i : Nat) ∧ wr = w.drewN q) (fun iv _ => 20 - (intOf iv).toNat)
      case atStart => exact ⟨0, 0, by omega, rfl, rfl⟩
      case round =>
        obtain ⟨i, q, hi20, rfl, rfl⟩ := hrel
        by_cases hlt2 : i < 20
        · have ci := C17.out i hlt2
          have hm := MEAN.out i hlt2
          obtain ⟨cx, cL, cH, aL, aH, oL, oH⟩ := hm
          have v1 := fun w => run_convert_float_float (P := Try.prog) w 50 51 .f32 .f64 _ _ (by rw [Try.underlying50]; rfl) Try.underlying51 cx
          have v2 := fun w => run_convert_float_float (P := Try.prog) w 50 51 .f32 .f64 _ _ (by rw [Try.underlying50]; rfl) Try.underlying51 cL
          have v3 := fun w => run_convert_float_float (P := Try.prog) w 50 51 .f32 .f64 _ _ (by rw [Try.underlying50]; rfl) Try.underlying51 cH
          have v4 := fun w => run_float_arith (P := Try.prog) w .sub 51 .f64 _ _ _ aL
          have v5 := fun w => run_float_arith (P := Try.prog) w .add 51 .f64 _ _ _ aH
          clear cx cL cH aL aH
          have hi20' : (i : Int) < 20 := by omega
          by_cases h0 : 0 < i
          · obtain ⟨p, rfl⟩ : ∃ p, i = p + 1 := ⟨i - 1, by omega⟩
            have cp := C17.out p (by omega)
            have hn := (NEXT.out p (p + 1) (by omega) hlt2).1
            generalize zv (p + 1) = x at *
            generalize zv p = y at *
            generalize dop .sub (wdF sl) 4562254508917369340 = d1 at *
            generalize dop .add (wdF sh) 4562254508917369340 = d2 at *
            generalize wdF x = wx at *
            generalize wdF sl = wl at *
            generalize wdF sh = wh at *
            have hw : wrap64 (((p + 1 : Nat) : Int) - 1) = (p : Nat) := by rw [show ((p + 1 : Nat) : Int) - 1 = (p : Nat) by omega]; unfold wrap64; omega
            have f1 : ((p + 1 : Nat) : Int) - 1 = (p : Nat) := by omega
            have f2 : ((p + 1 : Nat) : Int).toNat = p + 1 := by omega
            have f4 : (0 : Int) < ((p + 1 : Nat) : Int) := by omega
            have f6 : ((p : Nat) : Int) < 20 := by omega
            have f7 : (0 : Int) ≤ ((p + 1 : Nat) : Int) := by omega
            go_wp2_with fail
            go_quiet (fail)
            go_wp2_with fail
            go_roundw
            case rel => exact ⟨p + 1 + 1, _, by omega, by go_num, by first | rfl | (rw [World.drewN_drewN])⟩
            case measure => first | (simp [intOf]; done) | (simp [intOf]; omega)
          · obtain rfl : i = 0 := by omega
            have ci0 : w.cell? ⟨b17, o17, none⟩ = some (.float .f32 (zv 0)) := ci
            generalize zv 0 = x at *
            generalize dop .sub (wdF sl) 4562254508917369340 = d1 at *
            generalize dop .add (wdF sh) 4562254508917369340 = d2 at *
            generalize wdF x = wx at *
            generalize wdF sl = wl at *
            generalize wdF sh = wh at *
            go_wp2_with fail
            go_quiet (fail)
            go_wp2_with fail
            go_roundw
            case rel => exact ⟨1, _, by omega, by first | rfl | go_num, by first | rfl | (rw [World.drewN_drewN])⟩
            case measure => first | (simp [intOf]; done) | (simp [intOf]; omega)
        · obtain rfl : i = 20 := by omega
          have c0 : w.cell? ⟨b17, o17, none⟩ = some (.float .f32 (zv 0)) := C17.out 0 (by omega)
          have c19 := C17.out 19 (by omega)
          have g1 := (NEXT.out 0 kk (by omega) (by omega)).1
          have g2 := (NEXT.out (19 - kk) 19 (by omega) (by omega)).2
          clear MEAN NEXT C17
          go_wp2_with fail
          rw [← HCC.out]
          exact many_bets W _ D kD cd (below_drewN B0.out _) (HD.out.keep (below_drewN (Below.refl _ _) _)) HKD.out
end Go.Proofs.Ytfkjnaaplhcheaa
