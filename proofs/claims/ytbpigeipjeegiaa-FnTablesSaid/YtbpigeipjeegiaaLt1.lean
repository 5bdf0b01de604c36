/-
  The law FnTables from its loop on (printed by lawparts15.py).
-/
import Derived.Test.YtbpigeipjeegiaaLt2
namespace Go.Proofs.Ytbpigeipjeegiaa
open Go Go.RowKit

/-- what the law's loop leans on -/
structure LoopH (W w7 : World) (m : Nat) (B : Option Addr) (cb bt g3 c3 gR gC a b c d r0 c0 c1 L T Bo ow lo hi mt : Nat) : Prop where
  bw : Below W.heap.size W w7
  hB : BR W B m
  hm : m ≤ 48
  bd : (1 ≤ a ∧ a ≤ 5) ∧ b ≤ 4 ∧ c ≤ 4 ∧ d ≤ 4
  e : r0 = a + b ∧ c0 = a + c ∧ c1 = b + d
  lm : lo ≤ r0 ∧ lo + mt = min r0 c0 + 1 ∧ lo ≤ a ∧ r0 - lo ≤ c1 ∧ mt ≤ 10
  hi : hi = min r0 c0
  p : ow ≤ L ∧ L ≤ T ∧ ow ≤ Bo ∧ T ≤ 1152921504606846976 ∧ L + lessN c d a b = T + ow
  su : (∃ lp op : Nat → Nat, lp 0 = 0 ∧ op 0 = 0 ∧ (∀ i, lp (i + 1) = lp i + (if i ≤ a - lo then pas c0 (lo + i) * pas c1 (r0 - (lo + i)) else 0)) ∧ (∀ i, op (i + 1) = if i = a - lo then pas c0 (lo + i) * pas c1 (r0 - (lo + i)) else op i) ∧ lp mt = L ∧ op mt = ow ∧ ∀ i, i ≤ mt → lp i ≤ L)
  kr : (∀ W', Below w7.heap.size w7 W' → (W'.cell? ⟨gR, 0, none⟩ = some (.int .i64 (r0 : Nat)) ∧ W'.cell? ⟨gC, 0, none⟩ = some (.int .i64 (c0 : Nat)) ∧ W'.cell? ⟨gC, 1, none⟩ = some (.int .i64 (c1 : Nat))) ∧ W'.cell? ⟨bt, 2, none⟩ = some (.slice (some ⟨g3, 0, none⟩) 4 c3) ∧ (W'.cell? ⟨g3, 0, none⟩ = some (.int .i64 (a : Nat)) ∧ W'.cell? ⟨g3, 1, none⟩ = some (.int .i64 (b : Nat)) ∧ W'.cell? ⟨g3, 2, none⟩ = some (.int .i64 (c : Nat)) ∧ W'.cell? ⟨g3, 3, none⟩ = some (.int .i64 (d : Nat))))
set_option maxRecDepth 100000 in
set_option maxHeartbeats 3200000 in
theorem tables_loop (B : Option Addr) (W w7 w13 : World) (m cb bt g3 c3 gR cR gC cC a b c d r0 c0 c1 L T Bo ow lo hi mt : Nat) {z0 z2 z3 z4 z7 z9 z12 z14 z15 z16 z17 z18 z19 z20 z21 z22 z23 z28 z29 z30 z31 z32 z33 z34 z35 z36 z37 z38 z39 z40 z41 z42 z43 z44 z45 z46 z47 z48 z49 z50 z51 z52 z53 z54 z55 z56 z57 z58 z59 z60 z61 z62 z63 z64 z65 z66 z67 z68 z69 z70 z71 z72 z73 z74 z75 z76 z77 z78 z79 z80 z81 z82 z83 z84 z85 z86 z87 z88 z89 z90 z91 z92 z93 z94 z95 z96 z97 z98 z99 z100 z101 z102 z103 z104 z105 z106 z107 z108 z109 z110 z111 z112 z113 z114 z115 z116 z117 z118 z119 z120 z121 z122 z123 z124 z125 z126 z127 z128 z129 z130 z131 z132 z133 z134 z135 z136 z137 z138 z139 z140 z141 z142 z143 z144 z145 z146 z147 z148 z149 z150 z151 z152 z153 z154 z155 z156 z157 z158 z159 z160 z161 z162 z163 z164 z165 z166 z167 z168 z169 z170 z171 z172 z173 z174 z175 z176 z177 z178 z179 z180 z181 z182 z183 z184 z185 z186 z187 z188 z189 z190 z191 z192 z193 z194 z195 z196 z197 z198 z199 z200 z201 z202 z203 z204 z205 z206 z207 z208 z209 z210 z211 z212 z213 z214 z215 z216 z217 z218 z219 z220 z221 z222 z223 z224 z225 z226 z227 z228 z229 z230 z231 z232 z233 z234 z235 z236 z237 z238 z239 z240 z241 z242 z243 z244 z245 z246 z247 z248 z249 z250 z251 z252 z253 z254 z255 z256 z257 z258 z259 z260 z261 z262 z263 z264 z265 z266 z267 z268 z269 z270 z271 z272 z273 z274 z275 z276 z277 z278 z279 z280 z281 z282 z283 z284 z285 z286 z287 z288 z289 z290 z291 z292 z293 z294 z295 z296 z297 z298 z299 z300 z301 z302 z303 z304 z305 z306 z307 z308 z309 z310 z311 z312 z313 z314 z315 z316 z317 z318 z319 z320 z321 z322 z323 z324 z325 z326 z327 z328 z329 z330 z331 z332 z333 z334 z335 z336 z337 z338 z339 z340 z341 z342 z343 z344 z345 z346 z347 z348 z349 z350 z351 z352 z353 z354 z355 z356 z357 z358 z359 z360 z361 z362 z363 z364 z365 z366 z367 z368 z369 z370 z371 z372 z373 z374 z375 z376 z377 z378 z379 z380 z381 z382 z383 z384 z385 z386 z387 z388 : Value} (h : LoopH W w7 m B cb bt g3 c3 gR gC a b c d r0 c0 c1 L T Bo ow lo hi mt) (hK13 : Below w7.heap.size w7 w13) :
    Code.wp Try.prog (tailC 17 (Try.f3.body.getD .skip)) (bodyPost Try.prog Try.f3 (fun e w' => e = .returned (.bool true) ∧ Below W.heap.size W w')) ⟨(z0 :: .slice B m cb :: z2 :: z3 :: z4 :: .pointer (some ⟨bt, 0, none⟩) :: .slice (some ⟨gR, 0, none⟩) 2 cR :: z7 :: .slice (some ⟨gC, 0, none⟩) 2 cC :: z9 :: .int .i64 (L : Nat) :: .int .i64 (T : Nat) :: z12 :: .int .i64 (Bo : Nat) :: z14 :: z15 :: z16 :: z17 :: z18 :: z19 :: z20 :: z21 :: z22 :: z23 :: .int .i64 (lo : Nat) :: .int .i64 (hi : Nat) :: .int .i64 0 :: .int .i64 0 :: z28 :: z29 :: z30 :: z31 :: z32 :: z33 :: z34 :: z35 :: z36 :: z37 :: z38 :: z39 :: z40 :: z41 :: z42 :: z43 :: z44 :: z45 :: z46 :: z47 :: z48 :: z49 :: z50 :: z51 :: z52 :: z53 :: z54 :: z55 :: z56 :: z57 :: z58 :: z59 :: z60 :: z61 :: z62 :: z63 :: z64 :: z65 :: z66 :: z67 :: z68 :: z69 :: z70 :: z71 :: z72 :: z73 :: z74 :: z75 :: z76 :: z77 :: z78 :: z79 :: z80 :: z81 :: z82 :: z83 :: z84 :: z85 :: z86 :: z87 :: z88 :: z89 :: z90 :: z91 :: z92 :: z93 :: z94 :: z95 :: z96 :: z97 :: z98 :: z99 :: z100 :: z101 :: z102 :: z103 :: z104 :: z105 :: z106 :: z107 :: z108 :: z109 :: z110 :: z111 :: z112 :: z113 :: z114 :: z115 :: z116 :: z117 :: z118 :: z119 :: z120 :: z121 :: z122 :: z123 :: z124 :: z125 :: z126 :: z127 :: z128 :: z129 :: z130 :: z131 :: z132 :: z133 :: z134 :: z135 :: z136 :: z137 :: z138 :: z139 :: z140 :: z141 :: z142 :: z143 :: z144 :: z145 :: z146 :: z147 :: z148 :: z149 :: z150 :: z151 :: z152 :: z153 :: z154 :: z155 :: z156 :: z157 :: z158 :: z159 :: z160 :: z161 :: z162 :: z163 :: z164 :: z165 :: z166 :: z167 :: z168 :: z169 :: z170 :: z171 :: z172 :: z173 :: z174 :: z175 :: z176 :: z177 :: z178 :: z179 :: z180 :: z181 :: z182 :: z183 :: z184 :: z185 :: z186 :: z187 :: z188 :: z189 :: z190 :: z191 :: z192 :: z193 :: z194 :: z195 :: z196 :: z197 :: z198 :: z199 :: z200 :: z201 :: z202 :: z203 :: z204 :: z205 :: z206 :: z207 :: z208 :: z209 :: z210 :: z211 :: z212 :: z213 :: z214 :: z215 :: z216 :: z217 :: z218 :: z219 :: z220 :: z221 :: z222 :: z223 :: z224 :: z225 :: z226 :: z227 :: z228 :: z229 :: z230 :: z231 :: z232 :: z233 :: z234 :: z235 :: z236 :: z237 :: z238 :: z239 :: z240 :: z241 :: z242 :: z243 :: z244 :: z245 :: z246 :: z247 :: z248 :: z249 :: z250 :: z251 :: z252 :: z253 :: z254 :: z255 :: z256 :: z257 :: z258 :: z259 :: z260 :: z261 :: z262 :: z263 :: z264 :: z265 :: z266 :: z267 :: z268 :: z269 :: z270 :: z271 :: z272 :: z273 :: z274 :: z275 :: z276 :: z277 :: z278 :: z279 :: z280 :: z281 :: z282 :: z283 :: z284 :: z285 :: z286 :: z287 :: z288 :: z289 :: z290 :: z291 :: z292 :: z293 :: z294 :: z295 :: z296 :: z297 :: z298 :: z299 :: z300 :: z301 :: z302 :: z303 :: z304 :: z305 :: z306 :: z307 :: z308 :: z309 :: z310 :: z311 :: z312 :: z313 :: z314 :: z315 :: z316 :: z317 :: z318 :: z319 :: z320 :: z321 :: z322 :: z323 :: z324 :: z325 :: z326 :: z327 :: z328 :: z329 :: z330 :: z331 :: z332 :: z333 :: z334 :: z335 :: z336 :: z337 :: z338 :: z339 :: z340 :: z341 :: z342 :: z343 :: z344 :: z345 :: z346 :: z347 :: z348 :: z349 :: z350 :: z351 :: z352 :: z353 :: z354 :: z355 :: z356 :: z357 :: z358 :: z359 :: z360 :: z361 :: z362 :: z363 :: z364 :: z365 :: z366 :: z367 :: z368 :: z369 :: z370 :: z371 :: z372 :: z373 :: z374 :: z375 :: z376 :: z377 :: z378 :: z379 :: z380 :: z381 :: z382 :: z383 :: z384 :: z385 :: z386 :: z387 :: z388 :: []).toArray, []⟩ w13 := by
  let Q := (bodyPost Try.prog Try.f3 (fun e w' => e = .returned (.bool true) ∧ Below W.heap.size W w'))
  change Code.wp _ _ Q _ _
  conv => arg 2; whnf
  refine wp_seq_k fun KK hKK => ?_
  have HKK := Lib.hid hKK
  clear hKK
  have K13 := Lib.hid hK13
  have KR := Lib.hid h.kr
  have HP := Lib.hid h.p
  have HLM := Lib.hid h.lm
  have HHI := Lib.hid h.hi
  have HE := Lib.hid h.e
  have HBD := Lib.hid h.bd
  have HMI := Lib.hid (And.intro h.bw (And.intro h.hB h.hm))
  have hbd : r0 ≤ 9 ∧ c0 ≤ 9 ∧ c1 ≤ 8 := by
    have h1 := h.e
    have h2 := h.bd
    omega
  have hlo : lo ≤ 10 := by
    have := h.lm
    omega
  obtain ⟨dl, hdl⟩ : ∃ dl, hi = lo + dl ∧ mt = dl + 1 := ⟨hi - lo, by have h1 := h.lm; have h2 := h.hi; have h3 := h.e; omega⟩
  have HDL := Lib.hid hdl
  obtain ⟨lp, op, hlp0, hop0, hlpS, hopS, hlpE, hopE, hlpL⟩ := h.su
  have LP0 := Lib.hid hlp0
  have OP0 := Lib.hid hop0
  have LPS := Lib.hid hlpS
  have OPS := Lib.hid hopS
  have LPE := Lib.hid hlpE
  have OPE := Lib.hid hopE
  have LPL := Lib.hid hlpL
  clear hlp0 hop0 hlpS hopS hlpE hopE hlpL hdl h hK13
  go_wp2_with fail
  go_loopg [26, 27, 28] mt (fun k sv ov xv wr => ∃ i : Nat, i + k ≤ mt ∧ mt ≤ i + k ∧ sv = .int .i64 (lp i : Nat) ∧ ov = .int .i64 (op i : Nat) ∧ xv = .int .i64 ((lo + i : Nat) : Int) ∧ Below w7.heap.size w7 wr)
  case atStart => exact ⟨0, by omega, by omega, by rw [LP0.out]; rfl, by rw [OP0.out]; rfl, rfl, K13.out⟩
  case round =>
    clear K13
    obtain ⟨i, h1, h2, rfl, rfl, rfl, hb⟩ := hrel
    have KW := Lib.hid hb
    obtain ⟨⟨y0, y2, y3⟩, t2, q0, -, -, -⟩ := KR.out wr hb
    clear hb
    by_cases hi9 : i < mt
    · obtain ⟨ko, hko⟩ : ∃ ko, gk = ko + 1 := ⟨gk - 1, by omega⟩
      subst hko
      have HK : Hid (i + 1 + ko ≤ mt ∧ mt ≤ i + 1 + ko) := Lib.hid (by omega)
      have HX1 : Hid (lo + (i + 1) = lo + i + 1) := Lib.hid rfl
      have hmt : mt ≤ 10 := by have := HLM.out; omega
      have hX : lo + i ≤ hi ∧ lo + i ≤ c0 ∧ lo + i ≤ r0 ∧ r0 - (lo + i) ≤ c1 ∧ i ≤ 10 := by
        have h3 := HDL.out
        have h4 := HLM.out
        have h5 := HHI.out
        have h6 := HE.out
        omega
      have LS := Lib.hid (LPS.out i)
      have OS := Lib.hid (OPS.out i)
      have hS : lp i ≤ 1152921504606846976 := Nat.le_trans (LPL.out i (by omega)) (Nat.le_trans HP.out.2.1 HP.out.2.2.2.1)
      have hiff : (lo + i ≤ a ↔ i ≤ a - lo) ∧ (lo + i = a ↔ i = a - lo) := by
        have := HLM.out
        omega
      have HIF := Lib.hid hiff
      clear h1 h2 hiff
      generalize lo + i = X at *
      obtain ⟨Y, hY⟩ : ∃ Y, r0 = X + Y := ⟨r0 - X, by omega⟩
      have hwd : IntKind.i64.wrap ((r0 : Int) - (X : Int)) = (Y : Int) := by
        rw [show (r0 : Int) - (X : Int) = (Y : Int) by omega]
        exact IntWalk.i64_in _ (by omega)
      have hxI : (X : Int) ≤ (hi : Int) := by omega
      have hXw : IntKind.i64.wrap ((X : Int) + 1) = ((X + 1 : Nat) : Int) := by
        rw [show (X : Int) + 1 = ((X + 1 : Nat) : Int) by omega]
        exact IntWalk.i64_in _ (by omega)
      have HC1 : Hid (∀ W', Calls Try.prog 11 #[.int .i64 (c0 : Nat), .int .i64 (X : Nat)] W' (fun e w' => e = .returned (.tuple #[.int .i64 (pas c0 X : Nat), .bool true]) ∧ Below W'.heap.size W' w')) := Lib.hid fun W' => Choices_ok _ _ (by omega) (by omega) W'
      have HC2 : Hid (∀ W', Calls Try.prog 11 #[.int .i64 (c1 : Nat), .int .i64 (Y : Nat)] W' (fun e w' => e = .returned (.tuple #[.int .i64 (pas c1 Y : Nat), .bool true]) ∧ Below W'.heap.size W' w')) := Lib.hid fun W' => Choices_ok _ _ (by omega) (by omega) W'
      have hPb : pas c0 X * pas c1 Y ≤ 262144 := Nat.le_trans (Nat.mul_le_mul (Nat.le_trans (pas_le c0 X) (Nat.pow_le_pow_right (by omega) (show c0 ≤ 9 by omega))) (Nat.le_trans (pas_le c1 Y) (Nat.pow_le_pow_right (by omega) (show c1 ≤ 9 by omega)))) (by decide)
      rw [show r0 - X = Y by omega] at LS OS
      have hmul : IntKind.i64.wrap ((pas c0 X : Int) * (pas c1 Y : Int)) = ((pas c0 X * pas c1 Y : Nat) : Int) := by
        rw [← Int.natCast_mul]
        exact IntWalk.i64_in _ (by omega)
      clear hY
      generalize pas c0 X = Pa at *
      generalize pas c1 Y = Pb at *
      generalize Pa * Pb = P at *
      have hadd : IntKind.i64.wrap ((lp i : Int) + (P : Int)) = ((lp i + P : Nat) : Int) := by
        rw [← Int.natCast_add]
        exact IntWalk.i64_in _ (by omega)
      go_upto_region 24 with (go_at_call 11; (with_reducible refine (HC1.out _).mono ?_); rintro e w14 ⟨rfl, hb14⟩; have Z0 := keepC hb14 y0; have Z3 := keepC hb14 y3; have K14 := Lib.hid (below_next KW.out hb14); clear hb14)
      have HM : Hid (∀ W', Below w14.heap.size w14 W' → W'.cell? ⟨gC, 1, none⟩ = some (.int .i64 (c1 : Nat)) ∧ W'.cell? ⟨gR, 0, none⟩ = some (.int .i64 (r0 : Nat))) := Lib.hid fun W' h => ⟨keepC h Z3, keepC h Z0⟩
      have hS0 := HM.out w14 (Below.refl _ _)
      clear y0 y2 y3 t2 q0
      go_region_held3 (fun W' => W'.cell? ⟨gC, 1, none⟩ = some (.int .i64 (c1 : Nat)) ∧ W'.cell? ⟨gR, 0, none⟩ = some (.int .i64 (r0 : Nat)))
        (first | exact hS0 | exact HM.out _ (Below.refl _ _) | exact HM.out _ (below_dr (Below.refl _ _)) | exact HM.out _ bk15)
        (first | (go_at_call 11; (with_reducible refine (HC2.out _).mono ?_); rintro e w15 ⟨rfl, hb15⟩; have bk15 : Below w14.heap.size w14 w15 := below_next (below_dr (Below.refl _ _)) hb15; clear hb15))
      have K15 := Lib.hid (below_next K14.out bk15)
      clear Z0 Z3 hS0 HM K14 bk15
      have hKR := KR.out w15 K15.out
      have t2 := hKR.2.1
      have q0 := hKR.2.2.1
      clear hKR hwd HC1 HC2
      rcases Nat.lt_trichotomy X a with hlt | heq | hgt
      · have c1I : (X : Int) ≤ (a : Int) := by omega
        have c2I : ¬ (X : Int) = (a : Int) := by omega
        have c3I : ¬ X = a := by omega
        have E1 : Hid (lp (i + 1) = lp i + P) := Lib.hid (by rw [LS.out, if_pos (HIF.out.1.1 (by omega))])
        have E2 : Hid (op (i + 1) = op i) := Lib.hid (by rw [OS.out, if_neg (fun h => c3I (HIF.out.2.2 h))])
        clear hlt
        go_wp2_with fail
        go_roundg ko
        case rel => exact ⟨i + 1, HK.out.1, HK.out.2, by first | (rw [E1.out]; done) | (rw [E1.out]; rfl), by first | (rw [E2.out]; done) | (rw [E2.out]; rfl), by first | (rw [HX1.out]; done) | (rw [HX1.out]; rfl), K15.out⟩
        case measure => exact Nat.lt_succ_self _
      · have c1I : (X : Int) ≤ (a : Int) := by omega
        have c2I : (X : Int) = (a : Int) := by omega
        have E1 : Hid (lp (i + 1) = lp i + P) := Lib.hid (by rw [LS.out, if_pos (HIF.out.1.1 (by omega))])
        have E2 : Hid (op (i + 1) = P) := Lib.hid (by rw [OS.out, if_pos (HIF.out.2.1 heq)])
        subst heq
        go_wp2_with fail
        go_roundg ko
        case rel => exact ⟨i + 1, HK.out.1, HK.out.2, by first | (rw [E1.out]; done) | (rw [E1.out]; rfl), by first | (rw [E2.out]; done) | (rw [E2.out]; rfl), by first | (rw [HX1.out]; done) | (rw [HX1.out]; rfl), K15.out⟩
        case measure => exact Nat.lt_succ_self _
      · have c1I : ¬ (X : Int) ≤ (a : Int) := by omega
        have c2I : ¬ (X : Int) = (a : Int) := by omega
        have c3I : ¬ X = a := by omega
        have E1 : Hid (lp (i + 1) = lp i) := Lib.hid (by rw [LS.out, if_neg (fun h => by have := HIF.out.1.2 h; omega), Nat.add_zero])
        have E2 : Hid (op (i + 1) = op i) := Lib.hid (by rw [OS.out, if_neg (fun h => c3I (HIF.out.2.2 h))])
        clear hgt
        go_wp2_with fail
        go_roundg ko
        case rel => exact ⟨i + 1, HK.out.1, HK.out.2, by first | (rw [E1.out]; done) | (rw [E1.out]; rfl), by first | (rw [E2.out]; done) | (rw [E2.out]; rfl), by first | (rw [HX1.out]; done) | (rw [HX1.out]; rfl), K15.out⟩
        case measure => exact Nat.lt_succ_self _
    · obtain rfl : i = mt := by omega
      have hxI : ¬ ((lo + i : Nat) : Int) ≤ (hi : Int) := by have := HDL.out; omega
      obtain ⟨-, t2', q0', q1', q2', q3'⟩ := KR.out wr KW.out
      have TB := Lib.hid (And.intro t2' (And.intro q0' (And.intro q1' (And.intro q2' q3'))))
      rw [LPE.out, OPE.out]
      clear h1 h2 hi9 y0 y2 y3 t2 q0 t2' q0' q1' q2' q3' LP0 OP0 LPS OPS LPE OPE LPL
      generalize lo + i = X9 at *
      go_wp2_with fail
      exact HKK.out _ _ (tables_behind B W w7 wr m cb bt g3 c3 a b c d L T Bo ow HMI.out.1 KW.out HMI.out.2.1 HMI.out.2.2 HBD.out TB.out.1 TB.out.2.1 TB.out.2.2.1 TB.out.2.2.2.1 TB.out.2.2.2.2 HP.out.2.2.2.2 HP.out.2.2.1 HP.out.2.2.2.1 (Nat.le_trans HP.out.1 HP.out.2.1))
end Go.Proofs.Ytbpigeipjeegiaa
