/-
  The law FnMany from its tests on (printed by many18.py).
-/
import Derived.Test.YtfkjnaaplhcheaaLwB
import Derived.Deep.RegionHeld3
import Derived.Deep.DeepCutAuto
import Derived.BigRegion
import Derived.BigQuiet
namespace Go.Proofs.Ytfkjnaaplhcheaa
open Go Go.RowKit Go.Sort Ieee

/-- what the double loop leans on -/
structure Tst (w : World) (A7 A9 A11 : Option Addr) (ks ps hs ss : List Nat) : Prop where
  r7 : Rd w w.heap.size A7 (fl ps)
  r9 : Rd w w.heap.size A9 (fl hs)
  r11 : Rd w w.heap.size A11 (fl ss)
  l7 : ps.length = ks.length
  l9 : hs.length = ks.length
  l11 : ss.length = ks.length
  row : ∀ i, i < ks.length → Row3 (ps.getD i 0) (hs.getD i 0) (ss.getD i 0) (shN (ks.getD i 0))
  two : ∀ i k, i < ks.length → k < ks.length → Two3 (shN (ks.getD i 0)) (shN (ks.getD k 0)) (hs.getD i 0) (hs.getD k 0) (ss.getD i 0) (ss.getD k 0)
set_option maxRecDepth 100000 in
set_option maxHeartbeats 3200000 in
theorem many_tests (W w : World) (D A6 A7 A9 A11 : Option Addr) (kD cd c6 c7 c9 c11 : Nat) (ks ps hs ss : List Nat) {z0 z2 z3 z4 z8 z10 z12 z13 z14 z15 z16 z17 z18 z19 z20 z21 z22 z23 z24 z25 z26 z27 z28 z29 z30 z31 z32 z33 z34 z35 z36 z37 z38 z39 z40 z41 z42 z43 z44 z45 z46 z47 z48 z49 z50 z51 z52 z53 z54 z55 z56 z57 z58 z59 z60 z61 z62 z63 z64 z65 z66 z67 z68 z69 z70 z71 z72 z73 z74 z75 z76 z77 z78 z79 z80 z81 z82 z83 z84 z85 z86 z87 z88 z89 z90 z91 z92 z93 z94 z95 z96 z97 z98 z99 z100 z101 z102 z103 z104 z105 z106 z107 z108 z109 z110 z111 z112 z113 z114 z115 z116 z117 z118 z119 z120 z121 z122 z123 z124 z125 z126 z127 z128 z129 z130 z131 z132 z133 z134 z135 z136 z137 z138 z139 z140 z141 z142 z143 z144 z145 z146 z147 z148 z149 z150 z151 z152 z153 z154 z155 z156 z157 z158 z159 z160 z161 z162 z163 z164 z165 z166 z167 z168 z169 z170 z171 z172 z173 z174 z175 z176 z177 z178 z179 z180 z181 z182 z183 z184 z185 z186 z187 z188 z189 z190 z191 z192 z193 z194 z195 z196 z197 z198 z199 z200 z201 z202 z203 z204 z205 z206 z207 z208 z209 z210 z211 z212 z213 z214 z215 z216 z217 z218 z219 z220 z221 z222 z223 z224 z225 z226 z227 z228 z229 z230 z231 z232 z233 z234 z235 z236 z237 z238 z239 z240 z241 z242 z243 z244 z245 z246 z247 z248 z249 z250 z251 z252 z253 z254 z255 z256 z257 z258 z259 z260 z261 z262 z263 z264 z265 z266 z267 z268 z269 z270 z271 z272 z273 z274 z275 z276 z277 z278 z279 z280 z281 z282 z283 z284 z285 z286 z287 z288 z289 z290 z291 z292 z293 z294 z295 z296 z297 z298 z299 z300 z301 z302 z303 z304 z305 z306 z307 z308 z309 z310 z311 z312 z313 z314 z315 z316 z317 z318 z319 z320 z321 z322 z323 z324 z325 z326 z327 z328 z329 z330 z331 z332 z333 z334 z335 z336 z337 z338 z339 z340 z341 z342 z343 z344 z345 z346 z347 z348 z349 z350 z351 z352 z353 z354 z355 z356 z357 z358 z359 z360 z361 z362 z363 z364 z365 z366 z367 z368 z369 z370 z371 z372 z373 z374 z375 z376 z377 z378 z379 z380 z381 z382 z383 z384 z385 z386 z387 z388 z389 z390 z391 z392 z393 z394 z395 z396 z397 z398 z399 z400 z401 z402 z403 z404 z405 z406 z407 z408 z409 z410 z411 z412 z413 z414 z415 z416 z417 z418 z419 z420 z421 z422 z423 z424 z425 z426 z427 : Value} (h : Lw W w D A6 kD ks) (ht : Tst w A7 A9 A11 ks ps hs ss) :
    Code.wp Try.prog (tailC 8 (Try.f4.body.getD .skip)) (bodyPost Try.prog Try.f4 (fun e w' => e = .returned (.bool true) ∧ Below W.heap.size W w')) ⟨(z0 :: .slice D kD cd :: z2 :: z3 :: z4 :: .int .i64 (ks.length : Nat) :: .slice A6 ks.length c6 :: .slice A7 ks.length c7 :: z8 :: .slice A9 ks.length c9 :: z10 :: .slice A11 ks.length c11 :: z12 :: z13 :: z14 :: z15 :: z16 :: z17 :: z18 :: z19 :: z20 :: z21 :: z22 :: z23 :: z24 :: z25 :: z26 :: z27 :: z28 :: z29 :: z30 :: z31 :: z32 :: z33 :: z34 :: z35 :: z36 :: z37 :: z38 :: z39 :: z40 :: z41 :: z42 :: z43 :: z44 :: z45 :: z46 :: z47 :: z48 :: z49 :: z50 :: z51 :: z52 :: z53 :: z54 :: z55 :: z56 :: z57 :: z58 :: z59 :: z60 :: z61 :: z62 :: z63 :: z64 :: z65 :: z66 :: z67 :: z68 :: z69 :: z70 :: z71 :: z72 :: z73 :: z74 :: z75 :: z76 :: z77 :: z78 :: z79 :: z80 :: z81 :: z82 :: z83 :: z84 :: z85 :: z86 :: z87 :: z88 :: z89 :: z90 :: z91 :: z92 :: z93 :: z94 :: z95 :: z96 :: z97 :: z98 :: z99 :: z100 :: z101 :: z102 :: z103 :: z104 :: z105 :: z106 :: z107 :: z108 :: z109 :: z110 :: z111 :: z112 :: z113 :: z114 :: z115 :: z116 :: z117 :: z118 :: z119 :: z120 :: z121 :: z122 :: z123 :: z124 :: z125 :: z126 :: z127 :: z128 :: z129 :: z130 :: z131 :: z132 :: z133 :: z134 :: z135 :: z136 :: z137 :: z138 :: z139 :: z140 :: z141 :: z142 :: z143 :: z144 :: z145 :: z146 :: z147 :: z148 :: z149 :: z150 :: z151 :: z152 :: z153 :: z154 :: z155 :: z156 :: z157 :: z158 :: z159 :: z160 :: z161 :: z162 :: z163 :: z164 :: z165 :: z166 :: z167 :: z168 :: z169 :: z170 :: z171 :: z172 :: z173 :: z174 :: z175 :: z176 :: z177 :: z178 :: z179 :: z180 :: z181 :: z182 :: z183 :: z184 :: z185 :: z186 :: z187 :: z188 :: z189 :: z190 :: z191 :: z192 :: z193 :: z194 :: z195 :: z196 :: z197 :: z198 :: z199 :: z200 :: z201 :: z202 :: z203 :: z204 :: z205 :: z206 :: z207 :: z208 :: z209 :: z210 :: z211 :: z212 :: z213 :: z214 :: z215 :: z216 :: z217 :: z218 :: z219 :: z220 :: z221 :: z222 :: z223 :: z224 :: z225 :: z226 :: z227 :: z228 :: z229 :: z230 :: z231 :: z232 :: z233 :: z234 :: z235 :: z236 :: z237 :: z238 :: z239 :: z240 :: z241 :: z242 :: z243 :: z244 :: z245 :: z246 :: z247 :: z248 :: z249 :: z250 :: z251 :: z252 :: z253 :: z254 :: z255 :: z256 :: z257 :: z258 :: z259 :: z260 :: z261 :: z262 :: z263 :: z264 :: z265 :: z266 :: z267 :: z268 :: z269 :: z270 :: z271 :: z272 :: z273 :: z274 :: z275 :: z276 :: z277 :: z278 :: z279 :: z280 :: z281 :: z282 :: z283 :: z284 :: z285 :: z286 :: z287 :: z288 :: z289 :: z290 :: z291 :: z292 :: z293 :: z294 :: z295 :: z296 :: z297 :: z298 :: z299 :: z300 :: z301 :: z302 :: z303 :: z304 :: z305 :: z306 :: z307 :: z308 :: z309 :: z310 :: z311 :: z312 :: z313 :: z314 :: z315 :: z316 :: z317 :: z318 :: z319 :: z320 :: z321 :: z322 :: z323 :: z324 :: z325 :: z326 :: z327 :: z328 :: z329 :: z330 :: z331 :: z332 :: z333 :: z334 :: z335 :: z336 :: z337 :: z338 :: z339 :: z340 :: z341 :: z342 :: z343 :: z344 :: z345 :: z346 :: z347 :: z348 :: z349 :: z350 :: z351 :: z352 :: z353 :: z354 :: z355 :: z356 :: z357 :: z358 :: z359 :: z360 :: z361 :: z362 :: z363 :: z364 :: z365 :: z366 :: z367 :: z368 :: z369 :: z370 :: z371 :: z372 :: z373 :: z374 :: z375 :: z376 :: z377 :: z378 :: z379 :: z380 :: z381 :: z382 :: z383 :: z384 :: z385 :: z386 :: z387 :: z388 :: z389 :: z390 :: z391 :: z392 :: z393 :: z394 :: z395 :: z396 :: z397 :: z398 :: z399 :: z400 :: z401 :: z402 :: z403 :: z404 :: z405 :: z406 :: z407 :: z408 :: z409 :: z410 :: z411 :: z412 :: z413 :: z414 :: z415 :: z416 :: z417 :: z418 :: z419 :: z420 :: z421 :: z422 :: z423 :: z424 :: z425 :: z426 :: z427 :: []).toArray, []⟩ w := by
  let Q := (bodyPost Try.prog Try.f4 (fun e w' => e = .returned (.bool true) ∧ Below W.heap.size W w'))
  change Code.wp _ _ Q _ _
  conv => arg 2; whnf
  have n1 := h.h1
  have n10 := h.h10
  obtain ⟨b6, o6, rfl, hb6, c6_⟩ := fl_cells h.r6 (by rw [List.length_map]; exact n1)
  obtain ⟨b7, o7, rfl, hb7, c7_⟩ := fl_cells ht.r7 (by rw [ht.l7]; exact n1)
  obtain ⟨b9, o9, rfl, hb9, c9_⟩ := fl_cells ht.r9 (by rw [ht.l9]; exact n1)
  obtain ⟨b11, o11, rfl, hb11, c11_⟩ := fl_cells ht.r11 (by rw [ht.l11]; exact n1)
  have C6 : Hid (∀ i, i < ks.length → w.cell? ⟨b6, o6 + i, none⟩ = some (.float .f32 (shN (ks.getD i 0)))) := Lib.hid fun i hi => by rw [c6_ i (by rw [List.length_map]; exact hi), sh_get hi]
  have C7 : Hid (∀ i, i < ks.length → w.cell? ⟨b7, o7 + i, none⟩ = some (.float .f32 (ps.getD i 0))) := Lib.hid fun i hi => c7_ i (by rw [ht.l7]; exact hi)
  have C9 : Hid (∀ i, i < ks.length → w.cell? ⟨b9, o9 + i, none⟩ = some (.float .f32 (hs.getD i 0))) := Lib.hid fun i hi => c9_ i (by rw [ht.l9]; exact hi)
  have C11 : Hid (∀ i, i < ks.length → w.cell? ⟨b11, o11 + i, none⟩ = some (.float .f32 (ss.getD i 0))) := Lib.hid fun i hi => c11_ i (by rw [ht.l11]; exact hi)
  have ROW := Lib.hid ht.row
  have TWO := Lib.hid ht.two
  have HL := Lib.hid h
  clear h ht c6_ c7_ c9_ c11_ hb6 hb7 hb9 hb11
  generalize hcc : Code.seq (Code.region 20 _ _) _ = cc
  have HCC := Lib.hid hcc
  clear hcc
  generalize hkv : (fun i => shN (ks.getD i 0)) = kv at *
  have hkv' : ∀ i, shN (ks.getD i 0) = kv i := fun i => by rw [← hkv]
  generalize hpv : (fun i => ps.getD i 0) = pv at *
  have hpv' : ∀ i, ps.getD i 0 = pv i := fun i => by rw [← hpv]
  generalize hhv : (fun i => hs.getD i 0) = hv at *
  have hhv' : ∀ i, hs.getD i 0 = hv i := fun i => by rw [← hhv]
  generalize hsv : (fun i => ss.getD i 0) = sv at *
  have hsv' : ∀ i, ss.getD i 0 = sv i := fun i => by rw [← hsv]
  simp only [hkv', hpv', hhv', hsv'] at C6 C7 C9 C11 ROW TWO
  clear hkv hkv' hpv hpv' hhv hhv' hsv hsv'
  obtain ⟨n, hn⟩ : ∃ n, ks.length = n := ⟨_, rfl⟩
  rw [hn] at C6 C7 C9 C11 ROW TWO n1 n10
  rw [hn]
  have HN := Lib.hid hn
  clear hn
  go_wp2_with fail
  go_loopw [13] (fun iv wr => ∃ i q : Nat, i ≤ n ∧ iv = .int .i64 (i : Nat) ∧ wr = w.drewN q) (fun iv _ => n - (intOf iv).toNat)
  case atStart => exact ⟨0, 0, by omega, rfl, rfl⟩
  case round =>
    obtain ⟨i, q, hin, rfl, rfl⟩ := hrel
    by_cases hlt : i < n
    · have i6 := C6.out i hlt
      have i9 := C9.out i hlt
      have i11 := C11.out i hlt
      have TWOi := Lib.hid fun k hk => TWO.out i k hlt hk
      have hltI : (i : Int) < (n : Int) := by omega
      have i7 := C7.out i hlt
      obtain ⟨s1, s2, cS, cH, cL, aH, aL, s3, s4⟩ := ROW.out i hlt
      unfold cD at aH aL s3 s4
      have v1 := fun w => run_convert_float_float (P := Try.prog) w 50 51 .f32 .f64 _ _ (by rw [Try.underlying50]; rfl) Try.underlying51 cS
      have v2 := fun w => run_convert_float_float (P := Try.prog) w 50 51 .f32 .f64 _ _ (by rw [Try.underlying50]; rfl) Try.underlying51 cH
      have v3 := fun w => run_convert_float_float (P := Try.prog) w 50 51 .f32 .f64 _ _ (by rw [Try.underlying50]; rfl) Try.underlying51 cL
      have v4 := fun w => run_float_arith (P := Try.prog) w .add 51 .f64 _ _ _ aH
      have v5 := fun w => run_float_arith (P := Try.prog) w .sub 51 .f64 _ _ _ aL
      clear cS cH cL aH aL TWO ROW C7
      generalize pv i = x7 at *
      generalize hx9 : hv i = x9 at *
      generalize hx11 : sv i = x11 at *
      generalize hx6 : kv i = x6 at *
      clear hx9 hx11 hx6
      generalize dop .add (wdF x9) 4562254508917369340 = d1 at *
      generalize dop .sub (wdF x6) 4562254508917369340 = d2 at *
      generalize wdF x11 = y11 at *
      generalize wdF x9 = y9 at *
      generalize wdF x6 = y6 at *
      go_wp2_with fail
      go_quiet (fail)
      go_wp2_with fail
      clear s1 s2 s3 s4 v1 v2 v3 v4 v5 i7
      go_loopw [14] (fun kv2 wr => ∃ k q : Nat, k ≤ n ∧ kv2 = .int .i64 (k : Nat) ∧ wr = w.drewN q) (fun kv2 _ => n - (intOf kv2).toNat)
      case atStart => exact ⟨0, _, by omega, rfl, by first | rfl | (rw [World.drewN_drewN])⟩
      case round =>
        obtain ⟨k, q2, hkn, rfl, rfl⟩ := hrel
        by_cases hltk : k < n
        · have j6 := C6.out k hltk
          have j9 := C9.out k hltk
          have j11 := C11.out k hltk
          have T := (TWOi.out k hltk).o
          have hltkI : (k : Int) < (n : Int) := by omega
          clear TWOi C6 C9 C11
          generalize kv k = z6 at *
          generalize hv k = z9 at *
          generalize sv k = z11 at *
          cases hb : (FloatKind.f32.format.order x6 z6 == some .lt) with
          | true =>
            obtain ⟨t1, t2⟩ := T hb
            clear T
            go_wp2_with fail
            go_quiet (fail)
            go_wp2_with fail
            go_roundw
            case rel => exact ⟨k + 1, _, by omega, by go_num, by first | rfl | (rw [World.drewN_drewN])⟩
            case measure => simp [intOf]; omega
          | false =>
            clear T
            go_wp2_with fail
            go_quiet (fail)
            go_wp2_with fail
            go_roundw
            case rel => exact ⟨k + 1, _, by omega, by go_num, by first | rfl | (rw [World.drewN_drewN])⟩
            case measure => simp [intOf]; omega
        · obtain rfl : k = n := by omega
          clear TWOi C6 C9 C11 i6 i9 i11
          go_wp2_with fail
          go_roundw
          case rel => exact ⟨i + 1, _, by omega, by go_num, by first | rfl | (rw [World.drewN_drewN])⟩
          case measure => simp [intOf]; omega
    · obtain rfl : i = n := by omega
      clear C6 C7 C9 C11 ROW TWO
      go_wp2_with fail
      rw [← HCC.out]
      obtain rfl := HN.out
      exact many_band W _ D _ kD cd c6 ks (HL.out.go (below_drewN (Below.refl _ _) _))
end Go.Proofs.Ytfkjnaaplhcheaa
