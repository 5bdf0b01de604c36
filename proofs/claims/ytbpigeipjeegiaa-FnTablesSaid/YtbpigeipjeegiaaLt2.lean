/-
  The law FnTables behind its loop (printed by lawparts15.py).
-/
import Derived.Test.YtbpigeipjeegiaaLt3
import Derived.Deep.RegionHeld3
import Derived.Deep.DeepCutAuto
import Derived.BigRegion
namespace Go.Proofs.Ytbpigeipjeegiaa
open Go Go.RowKit

set_option maxRecDepth 100000 in
set_option maxHeartbeats 3200000 in
theorem tables_behind (B : Option Addr) (W w7 wr : World) (m cb bt g3 c3 a b c d L T Bo ow : Nat) {z0 z2 z3 z4 z6 z7 z8 z9 z12 z14 z15 z16 z17 z18 z19 z20 z21 z22 z23 z24 z25 z28 z29 z30 z31 z32 z33 z34 z35 z36 z37 z38 z39 z40 z41 z42 z43 z44 z45 z46 z47 z48 z49 z50 z51 z52 z53 z54 z55 z56 z57 z58 z59 z60 z61 z62 z63 z64 z65 z66 z67 z68 z69 z70 z71 z72 z73 z74 z75 z76 z77 z78 z79 z80 z81 z82 z83 z84 z85 z86 z87 z88 z89 z90 z91 z92 z93 z94 z95 z96 z97 z98 z99 z100 z101 z102 z103 z104 z105 z106 z107 z108 z109 z110 z111 z112 z113 z114 z115 z116 z117 z118 z119 z120 z121 z122 z123 z124 z125 z126 z127 z128 z129 z130 z131 z132 z133 z134 z135 z136 z137 z138 z139 z140 z141 z142 z143 z144 z145 z146 z147 z148 z149 z150 z151 z152 z153 z154 z155 z156 z157 z158 z159 z160 z161 z162 z163 z164 z165 z166 z167 z168 z169 z170 z171 z172 z173 z174 z175 z176 z177 z178 z179 z180 z181 z182 z183 z184 z185 z186 z187 z188 z189 z190 z191 z192 z193 z194 z195 z196 z197 z198 z199 z200 z201 z202 z203 z204 z205 z206 z207 z208 z209 z210 z211 z212 z213 z214 z215 z216 z217 z218 z219 z220 z221 z222 z223 z224 z225 z226 z227 z228 z229 z230 z231 z232 z233 z234 z235 z236 z237 z238 z239 z240 z241 z242 z243 z244 z245 z246 z247 z248 z249 z250 z251 z252 z253 z254 z255 z256 z257 z258 z259 z260 z261 z262 z263 z264 z265 z266 z267 z268 z269 z270 z271 z272 z273 z274 z275 z276 z277 z278 z279 z280 z281 z282 z283 z284 z285 z286 z287 z288 z289 z290 z291 z292 z293 z294 z295 z296 z297 z298 z299 z300 z301 z302 z303 z304 z305 z306 z307 z308 z309 z310 z311 z312 z313 z314 z315 z316 z317 z318 z319 z320 z321 z322 z323 z324 z325 z326 z327 z328 z329 z330 z331 z332 z333 z334 z335 z336 z337 z338 z339 z340 z341 z342 z343 z344 z345 z346 z347 z348 z349 z350 z351 z352 z353 z354 z355 z356 z357 z358 z359 z360 z361 z362 z363 z364 z365 z366 z367 z368 z369 z370 z371 z372 z373 z374 z375 z376 z377 z378 z379 z380 z381 z382 z383 z384 z385 z386 z387 z388 : Value} (hBW : Below W.heap.size W w7) (hw : Below w7.heap.size w7 wr) (hB : BR W B m) (hm : m ≤ 48) (hbd : (1 ≤ a ∧ a ≤ 5) ∧ b ≤ 4 ∧ c ≤ 4 ∧ d ≤ 4)
    (t2 : wr.cell? ⟨bt, 2, none⟩ = some (.slice (some ⟨g3, 0, none⟩) 4 c3)) (q0 : wr.cell? ⟨g3, 0, none⟩ = some (.int .i64 (a : Nat))) (q1 : wr.cell? ⟨g3, 1, none⟩ = some (.int .i64 (b : Nat))) (q2 : wr.cell? ⟨g3, 2, none⟩ = some (.int .i64 (c : Nat))) (q3 : wr.cell? ⟨g3, 3, none⟩ = some (.int .i64 (d : Nat)))
    (hsum : L + lessN c d a b = T + ow) (hbo : ow ≤ Bo) (hT : T ≤ 1152921504606846976) (how : ow ≤ T) :
    Code.wp Try.prog (tailC 18 (Try.f3.body.getD .skip)) (bodyPost Try.prog Try.f3 (fun e w' => e = .returned (.bool true) ∧ Below W.heap.size W w')) ⟨(z0 :: .slice B m cb :: z2 :: z3 :: z4 :: .pointer (some ⟨bt, 0, none⟩) :: z6 :: z7 :: z8 :: z9 :: .int .i64 (L : Nat) :: .int .i64 (T : Nat) :: z12 :: .int .i64 (Bo : Nat) :: z14 :: z15 :: z16 :: z17 :: z18 :: z19 :: z20 :: z21 :: z22 :: z23 :: z24 :: z25 :: .int .i64 (L : Nat) :: .int .i64 (ow : Nat) :: z28 :: z29 :: z30 :: z31 :: z32 :: z33 :: z34 :: z35 :: z36 :: z37 :: z38 :: z39 :: z40 :: z41 :: z42 :: z43 :: z44 :: z45 :: z46 :: z47 :: z48 :: z49 :: z50 :: z51 :: z52 :: z53 :: z54 :: z55 :: z56 :: z57 :: z58 :: z59 :: z60 :: z61 :: z62 :: z63 :: z64 :: z65 :: z66 :: z67 :: z68 :: z69 :: z70 :: z71 :: z72 :: z73 :: z74 :: z75 :: z76 :: z77 :: z78 :: z79 :: z80 :: z81 :: z82 :: z83 :: z84 :: z85 :: z86 :: z87 :: z88 :: z89 :: z90 :: z91 :: z92 :: z93 :: z94 :: z95 :: z96 :: z97 :: z98 :: z99 :: z100 :: z101 :: z102 :: z103 :: z104 :: z105 :: z106 :: z107 :: z108 :: z109 :: z110 :: z111 :: z112 :: z113 :: z114 :: z115 :: z116 :: z117 :: z118 :: z119 :: z120 :: z121 :: z122 :: z123 :: z124 :: z125 :: z126 :: z127 :: z128 :: z129 :: z130 :: z131 :: z132 :: z133 :: z134 :: z135 :: z136 :: z137 :: z138 :: z139 :: z140 :: z141 :: z142 :: z143 :: z144 :: z145 :: z146 :: z147 :: z148 :: z149 :: z150 :: z151 :: z152 :: z153 :: z154 :: z155 :: z156 :: z157 :: z158 :: z159 :: z160 :: z161 :: z162 :: z163 :: z164 :: z165 :: z166 :: z167 :: z168 :: z169 :: z170 :: z171 :: z172 :: z173 :: z174 :: z175 :: z176 :: z177 :: z178 :: z179 :: z180 :: z181 :: z182 :: z183 :: z184 :: z185 :: z186 :: z187 :: z188 :: z189 :: z190 :: z191 :: z192 :: z193 :: z194 :: z195 :: z196 :: z197 :: z198 :: z199 :: z200 :: z201 :: z202 :: z203 :: z204 :: z205 :: z206 :: z207 :: z208 :: z209 :: z210 :: z211 :: z212 :: z213 :: z214 :: z215 :: z216 :: z217 :: z218 :: z219 :: z220 :: z221 :: z222 :: z223 :: z224 :: z225 :: z226 :: z227 :: z228 :: z229 :: z230 :: z231 :: z232 :: z233 :: z234 :: z235 :: z236 :: z237 :: z238 :: z239 :: z240 :: z241 :: z242 :: z243 :: z244 :: z245 :: z246 :: z247 :: z248 :: z249 :: z250 :: z251 :: z252 :: z253 :: z254 :: z255 :: z256 :: z257 :: z258 :: z259 :: z260 :: z261 :: z262 :: z263 :: z264 :: z265 :: z266 :: z267 :: z268 :: z269 :: z270 :: z271 :: z272 :: z273 :: z274 :: z275 :: z276 :: z277 :: z278 :: z279 :: z280 :: z281 :: z282 :: z283 :: z284 :: z285 :: z286 :: z287 :: z288 :: z289 :: z290 :: z291 :: z292 :: z293 :: z294 :: z295 :: z296 :: z297 :: z298 :: z299 :: z300 :: z301 :: z302 :: z303 :: z304 :: z305 :: z306 :: z307 :: z308 :: z309 :: z310 :: z311 :: z312 :: z313 :: z314 :: z315 :: z316 :: z317 :: z318 :: z319 :: z320 :: z321 :: z322 :: z323 :: z324 :: z325 :: z326 :: z327 :: z328 :: z329 :: z330 :: z331 :: z332 :: z333 :: z334 :: z335 :: z336 :: z337 :: z338 :: z339 :: z340 :: z341 :: z342 :: z343 :: z344 :: z345 :: z346 :: z347 :: z348 :: z349 :: z350 :: z351 :: z352 :: z353 :: z354 :: z355 :: z356 :: z357 :: z358 :: z359 :: z360 :: z361 :: z362 :: z363 :: z364 :: z365 :: z366 :: z367 :: z368 :: z369 :: z370 :: z371 :: z372 :: z373 :: z374 :: z375 :: z376 :: z377 :: z378 :: z379 :: z380 :: z381 :: z382 :: z383 :: z384 :: z385 :: z386 :: z387 :: z388 :: []).toArray, []⟩ wr := by
  let Q := (bodyPost Try.prog Try.f3 (fun e w' => e = .returned (.bool true) ∧ Below W.heap.size W w'))
  change Code.wp _ _ Q _ _
  conv => arg 2; whnf
  have hbtl := lt_of_cell t2
  have hg3l := lt_of_cell q0
  have KW := Lib.hid hw
  have BW7 := Lib.hid hBW
  have HB := Lib.hid hB
  have HBD := Lib.hid hbd
  have HS := Lib.hid (And.intro hsum (And.intro hbo (And.intro hT how)))
  clear hw hBW hB hbd hsum hbo hT how
  have HR : Hid (∀ (bx gx : Nat) (w16 : World), Below W.heap.size W w16 → w16.ownsRow wr.heap.size 2 1 (.slice (some ⟨gx, 0, none⟩) 4 4) 4 (nlv [c, d, a, b]) → w16.cell? ⟨bx, 0, none⟩ = some (.int .i64 2) → w16.cell? ⟨bx, 1, none⟩ = some (.int .i64 2) → w16.cell? ⟨bx, 2, none⟩ = some (.slice (some ⟨gx, 0, none⟩) 4 4) → Rest W m B cb bx gx a b c d L T Bo ow w16) := Lib.hid fun bx gx w16 h1 h2 h3 h4 h5 => by
    have h6 := HBD.out
    exact ⟨h1, HB.out, hm, two_of (by omega) (Nat.le_refl 4) (Rd.of_own h2), h3, h4, h5, HS.out.1, HS.out.2.1, HS.out.2.2.1, HS.out.2.2.2⟩
  have FA : Hid (∀ w16, w16 = ((wr.alloc (.cells #[.int .i64 (c : Nat), .int .i64 (d : Nat), .int .i64 (a : Nat), .int .i64 (b : Nat)] 2)).alloc (.cells #[.int .i64 2, .int .i64 2, .slice (some ⟨wr.heap.size, 0, none⟩) 4 4] 26)).drew → Rest W m B cb (wr.heap.size + 1) wr.heap.size a b c d L T Bo ow w16) := Lib.hid fun w16 h => by
    have h4 := own_four wr c d a b
    subst h
    exact HR.out _ _ _ (below_next BW7.out (below_dr (below_al (below_al KW.out _) _))) (h4.alloc _) (at_new (wr.alloc _) _ _ _ _ _ (by simp) rfl) (at_new (wr.alloc _) _ _ _ _ _ (by simp) rfl) (at_new (wr.alloc _) _ _ _ _ _ (by simp) rfl)
  have FB : Hid (∀ w16, w16 = ((wr.alloc (.cells #[.int .i64 2, .int .i64 2, .slice (some ⟨wr.heap.size + 1, 0, none⟩) 4 4] 26)).alloc (.cells #[.int .i64 (c : Nat), .int .i64 (d : Nat), .int .i64 (a : Nat), .int .i64 (b : Nat)] 2)).drew → Rest W m B cb wr.heap.size (wr.heap.size + 1) a b c d L T Bo ow w16) := Lib.hid fun w16 h => by
    have h4 := own_four (wr.alloc (.cells #[.int .i64 2, .int .i64 2, .slice (some ⟨wr.heap.size + 1, 0, none⟩) 4 4] 26)) c d a b
    rw [show (wr.alloc (.cells #[.int .i64 2, .int .i64 2, .slice (some ⟨wr.heap.size + 1, 0, none⟩) 4 4] 26)).heap.size = wr.heap.size + 1 by simp] at h4
    subst h
    exact HR.out _ _ _ (below_next BW7.out (below_dr (below_al (below_al KW.out _) _))) (own_base h4 (Nat.le_succ _)) (at_up _ (at_new wr _ _ _ _ _ rfl rfl)) (at_up _ (at_new wr _ _ _ _ _ rfl rfl)) (at_up _ (at_new wr _ _ _ _ _ rfl rfl))
  clear KW BW7 HB HBD HS HR
  refine wp_seq ?_
  go_region
  all_goals
    first
      | exact (FA.out _ rfl).go
      | exact (FB.out _ rfl).go
end Go.Proofs.Ytbpigeipjeegiaa
