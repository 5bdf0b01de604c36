/-
  impl.TimesTo and impl.ChancesTo.
-/
import Derived.Test.YtlhepgdheopgaaaAv2
import Derived.Test.YtlhepgdheopgaaaSrs
namespace Go.Proofs.Ytlhepgdheopgaaa
open Go Go.RowKit Ieee
attribute [local go_sem] run_store_float

/-- the given row with what is solved at its places, if there is something -/
def givenO (xs : List Nat) (n : Nat) (ls : List Nat) (right x0 : Nat → Nat) : Option (List Nat) := (solM (cofM xs n ls right) ls.length).map fun ys => (List.range n).map (putM ls (fun k => ys.getD k 0) x0 ls.length)
def timesN (xs : List Nat) (n g : Nat) : Option (List Nat) := givenO xs n (openN n [(g : Int)]) (fun _ => oneF) (fun _ => 0)
def chancesN (xs : List Nat) (n g o : Nat) : Option (List Nat) := givenO xs n (openN n [(g : Int), (o : Int)]) (fun i => stepOf xs n i g) (fun i => if i = g then oneF else 0)
theorem givenO_len {xs : List Nat} {n : Nat} {ls : List Nat} {right x0 : Nat → Nat} {ys : List Nat} (h : givenO xs n ls right x0 = some ys) : ys.length = n := by
  unfold givenO at h
  rw [Option.map_eq_some_iff] at h
  obtain ⟨zs, -, rfl⟩ := h
  simp
theorem av_fin {xs : List Nat} {n G : Nat} {ls : List Nat} {right x0 : Nat → Nat} {w W w9 : World} {e : Ending} (h : avOut (solM (cofM xs n ls right) ls.length) ls x0 n G W e w9) (hb : Below w.heap.size w W) (hG : w.heap.size ≤ G) (hn : n ≤ 12) :
    flOut ((givenO xs n ls right x0).getD []) (givenO xs n ls right x0).isSome w e w9 := by
  rcases h with ⟨hs, rfl, hb9⟩ | ⟨ys, hs, rfl, hr, hgr⟩
  · have : givenO xs n ls right x0 = none := by unfold givenO; rw [hs]; rfl
    rw [this]
    exact flOut_none (below_next hb hb9)
  · have : givenO xs n ls right x0 = some ((List.range n).map (putM ls (fun k => ys.getD k 0) x0 ls.length)) := by unfold givenO; rw [hs]; rfl
    rw [this]
    have hl : ((List.range n).map (putM ls (fun k => ys.getD k 0) x0 ls.length)).length = n := by simp
    have ho := own_of_row hr hG (by unfold maxLen; omega)
    have hf : (List.range n).map (fun i => Value.float .f32 (putM ls (fun k => ys.getD k 0) x0 ls.length i)) = fl ((List.range n).map (putM ls (fun k => ys.getD k 0) x0 ls.length)) := by unfold fl; rw [List.map_map]; rfl
    rw [hf] at ho
    refine ⟨some ⟨G, 0, none⟩, n, ?_, ?_, hb.grown hgr hb.size fun j hj => by injection hj with hj; omega⟩
    · show _ = Ending.returned (.tuple #[.slice _ (List.length ((List.range n).map _)) n, .bool true])
      rw [hl]
    · show w9.ownsRow _ _ 1 (.slice _ (List.length ((List.range n).map _)) n) (List.length ((List.range n).map _)) _
      rw [hl]
      exact ho

set_option maxHeartbeats 400000 in
theorem times1_any (i : Nat) (w : World) : Calls Try.prog 67 #[.int .i64 i] w (fun e w' => e = .returned (.float .f32 oneF) ∧ Below w.heap.size w w') := by
  have HO : Hid (oneF = 1065353216) := Lib.hid rfl
  go_enter Try.func67, Try.ntmps67
  go_wp2
  go_ret
  rw [HO.out]
  exact ⟨rfl, Below.refl _ _⟩
set_option maxHeartbeats 400000 in
theorem chances1_any (n i g b0 b1 : Nat) (A : Option Addr) (xs : List Nat) (c : Nat) (w : World) (hn : n ≤ 12) (hi : i < n) (hg : g < n) (hl : xs.length = n * n) (h : Rd w w.heap.size A (fl xs)) (h0 : w.cell? ⟨b0, 0, none⟩ = some (.int .i64 n)) (h1 : w.cell? ⟨b0, 1, none⟩ = some (.slice A xs.length c)) (h2 : w.cell? ⟨b1, 0, none⟩ = some (.int .i64 g)) :
    Calls Try.prog 68 #[.int .i64 i, .pointer (some ⟨b0, 0, none⟩), .pointer (some ⟨b1, 0, none⟩)] w (fun e w' => e = .returned (.float .f32 (stepOf xs n i g)) ∧ Below w.heap.size w w') := by
  have HS := Lib.hid (step_any n i g A xs c w hn hi hg hl h)
  clear h hl
  generalize stepOf xs n i g = v at *
  go_enter Try.func68, Try.ntmps68
  go_wp2_with (go_at_call 35; refine (HS.out).mono ?_; rintro e w9 ⟨rfl, hb9⟩)
  go_ret
  exact ⟨rfl, hb9⟩

theorem rd_new (w : World) (xs : List Int) (k : Nat) (hk : w.heap.size = k) : Rd (w.alloc (.cells (xs.map (Value.int .i64)).toArray 2)) (w.alloc (.cells (xs.map (Value.int .i64)).toArray 2)).heap.size (some ⟨k, 0, none⟩) (il xs) := fun h0 => by
  subst hk
  refine ⟨w.heap.size, 0, rfl, by simp, fun k hk => ?_⟩
  rw [Nat.zero_add, World.cell?_alloc_new]
  unfold il at *
  simp at hk ⊢
theorem row_new (W : World) (n k : Nat) (hk : W.heap.size = k) : (W.alloc (.cells (madeCells #[.float .f32 0] n) 31)).rowIs k 31 n (fun _ => .float .f32 0) := by
  subst hk
  exact World.rowIs_made W (.float .f32 0) n _
theorem rd_ne {w5 : World} {sg : Nat} {ls : List Nat} (h : Rd w5 w5.heap.size (some ⟨sg, 0, none⟩) (nlv ls)) (h0 : 0 < ls.length) : sg < w5.heap.size := by
  obtain ⟨b, off, e, hb, -⟩ := h (by rw [nlv_len]; exact h0)
  injection e with e
  injection e with e1 e2
  omega

set_option maxRecDepth 100000 in
set_option maxHeartbeats 1600000 in
theorem TimesTo_bad (side goal : Int) (A : Option Addr) (xs : List Nat) (c : Nat) (w : World) (hx : xs.length ≤ c) (hc : c ≤ 9223372036854775807) (hA : Rd w w.heap.size A (fl xs)) (hb : (validB side xs && stateB side goal) = false) :
    Calls Try.prog 28 #[.agg #[.int .i64 side, .slice A xs.length c], .int .i64 goal] w (flOut [] false w) := by
  have HV := Lib.hid fun W h => ValidChain_any side A xs c W hx hc h
  have HI := Lib.hid fun W (hn : 1 ≤ side ∧ side ≤ 12) => isState_any side goal A xs.length c W hn
  cases hv : validB side xs with
  | false =>
    rw [hv] at HV
    clear hb hv HI
    go_enter Try.func28, Try.ntmps28
    go_wp2_with (go_at_call 20; refine (HV.out _ (hA.at_ (below_al (Below.refl _ _) _))).mono ?_; rintro e w1 ⟨rfl, hb1⟩)
    refine bodyPost_ret (v := .tuple #[.slice none 0 0, .bool false]) (by simp [results, Try.results28, go_sem]) rfl ?_
    exact flOut_none (below_next (below_al (Below.refl _ _) _) hb1)
  | true =>
    rw [hv, Bool.true_and] at hb
    obtain ⟨n', hn', hn1, hn2, hl, hp, hrw⟩ := validB_facts hv
    have HI2 := Lib.hid fun W => HI.out W (by omega)
    rw [hb] at HI2
    rw [hv] at HV
    clear hb hv HI hl hp hrw hn' hn1 hn2
    go_enter Try.func28, Try.ntmps28
    go_wp2_with (go_at_call 20; refine (HV.out _ (hA.at_ (below_al (Below.refl _ _) _))).mono ?_; rintro e w1 ⟨rfl, hb1⟩; have z0 : w1.cell? ⟨w.heap.size, 0, none⟩ = some (.int .i64 side) := keepC hb1 (by simp [go_sem]); have z1 : w1.cell? ⟨w.heap.size, 1, none⟩ = some (.slice A xs.length c) := keepC hb1 (by simp [go_sem]))
    have B1 := Lib.hid (below_next (below_al (Below.refl _ _) _) hb1)
    clear hb1
    go_wp2_with (go_at_call 64; refine (HI2.out _).mono ?_; rintro e w2 ⟨rfl, hb2⟩)
    refine bodyPost_ret (v := .tuple #[.slice none 0 0, .bool false]) (by simp [results, Try.results28, go_sem]) rfl ?_
    exact flOut_none (below_next B1.out hb2)

set_option maxRecDepth 100000 in
set_option maxHeartbeats 3200000 in
theorem TimesTo_ok (n g : Nat) (A : Option Addr) (xs : List Nat) (c : Nat) (w : World) (hx : xs.length ≤ c) (hc : c ≤ 9223372036854775807) (hA : Rd w w.heap.size A (fl xs)) (hv : validB n xs = true) (hg : g < n) :
    Calls Try.prog 28 #[.agg #[.int .i64 n, .slice A xs.length c], .int .i64 g] w (flOut ((timesN xs n g).getD []) (timesN xs n g).isSome w) := by
  obtain ⟨n', hn', hn1, hn2, hl, hp, hrw⟩ := validB_facts hv
  obtain rfl : n = n' := by omega
  obtain ⟨i0, hi0, hz0, hz1, hz2⟩ := info_parts info_f32
  have hmk := run_make_row (P := Try.prog) 24 31 i0 (.float .f32 0) Try.underlying24 hi0 hz0 hz1 rfl .i64 .i64 n (by rw [hz2]; omega) (by omega)
  have HV := Lib.hid fun W h => ValidChain_any n A xs c W hx hc h
  rw [hv] at HV
  have HI := Lib.hid fun W => isState_any n g A xs.length c W (by omega)
  rw [show stateB n g = true from decide_eq_true (by omega)] at HI
  have HB := Lib.hid fun W A' c' h => statesBut_any n ⟨hn1, hn2⟩ A xs.length c A' [(g : Int)] c' W (by simp) h
  rw [(openL_N n [(g : Int)]).1, (openL_N n [(g : Int)]).2] at HB
  have HAV := Lib.hid fun sg cs G W h1 h2 h3 h4 => averages_times n A xs c (openN n [(g : Int)]) sg cs G (fun _ => 0) (fun _ => oneF) W ⟨hn1, hn2⟩ hl hp h1 h2 (openN_le _ _) (fun i hi => (openN_lt hi).1) (fun i k hi hk => openN_inj hi hk) h3 h4 (fun W _ i _ => times1_any i W)
  have HFIN : Hid (∀ wb G W e w9, avOut (solM (cofM xs n (openN n [(g : Int)]) (fun _ => oneF)) (openN n [(g : Int)]).length) (openN n [(g : Int)]) (fun _ => 0) n G W e w9 → Below wb.heap.size wb W → wb.heap.size ≤ G → flOut ((timesN xs n g).getD []) (timesN xs n g).isSome wb e w9) := Lib.hid fun wb G W e w9 h hb hG => av_fin h hb hG hn2
  have HA := Lib.hid hA
  generalize avOut (solM (cofM xs n (openN n [(g : Int)]) (fun _ => oneF)) (openN n [(g : Int)]).length) (openN n [(g : Int)]) (fun _ => 0) n = AV at *
  generalize openN n [(g : Int)] = ls at *
  generalize timesN xs n g = T at *
  clear hx hc hA hv hn' hl hp hrw hi0 hz0 hz1 hz2
  go_enter Try.func28, Try.ntmps28
  go_wp2_with (go_at_call 20; refine (HV.out _ (HA.out.at_ (below_al (Below.refl _ _) _))).mono ?_; rintro e w1 ⟨rfl, hb1⟩; have z0 : w1.cell? ⟨w.heap.size, 0, none⟩ = some (.int .i64 n) := keepC hb1 (by simp [go_sem]); have z1 : w1.cell? ⟨w.heap.size, 1, none⟩ = some (.slice A xs.length c) := keepC hb1 (by simp [go_sem]))
  have B1 := Lib.hid (below_next (below_al (Below.refl _ _) _) hb1)
  clear hb1
  go_wp2_with (go_at_call 64; refine (HI.out _).mono ?_; rintro e w2 ⟨rfl, hb2⟩)
  have B2 := Lib.hid (below_next B1.out hb2)
  have HZ : Hid (∀ W, Below w2.heap.size w2 W → W.cell? ⟨w.heap.size, 0, none⟩ = some (.int .i64 n) ∧ W.cell? ⟨w.heap.size, 1, none⟩ = some (.slice A xs.length c)) := Lib.hid fun W hW => ⟨keepC hW (keepC hb2 z0), keepC hW (keepC hb2 z1)⟩
  have q0 := keepC hb2 z0
  have q1 := keepC hb2 z1
  clear hb2 z0 z1 HV HI
  have hz2 := B2.out.size
  go_wp2_with fail
  go_region_held3 (fun W => W.cell? ⟨w.heap.size, 0, none⟩ = some (.int .i64 n) ∧ W.cell? ⟨w.heap.size, 1, none⟩ = some (.slice A xs.length c))
    (first | exact HZ.out _ bk9 | (refine HZ.out _ ?_; repeat (first | exact Below.refl _ _ | exact bk5 | refine below_al ?_ _ | refine below_dr ?_)))
    (first
      | (go_at_call 65; refine (HAV.out _ _ _ _ (HA.out.at_ (below_next B2.out (by repeat (first | exact bk5 | refine below_al ?_ _)))) (by first | exact RD5.out | exact RD5.out.at_ (below_al (Below.refl _ _) _)) (by first | exact row_new _ _ _ rfl | (refine (row_new _ _ _ ?_).of_block (HB5.out.block _ ?_) <;> first | (simp; done) | (simp; omega)) | (refine ((row_new _ _ _ ?_).alloc _).of_block (HB5.out.block _ ?_) <;> first | rfl | (simp; done) | (simp; omega))) (fun h0 => by first | exact Nat.ne_of_lt (rd_ne RD5.out h0) | (have := HS5.out; simp at this; omega))).mono ?_; intro e w9 h9; have f9 := HFIN.out w2 _ _ _ _ h9 (by repeat (first | exact bk5 | refine below_al ?_ _)) (by first | omega | (have := bk5.size; omega)); clear h9; obtain ⟨A9, c9, rfl, ho9, bk9⟩ := f9; have O9 := Lib.hid ho9; clear ho9)
      | (go_at_call 66; refine (HB.out _ _ _ (by first | (refine rd_new _ [(g : Int)] _ ?_; first | rfl | (simp; done)) | (refine (rd_new _ [(g : Int)] _ ?_).at_ (below_al (Below.refl _ _) _); first | rfl | (simp; done)) | (refine (rd_new _ [(g : Int)] _ ?_).at_ (below_dr (below_al (Below.refl _ _) _)); first | rfl | (simp; done)))).mono ?_; rintro e w5 ⟨sg, cap, rfl, hs5, hrd5, hb5⟩; have bk5 : Below w2.heap.size w2 w5 := below_next (by repeat (first | exact Below.refl _ _ | refine below_al ?_ _ | refine below_dr ?_)) hb5; have HS5 := Lib.hid hs5; have RD5 := Lib.hid hrd5; have HB5 := Lib.hid hb5; clear hs5 hrd5 hb5))
  all_goals
    go_wp2_with fail
    refine bodyPost_ret (v := .tuple #[.slice A9 (T.getD []).length c9, .bool T.isSome]) (by simp [results, Try.results28, go_sem]) rfl ?_
    exact ⟨A9, c9, rfl, own_base O9.out hz2, below_next B2.out bk9⟩
end Go.Proofs.Ytlhepgdheopgaaa

