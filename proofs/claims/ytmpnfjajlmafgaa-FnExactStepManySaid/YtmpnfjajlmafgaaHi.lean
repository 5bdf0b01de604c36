/-
  impl.HolmMany.
-/
import Derived.Test.YtmpnfjajlmafgaaHs
import Derived.Test.YtmpnfjajlmafgaaSh
import Derived.Test.YtmpnfjajlmafgaaTo
namespace Go.Proofs.Ytmpnfjajlmafgaa
open Go Go.RowKit Go.Sort Ieee
attribute [local go_sem] run_store_float

theorem info_f32h : (Try.prog.info? 69).map (fun i => (i.zero, i.size, i.bytes)) = some (some (.float .f32 0), 1, 4) := by kernel_rfl
/-- what both give: a list and whether there is one -/
def smOut (xs : List Nat) (ok : Bool) (w : World) : Ending → World → Prop := fun e w' =>
  ∃ A c, e = .returned (.tuple #[.slice A xs.length c, .bool ok]) ∧ w'.ownsRow w.heap.size 69 1 (.slice A xs.length c) xs.length (fl xs) ∧ Below w.heap.size w w'
theorem smOut_none {w w' : World} (hb : Below w.heap.size w w') : smOut [] false w (.returned (.tuple #[.slice none 0 0, .bool false])) w' := ⟨none, 0, rfl, World.ownsRow_nil _ _ _ _, hb⟩
theorem own_row {w : World} {g base m : Nat} {e : TypeId} {f : Nat → Value} (h : w.rowIs g e m f) (hb : base ≤ g) (hm : m ≤ maxLen) : w.ownsRow base e 1 (.slice (some ⟨g, 0, none⟩) m m) m ((List.range m).map f) := by
  obtain ⟨c, h1, h2, h3⟩ := h
  refine ⟨by simp, .inr ⟨g, m, c, rfl, hb, h1, Nat.le_refl _, hm, by omega, ?_⟩⟩
  refine List.ext_getElem (by simp; omega) fun i hi1 hi2 => ?_
  have hi : i < m := by simp at hi2; exact hi2
  have := h3 i hi
  rw [Array.getElem?_eq_getElem (by omega)] at this
  rw [List.getElem_take, List.getElem_map, List.getElem_range]
  exact Option.some.inj this
/-- the loop's world: the row G behind k stores, the order at g, all below B as it was -/
structure HW (w0 : World) (B G n g : Nat) (d : Array Nat) (f : Nat → Nat) (W : World) : Prop where
  b : Below B w0 W
  r : W.rowIs G 69 n (fun p => .float .f32 (f p))
  o : ∀ p, p < n → W.cell? ⟨g, p, none⟩ = some (.int .i64 (d[p]! : Nat))
  ne : g ≠ G
  lo : B ≤ G
theorem HW.set {w0 : World} {B G n g : Nat} {d : Array Nat} {f : Nat → Nat} {W : World} (h : HW w0 B G n g d f W) (i x : Nat) : HW w0 B G n g d (fun p => if p = i then x else f p) (W.setCell ⟨G, i, none⟩ (.float .f32 x)) :=
  ⟨h.b.setCell (p := ⟨G, i, none⟩) h.lo _, (h.r.set i _).congr fun p _ => by split <;> rfl, fun p hp => (World.cell?_setCell_other _ _ _ _ (by simp; intro e; exact absurd e.symm h.ne)).trans (h.o p hp), h.ne, h.lo⟩
theorem HW.drewN {w0 : World} {B G n g : Nat} {d : Array Nat} {f : Nat → Nat} {W : World} (h : HW w0 B G n g d f W) (m : Nat) : HW w0 B G n g d f (W.drewN m) :=
  ⟨below_drewN h.b m, h.r.of_block rfl, h.o, h.ne, h.lo⟩
theorem list_at {w : World} {B : Nat} {A : Option Addr} {xs : List Nat} (h : Rd w B A (fl xs)) (hl : 1 ≤ xs.length) : ∃ b off, A = some ⟨b, off, none⟩ ∧ b < B ∧ ∀ i, i < xs.length → w.cell? ⟨b, off + i, none⟩ = some (.float .f32 (xs.getD i 0)) := by
  obtain ⟨b, off, e, hb, -⟩ := h.flAt (show 0 < xs.length by omega)
  refine ⟨b, off, e, hb, fun i hi => ?_⟩
  obtain ⟨b', off', e', -, hc⟩ := h.flAt hi
  rw [e] at e'
  cases e'
  rw [hc, List.getD_eq_getElem?_getD, List.getElem?_eq_getElem hi]
  rfl
set_option maxHeartbeats 800000 in
theorem HolmMany_bad (A : Option Addr) (xs : List Nat) (c : Nat) (w : World) (hx : xs.length ≤ 9223372036854775807) (h : Rd w w.heap.size A (fl xs)) (hb : sharesB xs = false) : Calls Try.prog 24 #[.slice A xs.length c] w (smOut [] false w) := by
  have HS := Lib.hid (areShares_any A xs c w hx h)
  rw [hb] at HS
  clear h hb
  go_enter Try.func24, Try.ntmps24
  go_wp2_with (go_at_call 58; refine HS.out.mono ?_; rintro e w1 ⟨rfl, m, rfl⟩)
  go_ret2
  exact smOut_none (below_drewN (Below.refl _ _) _)
set_option maxRecDepth 100000 in
set_option maxHeartbeats 3200000 in
theorem HolmMany_ok (A : Option Addr) (xs : List Nat) (c : Nat) (w : World) (h : Rd w w.heap.size A (fl xs)) (hb : sharesB xs = true) :
    Calls Try.prog 24 #[.slice A xs.length c] w (fun e w' => ∃ d, OrdTo (keyI xs) xs.length d ∧ smOut (holmL xs d) true w e w') := by
  have hl : 1 ≤ xs.length ∧ xs.length ≤ 64 := by
    unfold sharesB at hb
    simp only [Bool.and_eq_true, decide_eq_true_eq] at hb
    exact hb.1
  have hp : xs.all partB = true := by
    unfold sharesB at hb
    simp only [Bool.and_eq_true] at hb
    exact hb.2
  have HS := Lib.hid (areShares_any A xs c w (by omega) h)
  rw [hb] at HS
  have HBY := Lib.hid fun W h => byShare_any A xs c W hp hl h
  have HR := Lib.hid h
  have HLA := Lib.hid (list_at h hl.1)
  have HPT := Lib.hid fun (d : Array Nat) (hd : ∀ k, k < xs.length → d[k]! < xs.length) k (hk : k < xs.length) => mul_run' (getD_part hp (hd k hk)) (show xs.length - k < 65 by omega)
  have HC := Lib.hid fun x w => atMostOne_any x w
  obtain ⟨i0, hi0, hz0, hz1, hz2⟩ := info_parts info_f32h
  have hmk := run_make_row (P := Try.prog) 35 69 i0 (.float .f32 0) Try.underlying35 hi0 hz0 hz1 rfl .i64 .i64 xs.length (by rw [hz2]; omega) (by omega)
  have HL : Hid (∀ d, holmL xs d = outL (mostG xs d) d xs.length) := Lib.hid fun d => rfl
  have HN : Hid (∀ d : Array Nat, (holmL xs d).length = xs.length) := Lib.hid fun d => outL_len _ _ _
  have HG : Hid (∀ (d : Array Nat) k, k < xs.length → mostI (holmX xs d) (k + 1) = if k = 0 ∨ FloatKind.f32.format.order (fmul (xs.getD d[k]! 0) (floatOfInt .f32 ((xs.length - k : Nat) : Int))) (mostI (holmX xs d) k) = some .gt then fmul (xs.getD d[k]! 0) (floatOfInt .f32 ((xs.length - k : Nat) : Int)) else mostI (holmX xs d) k) := Lib.hid fun d k hk => rfl
  have HGG : Hid (∀ (d : Array Nat) k, mostG xs d k = capF (mostI (holmX xs d) k)) := Lib.hid fun d k => rfl
  have HLT : Hid (∀ d, OrdTo (keyI xs) xs.length d → ∀ k, k < xs.length → d[k]! < xs.length) := Lib.hid fun d hd k hk => hd.lt hk
  clear h hb hp hi0 hz0 hz1 hz2
  obtain ⟨b0, off0, rfl, hb0, hc0⟩ := HLA.out
  have HC0 := Lib.hid hc0
  clear hc0 HLA
  generalize holmL xs = hL at *
  generalize mostG xs = mG at *
  generalize holmX xs = hX at *
  generalize keyI xs = K at *
  generalize hgx : (fun i => xs.getD i 0) = fx at *
  have hgx' : ∀ i, xs.getD i 0 = fx i := fun i => by rw [← hgx]
  simp only [hgx'] at HPT HC0 HG
  clear hgx hgx'
  have hfl : ∀ ys : List Nat, fl ys = ys.map (Value.float .f32) := fun _ => rfl
  unfold smOut
  generalize fl xs = fxs at *
  generalize xs.length = n at *
  go_enter Try.func24, Try.ntmps24
  go_upto_region 3 with (go_at_call 58; refine HS.out.mono ?_; rintro e w1 ⟨rfl, m, rfl⟩)
  have HRm : Hid (Rd (w.drewN m) (w.drewN m).heap.size (some ⟨b0, off0, none⟩) fxs) := Lib.hid HR.out
  have hszm : (w.drewN m).heap.size = w.heap.size := rfl
  have HBm : Hid (Below w.heap.size w (w.drewN m)) := Lib.hid (below_drewN (Below.refl _ _) _)
  clear HS HR
  generalize w.drewN m = wm at *
  have R0 := Lib.hid (World.rowIs_made wm (.float .f32 0) n 69)
  have B0 := Lib.hid (below_al (Below.refl wm.heap.size wm) (.cells (madeCells #[.float .f32 0] n) 69))
  have hsz1 : Hid ((wm.alloc (.cells (madeCells #[.float .f32 0] n) 69)).heap.size = w.heap.size + 1) := Lib.hid (by simp [hszm])
  rw [hszm] at R0
  go_upto_region 4 with fail
  generalize World.alloc wm _ = W1 at *
  go_wp2_with (go_at_call 59; refine (HBY.out _ (HRm.out.at_ B0.out)).mono ?_; rintro e w2 ⟨g, c2, d, rfl, hg1, hg2, hd1, hd2, hd3, hb2⟩; have D0 := Lib.hid (OrdTo.of_blk hd1 hd2); have D3 := Lib.hid hd3; have G1 := Lib.hid hg1; have B2 := Lib.hid hb2; clear hg1 hg2 hd1 hd2 hd3 hb2)
  have H0 : Hid (HW w w.heap.size w.heap.size n g d (fun _ => 0) w2) := Lib.hid (by
    have h1 := G1.out
    have h2 := hsz1.out
    refine ⟨(HBm.out.trans (B0.out.mono (by omega))).trans (B2.out.mono (by omega)), R0.out.of_block (B2.out.block _ (by omega)), D3.out, by omega, Nat.le_refl _⟩)
  clear R0 B0 B2 HRm HBY HBm D3 hsz1
  have hne : g ≠ w.heap.size := H0.out.ne
  go_loopw [5, 18] (fun mv kv wr => ∃ k : Nat, k ≤ n ∧ kv = .int .i64 k ∧ mv = .float .f32 (mostI (hX d) k) ∧ HW w w.heap.size w.heap.size n g d (outTo (mG d) d k) wr) (fun _ kv _ => n - (intOf kv).toNat)
  case atStart => exact ⟨0, Nat.zero_le _, rfl, rfl, H0.out⟩
  case round =>
    clear H0
    obtain ⟨k, hk, rfl, rfl, hw⟩ := hrel
    rename World => wr
    by_cases hlt : k < n
    · have hi := HLT.out d D0.out k hlt
      have y0 := hw.o k hlt
      have z1 := (hw.b.cell (p := ⟨b0, off0 + d[k]!, none⟩) hb0).trans (HC0.out _ hi)
      have y2 := hw.r.cell hi
      have f0 := hw.r.frozen d[k]!
      have H9 : Hid (∀ q, HW w w.heap.size w.heap.size n g d (outTo (mG d) d (k + 1)) ((wr.drewN q).setCell ⟨w.heap.size, d[k]!, none⟩ (.float .f32 (mG d (k + 1))))) := Lib.hid fun q => (hw.drewN q).set _ _
      rw [HGG.out] at H9
      have hm := HG.out d k hlt
      have hms := HPT.out d (HLT.out d D0.out) k hlt
      have hrun := fun w => run_float_arith (P := Try.prog) w .mul 69 .f32 _ _ _ hms.1
      have hwk : IntKind.i64.wrap ((n : Int) - (k : Int)) = ((n - k : Nat) : Int) := by rw [show (n : Int) - (k : Int) = ((n - k : Nat) : Int) by omega]; exact IntWalk.i64_in _ (by omega)
      have hkz : (k : Int) < (n : Int) := by omega
      have hiz : ((d[k]! : Nat) : Int) < (n : Int) := by omega
      clear hw hms HPT HG HGG HLT HC0
      have HIZ := Lib.hid hi
      clear hi
      generalize d[k]! = i at *
      generalize fx i = xi at *
      generalize outTo (mG d) d k i = oi at *
      generalize hmm : mostI (hX d) k = mm at *
      generalize hmn : mostI (hX d) (k + 1) = mn at *
      generalize n - k = nk at *
      generalize fmul xi _ = x at *
      have HMN := Lib.hid hmn
      have HMM := Lib.hid hmm
      clear hmm hmn
      by_cases h0 : k = 0
      · rw [if_pos (.inl h0)] at hm
        subst hm
        subst h0
        have hwk' : IntKind.i64.wrap (n : Int) = (nk : Int) := by
          rw [← hwk]
          congr 1
        have hkz' : 0 < n := by omega
        go_wp2_with (go_at_call 60; refine (HC.out _ _).mono ?_; rintro e w' ⟨rfl, q, rfl⟩)
        go_roundw
        case rel => exact ⟨0 + 1, by omega, by go_num, by rw [HMN.out], H9.out q⟩
        case measure => simp [intOf]; omega
      · have hk0 : ¬ (k : Int) = 0 := by omega
        cases ho : (FloatKind.f32.format.order x mm == some .gt) with
        | true =>
          rw [if_pos (.inr (eq_of_beq ho))] at hm
          subst hm
          clear h0
          go_wp2_with (go_at_call 60; refine (HC.out _ _).mono ?_; rintro e w' ⟨rfl, q, rfl⟩)
          go_roundw
          case rel => exact ⟨k + 1, by omega, by go_num, by rw [HMN.out], H9.out q⟩
          case measure => simp [intOf]; omega
        | false =>
          rw [if_neg (by rintro (h | h); exact h0 h; exact absurd h (beq_eq_false_iff_ne.1 ho))] at hm
          subst hm
          clear h0
          go_wp2_with (go_at_call 60; refine (HC.out _ _).mono ?_; rintro e w' ⟨rfl, q, rfl⟩)
          go_roundw
          case rel => exact ⟨k + 1, by omega, by go_num, by rw [HMN.out], H9.out q⟩
          case measure => simp [intOf]; omega
    · obtain rfl : k = n := by omega
      go_wp2_with fail
      go_ret2
      refine ⟨d, D0.out, some ⟨w.heap.size, 0, none⟩, k, by rw [HN.out]; rfl, ?_, hw.b⟩
      rw [HN.out, hfl, HL.out]
      have := own_row hw.r (Nat.le_refl _) (by unfold maxLen; omega)
      unfold outL
      rw [List.map_map]
      exact this
end Go.Proofs.Ytmpnfjajlmafgaa
