/-
  impl.DrawnMeans where the arguments are right and the list is short.
-/
import Derived.Test.YtfkjnaaplhcheaaMe4
import Derived.Test.YtfkjnaaplhcheaaMe6
import Derived.Test.YtfkjnaaplhcheaaNo
import Derived.Deep.RegionHeld3
import Derived.Deep.DeepCutAuto
namespace Go.Proofs.Ytfkjnaaplhcheaa
open Go Go.RowKit Ieee SeedFact

def dmOut (k : Int) (s : Int × Int) (ys : List Nat) (ok : Bool) (w : World) (e : Ending) (w' : World) : Prop :=
  ∃ A c, e = .returned (.tuple #[.agg #[.int .i64 k, .int .u64 s.1, .int .u64 s.2], .slice A ys.length c, .bool ok]) ∧ w'.ownsRow w.heap.size 50 1 (.slice A ys.length c) ys.length (fl ys) ∧ Below w.heap.size w w'
open Go Go.RowKit Go.Sort Ieee SeedFact

theorem cutL {P Q : Prop} (h : P) (f : P → Q) : Q := f h
theorem SdAt.keepB {w w' : World} {b B : Nat} {k a c : Int} (h : SdAt w b k a c) (hg : Below B w w') (hl : b < B) : SdAt w' b k a c := by
  obtain ⟨c0, c1, c2, c3⟩ := h
  have hb := hg.block b hl
  exact ⟨(World.cell?_of_block (a := ⟨b, 0, none⟩) hb).trans c0, (World.cell?_of_block (a := ⟨b, 1, none⟩) hb).trans c1, (World.cell?_of_block (a := ⟨b, 2, none⟩) hb).trans c2, fun o => (World.frozen?_of_block (a := ⟨b, o, none⟩) hb).trans (c3 o)⟩
theorem Dx.keepB {g B : Nat} {k a b : Int} {W W' : World} (h : Dx g k a b W) (hg : Below B W W') (hl : g + 2 ≤ B) : Dx g k a b W' := ⟨h.1.keepB hg (by omega), h.2.keepB hg (by omega)⟩
theorem listB_parts {xs : List Nat} (h : listB xs = true) : 1 ≤ xs.length ∧ xs.length ≤ 40 ∧ xs.all (isFin single) = true := by
  unfold listB at h
  simp only [Bool.and_eq_true, decide_eq_true_eq] at h
  exact ⟨h.1, h.2.1, h.2.2⟩
theorem sortMeans_any (ys zs : List Nat) (hf : ys.all (isFin single) = true) (hl : ys.length ≤ 1024) (hz : ∀ d' : Array Nat, Srt (Fs.keyF ys) d' 0 ys.length → Same 0 ys.length (Array.range ys.length) d' → sortL ys d' = zs) (W : World) (base g c : Nat)
    (ho : W.ownsRow base 50 1 (.slice (some ⟨g, 0, none⟩) ys.length c) ys.length (fl ys)) :
    Calls Try.prog 71 #[.slice (some ⟨g, 0, none⟩) ys.length c, Fs.shF] W (fun e w' => e = .returned (.tuple #[]) ∧ w'.ownsRow base 50 1 (.slice (some ⟨g, 0, none⟩) ys.length c) ys.length (fl zs) ∧ Below base W w') := by
  obtain ⟨h1, h2, h3⟩ := ownF_holds ho
  have hz0 : (Array.range ys.length).size = ys.length := by simp
  have hs := Fs.SortStable_any ys g c (Array.range ys.length) W (fin_sortable hf) hl hz0 (fun p hp => range_is (by omega)) h3
  rw [hz0] at hs
  refine hs.mono ?_
  rintro e w' ⟨rfl, d', hb, hm, hr⟩
  have h5 := ownF_sorted ho hr
  rw [hz d' hb.s hm] at h5
  exact ⟨rfl, h5.1, h5.2 _ h1⟩
set_option maxRecDepth 100000 in
set_option maxHeartbeats 12800000 in
theorem DrawnMeans_ok (k : Int) (s : Int × Int) (A : Option Addr) (xs zs : List Nat) (c T : Nat) (w : World) (hok : sdOk k s.1 s.2) (hl : listB xs = true) (hT : T ≤ 256) (hT11 : xs.length < 11) (h : Rd w w.heap.size A (fl xs)) (hzl : zs.length = T)
    (hz : ∀ d' : Array Nat, Srt (Fs.keyF (meansP k xs s T)) d' 0 (meansP k xs s T).length → Same 0 (meansP k xs s T).length (Array.range (meansP k xs s T).length) d' → sortL (meansP k xs s T) d' = zs) (fin : Bool) (hfin : (meansP k xs s T).all (isFin single) = fin) :
    Calls Try.prog 27 #[.agg #[.int .i64 k, .int .u64 s.1, .int .u64 s.2], .slice A xs.length c, .int .i64 T] w (dmOut (if fin = true then k else 0) (if fin = true then mS k xs.length s T else (0, 0)) (if fin = true then zs else []) fin w) := by
  obtain ⟨l1, l2, l3⟩ := listB_parts hl
  have HV : Hid (∀ w, Calls Try.prog 18 #[.agg #[.int .i64 k, .int .u64 s.1, .int .u64 s.2]] w (fun e w' => e = .returned (.bool true) ∧ Below w.heap.size w w')) := Lib.hid fun w => by
    have h3 := ValidSeed_any k s.1 s.2 hok.2.2 w
    rw [hok.1] at h3
    exact h3
  have HA : Hid (∀ W, Below w.heap.size w W → Calls Try.prog 68 #[.slice A xs.length c] W (Quiet (.bool true) W)) := Lib.hid fun W hW => by
    have h3 := areFinite_any A xs c W (by omega) (h.at_ hW)
    rw [l3] at h3
    exact h3
  have HAM : Hid (∀ W g c', Rd W W.heap.size (some ⟨g, 0, none⟩) (fl (meansP k xs s T)) → Calls Try.prog 68 #[.slice (some ⟨g, 0, none⟩) T c'] W (Quiet (.bool fin) W)) := Lib.hid fun W g c' h => by
    have h3 := areFinite_any (some ⟨g, 0, none⟩) (meansP k xs s T) c' W (by rw [meansP_len]; omega) h
    rw [hfin, meansP_len] at h3
    exact h3
  have HI : Hid (∀ w, Calls Try.prog 55 #[.int .i64 (T : Int), .int .i64 0, .int .i64 256] w (Quiet (.bool true) w)) := Lib.hid fun w => by
    have h3 := within_any (T : Int) 0 256 w
    rw [show inB (T : Int) 0 256 = true from decide_eq_true ⟨by omega, by omega⟩] at h3
    exact h3
  have HREP : Hid (∀ W b c', W.cell? ⟨b, 0, none⟩ = some (.int .i64 (xs.length : Nat)) → Calls Try.prog 70 #[.slice (some ⟨b, 0, none⟩) 1 c', .int .i64 (xs.length : Nat)] W (fun e w' => ∃ A' c', e = .returned (.slice A' xs.length c') ∧ w'.ownsRow W.heap.size 2 1 (.slice A' xs.length c') xs.length (il (List.replicate xs.length (xs.length : Int))) ∧ Below W.heap.size W w')) := Lib.hid fun W b c' h => Repeat_any (xs.length : Int) b c' xs.length W l1 l2 h
  have HBL : Hid (∀ i W A' c', Rd W W.heap.size A' (il (List.replicate xs.length (xs.length : Int))) → Calls Try.prog 69 #[.agg #[.int .i64 k, .int .u64 (mS k xs.length s i).1, .int .u64 (mS k xs.length s i).2], .slice A' xs.length c'] W (fun e w' => ∃ A2 c2, e = .returned (.tuple #[.agg #[.int .i64 k, .int .u64 (mS k xs.length s (i+1)).1, .int .u64 (mS k xs.length s (i+1)).2], .slice A2 xs.length c2, .bool true]) ∧ w'.ownsRow W.heap.size 2 1 (.slice A2 xs.length c2) xs.length (il (pL k xs.length (mS k xs.length s i) xs.length)) ∧ Below W.heap.size W w')) := Lib.hid fun i W A' c' h => belowAll_any k (mS k xs.length s i) xs.length xs.length A' c' W (mS_ok hok i) l1 (by omega) (by omega) h
  have HADD := Lib.hid fun i m => sumP_run (k := k) (s := mS k xs.length s i) l3 l1 m
  have HQUO := Lib.hid fun i => (meanP_run (k := k) (s := mS k xs.length s i) l3 l1 l2).1
  have HLT := Lib.hid fun i j => pN_lt k (mS k xs.length s i) j l1
  have HLEN := Lib.hid fun i => pL_len k xs.length (mS k xs.length s i) xs.length
  have HGET : Hid (∀ i j, j < xs.length → (pL k xs.length (mS k xs.length s i) xs.length).getD j 0 = (pN k xs.length (mS k xs.length s i) j : Int)) := Lib.hid fun i j hj => by
    rw [List.getD_eq_getElem?_getD, List.getElem?_eq_getElem (by rw [pL_len]; exact hj)]
    exact pL_get _
  have HSUC : Hid (∀ i, fl (meansP k xs s (i + 1)) = fl (meansP k xs s i) ++ [.float .f32 (meanP k xs (mS k xs.length s i))]) := Lib.hid fun i => by rw [meansP_succ]; simp [fl]
  have H0 : Hid (mS k xs.length s 0 = s) := Lib.hid rfl
  have HM0 : Hid (fl (meansP k xs s 0) = []) := Lib.hid rfl
  have HS0 : Hid (∀ i, sumP k xs (mS k xs.length s i) 0 = 0) := Lib.hid fun i => rfl
  have HSORT : fin = true → ∀ (W : World) (base g c' : Nat), W.ownsRow base 50 1 (.slice (some ⟨g, 0, none⟩) T c') T (fl (meansP k xs s T)) → Calls Try.prog 71 #[.slice (some ⟨g, 0, none⟩) T c', .func (.func 72) #[] #[]] W (fun e w' => e = .returned (.tuple #[]) ∧ w'.ownsRow base 50 1 (.slice (some ⟨g, 0, none⟩) T c') T (fl zs) ∧ Below base W w') := fun hf W base g c' ho => by
    have h3 := sortMeans_any (meansP k xs s T) zs (hfin.trans hf) (by rw [meansP_len]; omega) hz W base g c' (by rw [meansP_len]; exact ho)
    rw [meansP_len] at h3
    exact h3
  have HSO := Lib.hid HSORT
  obtain ⟨b0, off0, rfl, hb0, hc0⟩ := rd_cells h l1
  have HC0 : Hid (∀ W, Below w.heap.size w W → ∀ i, i < xs.length → W.cell? ⟨b0, off0 + i, none⟩ = some (.float .f32 (xs.getD i 0))) := Lib.hid fun W hW i hi => by
    rw [hW.cell (p := ⟨b0, off0 + i, none⟩) hb0, hc0 i hi, List.getD_eq_getElem?_getD, List.getElem?_eq_getElem hi]
    rfl
  have HSZ : Hid (zs.length = T) := Lib.hid hzl
  unfold dmOut
  clear h hok hl l3 HSORT hz hfin hc0 hzl
  obtain ⟨i0, hi0, hz0, hz1, hz2⟩ := info_parts info_f32
  generalize hxn : xs.length = n at *
  generalize hgx : (fun i => xs.getD i 0) = fx at *
  have hgx' : ∀ i, xs.getD i 0 = fx i := fun i => by rw [← hgx]
  simp only [hgx'] at HADD HC0
  generalize mS k n s = MS at *
  generalize meansP k xs s = MP at *
  generalize hsp : (fun i => sumP k xs (MS i)) = SP at *
  have hsp' : ∀ i, sumP k xs (MS i) = SP i := fun i => by rw [← hsp]
  simp only [hsp'] at HADD HQUO HS0
  generalize hmp : (fun i => meanP k xs (MS i)) = ME at *
  have hmp' : ∀ i, meanP k xs (MS i) = ME i := fun i => by rw [← hmp]
  simp only [hmp'] at HQUO HSUC
  generalize hpn : (fun i => pN k n (MS i)) = PN at *
  have hpn' : ∀ i, pN k n (MS i) = PN i := fun i => by rw [← hpn]
  simp only [hpn'] at HADD HLT HGET
  generalize hpl : (fun i => pL k n (MS i) n) = PL at *
  have hpl' : ∀ i, pL k n (MS i) n = PL i := fun i => by rw [← hpl]
  simp only [hpl'] at HBL HLEN HGET
  clear hgx hgx' hsp hsp' hmp hmp' hpn hpn' hpl hpl' hxn
  go_enter Try.func27, Try.ntmps27
  go_wp2_with fail
  generalize hW1 : World.alloc (World.alloc w _) _ = W1
  have hx1 : Dx w.heap.size k s.1 s.2 W1 := by rw [← hW1]; simp [Dx, SdAt, go_sem]
  have HB1 : Hid (Below w.heap.size w W1) := by rw [← hW1]; exact Lib.hid (below_al (below_al (Below.refl _ _) _) _)
  clear hW1
  have HX1 := Lib.hid hx1
  clear hx1
  refine (HV.out _).mono ?_
  rintro e w2 ⟨rfl, hb2⟩
  have HX2 := Lib.hid (HX1.out.keep hb2)
  have HB2 := Lib.hid (below_next HB1.out hb2)
  clear hb2 HX1 HB1
  have n40 : ¬ (40 : Int) < (n : Int) := by omega
  have n1 : ¬ (n : Int) < 1 := by omega
  go_upto_region 4 with (first
    | (go_at_call 68; refine (HA.out _ HB2.out).mono ?_; rintro e w3 ⟨rfl, m3, rfl⟩)
    | (go_at_call 55; refine (HI.out _).mono ?_; rintro e w4 ⟨rfl, m4, rfl⟩))
  have HX4 : Hid (Dx w.heap.size k s.1 s.2 (w2.drewN (m3 + m4))) := Lib.hid (HX2.out.keep (below_dn (Below.refl _ _) _))
  have HB4 : Hid (Below w.heap.size w (w2.drewN (m3 + m4))) := Lib.hid (below_dn HB2.out _)
  try rw [World.drewN_drewN]
  generalize w2.drewN (m3 + m4) = W4 at *
  have hx3 := HX4.out.keep (below_al (Below.refl _ _) (.cells #[] 50))
  have HX3 := Lib.hid hx3
  have HB3 := Lib.hid (below_al HB4.out (.cells #[] 50))
  have hl2 := HX4.out.lt
  have HO3 : Hid ((W4.alloc (.cells #[] 50)).ownsRow (w.heap.size + 2) 50 1 (.slice (some ⟨W4.heap.size, 0, none⟩) 0 0) 0 []) := Lib.hid (World.ownsRow_made W4 #[] 0 (base := w.heap.size + 2) (e := 50) (size := 1) (by omega) (by unfold maxLen; omega) rfl)
  clear hx3 HX4 HB4 HX2 HB2 HV HA HI
  go_wp2_with fail
  generalize World.alloc W4 _ = W3 at *
  go_loopw [10, 11, 12, 13, 14, 16, 43] (fun ov _ _ _ _ _ iv wr => ∃ i : Nat, i ≤ T ∧ iv = .int .i64 i ∧ Dx w.heap.size k (MS i).1 (MS i).2 wr ∧ Below w.heap.size w wr ∧ ∃ g' c', ov = .slice (some ⟨g', 0, none⟩) i c' ∧ wr.ownsRow (w.heap.size + 2) 50 1 (.slice (some ⟨g', 0, none⟩) i c') i (fl (MP i))) (fun _ _ _ _ _ _ iv _ => T - (intOf iv).toNat)
  case atStart => exact ⟨0, by omega, rfl, by rw [H0.out]; exact HX3.out, HB3.out, _, _, rfl, by rw [HM0.out]; exact HO3.out⟩
  case round =>
    obtain ⟨i, hi, rfl, hx, hbw, g', c', rfl, how⟩ := hrel
    rename World => wr
    have HX := Lib.hid hx
    have HB' := Lib.hid hbw
    have HO := Lib.hid how
    have hlt := HX.out.lt
    clear hbw how HX3 HB3 HO3
    obtain ⟨⟨s0, s1, s2, sf⟩, ⟨z0, z1, z2, zf⟩⟩ := hx
    by_cases hcase : i < T
    · have HBi := Lib.hid (HBL.out i)
      have HADDi := Lib.hid (HADD.out i)
      have HQUOi := Lib.hid (HQUO.out i)
      have HLTi := Lib.hid (HLT.out i)
      have HLENi := Lib.hid (HLEN.out i)
      have HGETi := Lib.hid (HGET.out i)
      have HS0i := Lib.hid (HS0.out i)
      have HSUCi := Lib.hid (HSUC.out i)
      generalize hst' : MS (i + 1) = st' at *
      have HST := Lib.hid hst'
      clear hst' HBL HADD HQUO HLT HLEN HGET HS0 HSUC HSO HAM
      generalize SP i = sp at *
      generalize PN i = pn at *
      generalize PL i = pl at *
      generalize ME i = me at *
      generalize MS i = st at *
      obtain ⟨aT, bT⟩ := st
      obtain ⟨a', b'⟩ := st'
      go_upto_region 7 with fail
      have hMk : Hid (∀ W, Below wr.heap.size wr W → W.cell? ⟨w.heap.size, 0, none⟩ = some (.int .i64 k) ∧ W.cell? ⟨w.heap.size, 1, none⟩ = some (.int .u64 aT) ∧ W.cell? ⟨w.heap.size, 2, none⟩ = some (.int .u64 bT)) := Lib.hid fun W hW => ⟨keepC hW s0, keepC hW s1, keepC hW s2⟩
      go_cut [11, 12, 13] (fun s11 s12 s13 wx => ∃ gb A12 c12, s11 = .pointer (some ⟨gb, 0, none⟩) ∧ s12 = .slice A12 n c12 ∧ s13 = .bool true ∧ wx.cell? ⟨gb, 0, none⟩ = some (.int .i64 k) ∧ wx.cell? ⟨gb, 1, none⟩ = some (.int .u64 a') ∧ wx.cell? ⟨gb, 2, none⟩ = some (.int .u64 b') ∧ wx.ownsRow wr.heap.size 2 1 (.slice A12 n c12) n (il pl) ∧ Below wr.heap.size wr wx)
      case first =>
        go_region_held3 (fun W => W.cell? ⟨w.heap.size, 0, none⟩ = some (.int .i64 k) ∧ W.cell? ⟨w.heap.size, 1, none⟩ = some (.int .u64 aT) ∧ W.cell? ⟨w.heap.size, 2, none⟩ = some (.int .u64 bT))
          (first | exact hMk.out _ (by repeat (first | assumption | exact Below.refl _ _ | refine below_al ?_ _ | refine below_dr ?_ | refine below_dn ?_ _ | refine below_set ?_ _ _ (by first | exact Nat.le_refl _ | (simp; done) | (simp; omega)))))
          (first
            | (go_at_call 69; refine (HBi.out _ _ _ (rdw8.at_ (by repeat (first | assumption | exact Below.refl _ _ | refine below_al ?_ _ | refine below_dr ?_ | refine below_dn ?_ _ | refine below_set ?_ _ _ (by first | exact Nat.le_refl _ | (simp; done) | (simp; omega)))))).mono ?_; rintro e w9 ⟨A9, c9, rfl, hown9, hbw9⟩; have hkw9 : Below wr.heap.size wr w9 := below_next (by repeat (first | assumption | exact Below.refl _ _ | refine below_al ?_ _ | refine below_dr ?_ | refine below_dn ?_ _ | refine below_set ?_ _ _ (by first | exact Nat.le_refl _ | (simp; done) | (simp; omega)))) hbw9; have hsw9 : wr.heap.size ≤ w9.heap.size := hkw9.size; have hw8_w9 : Below w8.heap.size w8 w9 := below_next (by repeat (first | assumption | exact Below.refl _ _ | refine below_al ?_ _ | refine below_dr ?_ | refine below_dn ?_ _ | refine below_set ?_ _ _ (by first | exact Nat.le_refl _ | (simp; done) | (simp; omega)))) hbw9; (try (have ltwr_w9 : wr.heap.size < w9.heap.size := (by first | (have := hbw9.size; simp at this; omega) | (have := hbw9.size; omega)); refine cutL (P := w9.cell? ⟨wr.heap.size, 0, none⟩ = some (.int .i64 0)) ?_ ?_; (focus (refine keepC hbw9 ?_; first | assumption | (simp [go_sem]; done))); intro q0wr_w9; refine cutL (P := w9.cell? ⟨wr.heap.size, 1, none⟩ = some (.int .u64 0)) ?_ ?_; (focus (refine keepC hbw9 ?_; first | assumption | (simp [go_sem]; done))); intro q1wr_w9; refine cutL (P := w9.cell? ⟨wr.heap.size, 2, none⟩ = some (.int .u64 0)) ?_ ?_; (focus (refine keepC hbw9 ?_; first | assumption | (simp [go_sem]; done))); intro q2wr_w9; refine cutL (P := ∀ o, w9.frozen? ⟨wr.heap.size, o, none⟩ = false) ?_ ?_; (focus (intro o; refine (hbw9.frozen (p := ⟨wr.heap.size, o, none⟩) ?_).trans ?_; (focus (first | (show _ < _; omega) | (simp; done) | (simp; omega))); first | (simp [go_sem]; done) | (simp [*]; done))); intro fzwr_w9)); (try (have ltwrp_w9 : wr.heap.size + 1 < w9.heap.size := (by first | (have := hbw9.size; simp at this; omega) | (have := hbw9.size; omega)); refine cutL (P := w9.cell? ⟨wr.heap.size + 1, 0, none⟩ = some (.int .i64 0)) ?_ ?_; (focus (refine keepC hbw9 ?_; first | assumption | (simp [go_sem]; done))); intro q0wrp_w9; refine cutL (P := w9.cell? ⟨wr.heap.size + 1, 1, none⟩ = some (.int .u64 0)) ?_ ?_; (focus (refine keepC hbw9 ?_; first | assumption | (simp [go_sem]; done))); intro q1wrp_w9; refine cutL (P := w9.cell? ⟨wr.heap.size + 1, 2, none⟩ = some (.int .u64 0)) ?_ ?_; (focus (refine keepC hbw9 ?_; first | assumption | (simp [go_sem]; done))); intro q2wrp_w9; refine cutL (P := ∀ o, w9.frozen? ⟨wr.heap.size + 1, o, none⟩ = false) ?_ ?_; (focus (intro o; refine (hbw9.frozen (p := ⟨wr.heap.size + 1, o, none⟩) ?_).trans ?_; (focus (first | (show _ < _; omega) | (simp; done) | (simp; omega))); first | (simp [go_sem]; done) | (simp [*]; done))); intro fzwrp_w9)); (try (have ltw8_w9 : w8.heap.size < w9.heap.size := (by first | (have := hbw9.size; simp at this; omega) | (have := hbw9.size; omega)); refine cutL (P := w9.cell? ⟨w8.heap.size, 0, none⟩ = some (.int .i64 0)) ?_ ?_; (focus (refine keepC hbw9 ?_; first | assumption | (simp [go_sem]; done))); intro q0w8_w9; refine cutL (P := w9.cell? ⟨w8.heap.size, 1, none⟩ = some (.int .u64 0)) ?_ ?_; (focus (refine keepC hbw9 ?_; first | assumption | (simp [go_sem]; done))); intro q1w8_w9; refine cutL (P := w9.cell? ⟨w8.heap.size, 2, none⟩ = some (.int .u64 0)) ?_ ?_; (focus (refine keepC hbw9 ?_; first | assumption | (simp [go_sem]; done))); intro q2w8_w9; refine cutL (P := ∀ o, w9.frozen? ⟨w8.heap.size, o, none⟩ = false) ?_ ?_; (focus (intro o; refine (hbw9.frozen (p := ⟨w8.heap.size, o, none⟩) ?_).trans ?_; (focus (first | (show _ < _; omega) | (simp; done) | (simp; omega))); first | (simp [go_sem]; done) | (simp [*]; done))); intro fzw8_w9)); (try (have ltw8p_w9 : w8.heap.size + 1 < w9.heap.size := (by first | (have := hbw9.size; simp at this; omega) | (have := hbw9.size; omega)); refine cutL (P := w9.cell? ⟨w8.heap.size + 1, 0, none⟩ = some (.int .i64 0)) ?_ ?_; (focus (refine keepC hbw9 ?_; first | assumption | (simp [go_sem]; done))); intro q0w8p_w9; refine cutL (P := w9.cell? ⟨w8.heap.size + 1, 1, none⟩ = some (.int .u64 0)) ?_ ?_; (focus (refine keepC hbw9 ?_; first | assumption | (simp [go_sem]; done))); intro q1w8p_w9; refine cutL (P := w9.cell? ⟨w8.heap.size + 1, 2, none⟩ = some (.int .u64 0)) ?_ ?_; (focus (refine keepC hbw9 ?_; first | assumption | (simp [go_sem]; done))); intro q2w8p_w9; refine cutL (P := ∀ o, w9.frozen? ⟨w8.heap.size + 1, o, none⟩ = false) ?_ ?_; (focus (intro o; refine (hbw9.frozen (p := ⟨w8.heap.size + 1, o, none⟩) ?_).trans ?_; (focus (first | (show _ < _; omega) | (simp; done) | (simp; omega))); first | (simp [go_sem]; done) | (simp [*]; done))); intro fzw8p_w9)))
            | (go_at_call 70; refine (HREP.out _ _ _ (by first | assumption | (simp [go_sem]; done))).mono ?_; rintro e w8 ⟨A8, c8, rfl, hownw8, hbw8⟩; have rdw8 := Rd.of_own hownw8; have hkw8 : Below wr.heap.size wr w8 := below_next (by repeat (first | assumption | exact Below.refl _ _ | refine below_al ?_ _ | refine below_dr ?_ | refine below_dn ?_ _ | refine below_set ?_ _ _ (by first | exact Nat.le_refl _ | (simp; done) | (simp; omega)))) hbw8; have hsw8 : wr.heap.size ≤ w8.heap.size := hkw8.size; (try (have ltwr_w8 : wr.heap.size < w8.heap.size := (by first | (have := hbw8.size; simp at this; omega) | (have := hbw8.size; omega)); refine cutL (P := w8.cell? ⟨wr.heap.size, 0, none⟩ = some (.int .i64 0)) ?_ ?_; (focus (refine keepC hbw8 ?_; first | assumption | (simp [go_sem]; done))); intro q0wr_w8; refine cutL (P := w8.cell? ⟨wr.heap.size, 1, none⟩ = some (.int .u64 0)) ?_ ?_; (focus (refine keepC hbw8 ?_; first | assumption | (simp [go_sem]; done))); intro q1wr_w8; refine cutL (P := w8.cell? ⟨wr.heap.size, 2, none⟩ = some (.int .u64 0)) ?_ ?_; (focus (refine keepC hbw8 ?_; first | assumption | (simp [go_sem]; done))); intro q2wr_w8; refine cutL (P := ∀ o, w8.frozen? ⟨wr.heap.size, o, none⟩ = false) ?_ ?_; (focus (intro o; refine (hbw8.frozen (p := ⟨wr.heap.size, o, none⟩) ?_).trans ?_; (focus (first | (show _ < _; omega) | (simp; done) | (simp; omega))); first | (simp [go_sem]; done) | (simp [*]; done))); intro fzwr_w8)); (try (have ltwrp_w8 : wr.heap.size + 1 < w8.heap.size := (by first | (have := hbw8.size; simp at this; omega) | (have := hbw8.size; omega)); refine cutL (P := w8.cell? ⟨wr.heap.size + 1, 0, none⟩ = some (.int .i64 0)) ?_ ?_; (focus (refine keepC hbw8 ?_; first | assumption | (simp [go_sem]; done))); intro q0wrp_w8; refine cutL (P := w8.cell? ⟨wr.heap.size + 1, 1, none⟩ = some (.int .u64 0)) ?_ ?_; (focus (refine keepC hbw8 ?_; first | assumption | (simp [go_sem]; done))); intro q1wrp_w8; refine cutL (P := w8.cell? ⟨wr.heap.size + 1, 2, none⟩ = some (.int .u64 0)) ?_ ?_; (focus (refine keepC hbw8 ?_; first | assumption | (simp [go_sem]; done))); intro q2wrp_w8; refine cutL (P := ∀ o, w8.frozen? ⟨wr.heap.size + 1, o, none⟩ = false) ?_ ?_; (focus (intro o; refine (hbw8.frozen (p := ⟨wr.heap.size + 1, o, none⟩) ?_).trans ?_; (focus (first | (show _ < _; omega) | (simp; done) | (simp; omega))); first | (simp [go_sem]; done) | (simp [*]; done))); intro fzwrp_w8))))
        all_goals (go_wp2_with fail; go_meet; exact ⟨_, A9, c9, rfl, rfl, rfl, (by first | (simp [go_sem]; done) | (simp [go_sem, q0wr_w9]; done) | (simp [go_sem, q0wrp_w9]; done) | (simp [go_sem, q0w8_w9]; done) | (simp [go_sem, q0w8p_w9, q1w8p_w9, q2w8p_w9]; done)), (by first | (simp [go_sem]; done) | (simp [go_sem, q1wr_w9]; done) | (simp [go_sem, q1wrp_w9]; done) | (simp [go_sem, q1w8_w9]; done) | (simp [go_sem, q0w8p_w9, q1w8p_w9, q2w8p_w9]; done)), (by first | (simp [go_sem]; done) | (simp [go_sem, q2wr_w9]; done) | (simp [go_sem, q2wrp_w9]; done) | (simp [go_sem, q2w8_w9]; done) | (simp [go_sem, q0w8p_w9, q1w8p_w9, q2w8p_w9]; done)), (by first | exact own_base (hown9.alloc _) (by first | omega | (simp; done) | (simp; omega)) | exact own_base (ownsRow_setCell_below (ownsRow_setCell_below (ownsRow_setCell_below (hown9) (by first | (simp; done) | (simp; omega) | (show _ < _; omega)) _) (by first | (simp; done) | (simp; omega) | (show _ < _; omega)) _) (by first | (simp; done) | (simp; omega) | (show _ < _; omega)) _) (by first | omega | (simp; done) | (simp; omega))), (by repeat (first | assumption | exact Below.refl _ _ | refine below_al ?_ _ | refine below_dr ?_ | refine below_dn ?_ _ | refine below_set ?_ _ _ (by first | exact Nat.le_refl _ | (simp; done) | (simp; omega))))⟩)
      rename World => wx
      obtain ⟨gb, A12, c12, rfl, rfl, rfl, y0, y1, y2, how12, hbx⟩ := hcut
      obtain ⟨gq, rfl, hgq, hrq, -⟩ := own_rw how12 l1 HLENi.out
      have hgql : w.heap.size + 1 < gq := by omega
      have HXx := Lib.hid (HX.out.keep hbx)
      have HBx := Lib.hid (below_next HB'.out hbx)
      have HOx := Lib.hid (own_below HO.out hbx)
      have HRq := Lib.hid hrq
      clear how12 hbx hrq s0 s1 s2 sf z0 z1 z2 zf hMk HX HB' HO HBi HREP
      obtain ⟨⟨s0, s1, s2, sf⟩, ⟨z0, z1, z2, zf⟩⟩ := HXx.out
      have hltx := HXx.out.lt
      go_upto_region 11 with fail
      have HX8 := Lib.hid (HXx.out.set k a' b')
      have HB8 := Lib.hid (below_set (below_set (below_set HBx.out ⟨w.heap.size, 0, none⟩ (.int .i64 k) (by simp)) ⟨w.heap.size, 1, none⟩ (.int .u64 a') (by simp)) ⟨w.heap.size, 2, none⟩ (.int .u64 b') (by simp))
      have HO8 := Lib.hid (ownsRow_setCell_below (ownsRow_setCell_below (ownsRow_setCell_below HOx.out (a := ⟨w.heap.size, 0, none⟩) (show w.heap.size < w.heap.size + 2 by omega) (.int .i64 k)) (a := ⟨w.heap.size, 1, none⟩) (show w.heap.size < w.heap.size + 2 by omega) (.int .u64 a')) (a := ⟨w.heap.size, 2, none⟩) (show w.heap.size < w.heap.size + 2 by omega) (.int .u64 b'))
      have HR8 := Lib.hid (((HRq.out.other (a := ⟨w.heap.size, 0, none⟩) (by simp; omega) (.int .i64 k)).other (a := ⟨w.heap.size, 1, none⟩) (by simp; omega) (.int .u64 a')).other (a := ⟨w.heap.size, 2, none⟩) (by simp; omega) (.int .u64 b'))
      generalize World.setCell (World.setCell (World.setCell _ _ _) _ _) _ _ = W8 at *
      clear s0 s1 s2 sf z0 z1 z2 zf HXx HBx HOx HRq y0 y1 y2
      go_wp2_with fail
      go_loopw [14, 16, 61] (fun sv _ jv wz => ∃ j : Nat, j ≤ n ∧ jv = .int .i64 j ∧ sv = .float .f32 (sp j) ∧ wz = W8) (fun _ _ jv _ => n - (intOf jv).toNat)
      case atStart => exact ⟨0, by omega, rfl, by rw [HS0i.out], rfl⟩
      case round =>
        obtain ⟨j, hj, rfl, rfl, rfl⟩ := hrel
        rename World => wz
        by_cases hjn : j < n
        · have cq := HR8.out.cell (i := j) (by rw [HLENi.out]; exact hjn)
          rw [HGETi.out j hjn] at cq
          have hpl := HLTi.out j
          have cx := HC0.out wz HB8.out (pn j) hpl
          have hr := fun w => run_float_arith (P := Try.prog) w .add 50 .f32 _ _ _ (HADDi.out j)
          clear HADDi HQUOi HGETi HLTi HLENi
          generalize hfx : fx (pn j) = y at *
          clear hfx
          generalize pn j = p at *
          generalize hz' : sp (j + 1) = z' at *
          have HZ' := Lib.hid hz'
          clear hz'
          generalize sp j = z at *
          go_wp2_with fail
          go_roundw
          case rel => exact ⟨j + 1, hjn, by go_num, by rw [HZ'.out], by first | rfl | trivial⟩
          case measure => simp [intOf]; omega
        · obtain rfl : j = n := by omega
          have hr := fun w => run_float_arith (P := Try.prog) w .quo 50 .f32 _ _ _ HQUOi.out
          clear HADDi HQUOi HGETi HLTi HLENi
          generalize sp j = z at *
          have hi2 : i < 256 := by omega
          have hlt8 := HX8.out.lt
          go_wp2_with (refine wpList_append_lies _ rfl _ _ _ rfl (w.heap.size + 2) 50 i0 _ 1 4 Try.underlying46 hi0 hz0 hz1 hz2 rfl (by omega) (.slice (some ⟨g', 0, none⟩) i c') i (fl (MP i)) (by rfl) (HO8.out.alloc _) ⟨wz.heap.size, 0, none⟩ 1 1 [.float .f32 me] (by rfl) (by rfl) (World.news_of_block (cs := #[.float .f32 me]) (t := 50) (fr := (0, 0)) (heap_alloc_new wz _)) (by simp [Value.oneCell']) (by omega) (by unfold maxLen; omega) (by omega) (by simp; omega) (wz.heap.size + 1) (by simp) ?_; intro g9 cap9 w9 hown9 hgrow hat hlt9; have HX9 := Lib.hid ((HX8.out.keep (below_al (Below.refl _ _) (.cells #[.float .f32 me] 50))).grownR hgrow (fun q hq => (HO8.out.lt q hq).1)); have HB9 := Lib.hid ((below_al HB8.out (.cells #[.float .f32 me] 50)).grown hgrow (by have := HB8.out.size; simp; omega) (fun q hq => by have := (HO8.out.lt q hq).1; omega)); have HO9 := Lib.hid hown9; clear hown9 hgrow hat hlt9)
          go_roundw
          case rel => exact ⟨i + 1, hcase, by go_num, by rw [HST.out]; exact HX9.out, HB9.out, _, _, rfl, by rw [HSUCi.out]; exact HO9.out⟩
          case measure => simp [intOf]; omega
    · obtain rfl : i = T := by omega
      have HAMi := Lib.hid (HAM.out wr g' c' (Rd.of_own HO.out))
      cases fin with
      | false =>
        clear HSO HAM
        go_wp2_with (go_at_call 68; refine HAMi.out.mono ?_; rintro e w5 ⟨rfl, m5, rfl⟩)
        have HX7 := HX.out.keep (below_dn (Below.refl _ _) m5)
        have hX7 := HX7.2.set 0 0 0
        have hB7 := below_set (below_set (below_set (below_dn HB'.out m5) ⟨w.heap.size + 1, 0, none⟩ (.int .i64 0) (by simp)) ⟨w.heap.size + 1, 1, none⟩ (.int .u64 0) (by simp)) ⟨w.heap.size + 1, 2, none⟩ (.int .u64 0) (by simp)
        generalize World.setCell (World.setCell (World.setCell _ _ _) _ _) _ _ = W7 at hX7 hB7 ⊢
        obtain ⟨y0, y1, y2, -⟩ := hX7
        refine bodyPost_ret (v := .tuple #[.agg #[.int .i64 0, .int .u64 0, .int .u64 0], .slice none 0 0, .bool false]) (by simp [results, Try.results27, go_sem, y0, y1, y2]) rfl ⟨none, 0, rfl, World.ownsRow_nil _ _ _ _, hB7⟩
      | true =>
        have HSOi := Lib.hid (HSO.out rfl)
        clear HSO HAM
        go_upto_region 21 with (go_at_call 68; refine HAMi.out.mono ?_; rintro e w5 ⟨rfl, m5, rfl⟩)
        have HX7 := Lib.hid (HX.out.keep (below_dn (Below.refl _ _) m5))
        have HB7 := Lib.hid (below_dn HB'.out m5)
        have HO7 := Lib.hid (own_below HO.out (below_dn (Below.refl _ _) m5))
        clear s0 s1 s2 sf z0 z1 z2 zf HX HB' HO
        generalize wr.drewN m5 = W7 at *
        go_wp2_with (go_at_call 71; refine (HSOi.out _ _ _ _ HO7.out).mono ?_; rintro e w8 ⟨rfl, ho8, hb8⟩; have HO8 := Lib.hid ho8; have HX8 := Lib.hid (HX7.out.keepB hb8 (Nat.le_refl _)); have HB8 := Lib.hid (HB7.out.trans (hb8.mono (by omega))); clear ho8 hb8; obtain ⟨⟨s0, s1, s2, sf⟩, ⟨z0, z1, z2, zf⟩⟩ := HX8.out)
        have hX9 := HX8.out.2.set k (MS i).1 (MS i).2
        have hB9 := below_set (below_set (below_set HB8.out ⟨w.heap.size + 1, 0, none⟩ (.int .i64 k) (by simp)) ⟨w.heap.size + 1, 1, none⟩ (.int .u64 (MS i).1) (by simp)) ⟨w.heap.size + 1, 2, none⟩ (.int .u64 (MS i).2) (by simp)
        have hO9 := ownsRow_setCell_below (ownsRow_setCell_below (ownsRow_setCell_below HO8.out (a := ⟨w.heap.size + 1, 0, none⟩) (show w.heap.size + 1 < w.heap.size + 2 by omega) (.int .i64 k)) (a := ⟨w.heap.size + 1, 1, none⟩) (show w.heap.size + 1 < w.heap.size + 2 by omega) (.int .u64 (MS i).1)) (a := ⟨w.heap.size + 1, 2, none⟩) (show w.heap.size + 1 < w.heap.size + 2 by omega) (.int .u64 (MS i).2)
        generalize World.setCell (World.setCell (World.setCell _ _ _) _ _) _ _ = W9 at hX9 hB9 hO9 ⊢
        obtain ⟨y0, y1, y2, -⟩ := hX9
        refine bodyPost_ret (v := .tuple #[.agg #[.int .i64 k, .int .u64 (MS i).1, .int .u64 (MS i).2], .slice (some ⟨g', 0, none⟩) i c', .bool true]) (by simp [results, Try.results27, go_sem, y0, y1, y2]) rfl ⟨some ⟨g', 0, none⟩, c', by rw [HSZ.out], by rw [HSZ.out]; exact own_base hO9 (by omega), hB9⟩
end Go.Proofs.Ytfkjnaaplhcheaa
