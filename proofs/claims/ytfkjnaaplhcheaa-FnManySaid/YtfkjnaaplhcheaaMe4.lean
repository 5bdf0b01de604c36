/-
  Plain: numbers drawn below n one after another; sums of what they pick, and means.
  A row of finite numbers that is sorted in place.
  spec.l04Ascending: finite numbers in ascending order, stable.
-/
import Derived.Test.YtfkjnaaplhcheaaBt
import Derived.Test.YtfkjnaaplhcheaaTs
import Derived.Test.YtfkjnaaplhcheaaMono
import Derived.Test.YtfkjnaaplhcheaaQr
import Derived.Deep.Upon
import Derived.Lib.AppendZeros
import Derived.Deep.DeepCutAuto
import Derived.Deep.Cut
import Derived.BigQuiet
namespace Go.Proofs.Ytfkjnaaplhcheaa
open Go Go.RowKit Ieee SeedFact

/-- the seed behind m numbers below n -/
def dS (k : Int) (n : Nat) : Nat → Int × Int → Int × Int
  | 0, s => s
  | m+1, s => sW k (dS k n m s).1 (dS k n m s).2 n
/-- the number drawn behind m others -/
def pN (k : Int) (n : Nat) (s : Int × Int) (m : Nat) : Nat := xW k (dS k n m s).1 (dS k n m s).2 n
theorem dS_ok {k : Int} {n : Nat} {s : Int × Int} (h : sdOk k s.1 s.2) : ∀ m, sdOk k (dS k n m s).1 (dS k n m s).2
  | 0 => h
  | m+1 => sW_ok n (dS_ok h m)
theorem pN_lt (k : Int) {n : Nat} (s : Int × Int) (m : Nat) (h : 1 ≤ n) : pN k n s m < n := xW_lt _ _ _ h
/-- the numbers drawn -/
def pL (k : Int) (n : Nat) (s : Int × Int) (m : Nat) : List Int := (List.range m).map fun j => (pN k n s j : Int)
theorem pL_len (k : Int) (n : Nat) (s : Int × Int) (m : Nat) : (pL k n s m).length = m := by simp [pL]
theorem pL_succ (k : Int) (n : Nat) (s : Int × Int) (m : Nat) : pL k n s (m + 1) = pL k n s m ++ [(pN k n s m : Int)] := by simp [pL, List.range_succ]
theorem pL_get {k : Int} {n : Nat} {s : Int × Int} {m j : Nat} (h : j < (pL k n s m).length) : (pL k n s m)[j] = (pN k n s j : Int) := by simp [pL]
/-- the sum of the first m numbers picked -/
def sumP (k : Int) (xs : List Nat) (s : Int × Int) : Nat → Nat
  | 0 => 0
  | m+1 => fadd (sumP k xs s m) (xs.getD (pN k xs.length s m) 0)
theorem getD_fin {xs : List Nat} (hf : xs.all (isFin single) = true) {i : Nat} (h : i < xs.length) : isFin single (xs.getD i 0) = true := by
  rw [List.getD_eq_getElem?_getD, List.getElem?_eq_getElem h]
  exact List.all_eq_true.1 hf _ (List.getElem_mem h)
theorem sumP_notNan {k : Int} {xs : List Nat} {s : Int × Int} (hf : xs.all (isFin single) = true) (h1 : 1 ≤ xs.length) : ∀ m, isNan single (sumP k xs s m) = false
  | 0 => zero_notNan
  | m+1 => (fadd_run (sumP_notNan hf h1 m) (getD_fin hf (pN_lt k s m h1))).2
theorem sumP_run {k : Int} {xs : List Nat} {s : Int × Int} (hf : xs.all (isFin single) = true) (h1 : 1 ≤ xs.length) (m : Nat) : floatBits .add .f32 (sumP k xs s m) (xs.getD (pN k xs.length s m) 0) = some (sumP k xs s (m + 1)) :=
  (fadd_run (sumP_notNan hf h1 m) (getD_fin hf (pN_lt k s m h1))).1
/-- a quotient by a finite number that is not 0 is no NaN -/
theorem div_one {x y : Nat} (hx : isNan single x = false) (hy : isFin single y = true) (hk : key single y ≠ 0) : floatBits .quo .f32 x y = some (fdiv x y) ∧ isNan single (fdiv x y) = false := by
  have he : 1 ≤ single.exponentBits := by decide
  obtain ⟨n, j, hq, -, hn⟩ := read_fin ((fin_iff single he y).1 hy)
  have hn0 : n ≠ 0 := by
    intro h0
    rw [h0, Nat.zero_mul] at hn
    have h1 : rungOf single y = 0 := by
      rcases Nat.eq_zero_or_pos (rungOf single y) with h | h
      · exact h
      · have := mu_mono single h
        omega
    unfold key at hk
    rw [h1] at hk
    simp at hk
  have h : ∃ r, single.div x y = some r ∧ isNan single r = false := by
    unfold Format.div
    rcases read_notNan hx with ⟨m, i, hr⟩ | hr
    · rw [hr, hq]
      simp only [Datum.quotient, if_neg hn0, Option.map_some]
      exact ⟨_, rfl, notNan_write single he _ rfl⟩
    · rw [hr, hq]
      simp only [Datum.quotient, Option.map_some]
      exact ⟨_, rfl, notNan_write single he _ rfl⟩
  obtain ⟨r, h1, h2⟩ := h
  have h3 : fdiv x y = r := by unfold fdiv; rw [h1]; rfl
  rw [h3]
  exact ⟨h1, h2⟩
theorem few_fin : ∀ j : Nat, j < 41 → isFin single (floatOfInt .f32 (j : Int)) = true := by decide +kernel
theorem few_pos : ∀ j : Nat, j < 41 → 0 < j → key single (floatOfInt .f32 (j : Int)) ≠ 0 := by decide +kernel
def meanP (k : Int) (xs : List Nat) (s : Int × Int) : Nat := fdiv (sumP k xs s xs.length) (floatOfInt .f32 (xs.length : Int))
theorem meanP_run {k : Int} {xs : List Nat} {s : Int × Int} (hf : xs.all (isFin single) = true) (h1 : 1 ≤ xs.length) (h2 : xs.length ≤ 40) : floatBits .quo .f32 (sumP k xs s xs.length) (floatOfInt .f32 (xs.length : Int)) = some (meanP k xs s) ∧ isNan single (meanP k xs s) = false :=
  div_one (sumP_notNan hf h1 _) (few_fin _ (by omega)) (few_pos _ (by omega) (by omega))
/-- the seed behind t rounds -/
def mS (k : Int) (n : Nat) (s : Int × Int) : Nat → Int × Int
  | 0 => s
  | t+1 => dS k n n (mS k n s t)
theorem mS_ok {k : Int} {n : Nat} {s : Int × Int} (h : sdOk k s.1 s.2) : ∀ t, sdOk k (mS k n s t).1 (mS k n s t).2
  | 0 => h
  | t+1 => dS_ok (mS_ok h t) n
def meansP (k : Int) (xs : List Nat) (s : Int × Int) (t : Nat) : List Nat := (List.range t).map fun j => meanP k xs (mS k xs.length s j)
theorem meansP_len (k : Int) (xs : List Nat) (s : Int × Int) (t : Nat) : (meansP k xs s t).length = t := by simp [meansP]
theorem meansP_succ (k : Int) (xs : List Nat) (s : Int × Int) (t : Nat) : meansP k xs s (t + 1) = meansP k xs s t ++ [meanP k xs (mS k xs.length s t)] := by simp [meansP, List.range_succ]
/-- finite numbers as the sort wants them -/
theorem fin_sortable {ys : List Nat} (h : ys.all (isFin single) = true) : ∀ x ∈ ys, isNan single x = false ∧ -4294967296 ≤ key single x := fun x hx => by
  have hf := List.all_eq_true.1 h x hx
  refine ⟨fin_not_nan hf, ?_⟩
  have h1 := (fin_iff single (by decide) x).1 hf
  have hi : single.infRung = 2139095040 := rfl
  rw [hi] at h1
  unfold key
  split <;> omega
def sortL (ys : List Nat) (d : Array Nat) : List Nat := (List.range ys.length).map fun p => Fs.valF ys d[p]!
theorem sortL_len (ys : List Nat) (d : Array Nat) : (sortL ys d).length = ys.length := by simp [sortL]
open Go.Sort in
/-- a row that is sorted, whatever its order's row is -/
theorem sort_one (ys : List Nat) : ∃ zs : List Nat, zs.length = ys.length ∧ ∀ d' : Array Nat, Srt (Fs.keyF ys) d' 0 ys.length → Same 0 ys.length (Array.range ys.length) d' → sortL ys d' = zs := by
  by_cases h : ∃ d' : Array Nat, Srt (Fs.keyF ys) d' 0 ys.length ∧ Same 0 ys.length (Array.range ys.length) d'
  · obtain ⟨d, hd, hs⟩ := h
    refine ⟨sortL ys d, sortL_len _ _, fun e he hs' => ?_⟩
    have key : ∀ p, p < ys.length → e[p]! = d[p]! := Fs.srt_unique he hd
      (fun p hp => by
        obtain ⟨q, -, hq, e⟩ := (hs.2.1 _).1 ((hs'.2.1 _).2 ⟨p, Nat.zero_le _, hp, rfl⟩)
        exact ⟨q, hq, e⟩)
      (fun p hp => by
        obtain ⟨q, -, hq, e⟩ := (hs'.2.1 _).1 ((hs.2.1 _).2 ⟨p, Nat.zero_le _, hp, rfl⟩)
        exact ⟨q, hq, e⟩)
    refine List.map_congr_left fun p hp => ?_
    rw [key p (List.mem_range.1 hp)]
  · exact ⟨ys, rfl, fun d hd hs => absurd ⟨d, hd, hs⟩ h⟩
end Go.Proofs.Ytfkjnaaplhcheaa

namespace Go.Proofs.Ytfkjnaaplhcheaa
open Go Go.RowKit Go.Sort Ieee

theorem range_is {n p : Nat} (h : p < n) : (Array.range n)[p]! = p := by
  rw [getElem!_pos (Array.range n) p (by simpa using h)]
  simp
theorem ownF_holds {w : World} {base g c : Nat} {ys : List Nat} (h : w.ownsRow base 50 1 (.slice (some ⟨g, 0, none⟩) ys.length c) ys.length (fl ys)) :
    base ≤ g ∧ g < w.heap.size ∧ Holds (Fs.eV (Fs.valF ys)) w g 0 (Array.range ys.length) := by
  have h' := h
  rcases h.2 with ⟨hv, hz⟩ | ⟨g2, cap, cur, hv, hb, hg, h1, h2, h3⟩
  · cases hv
  · cases hv
    refine ⟨hb, ?_, fun j hj => ⟨?_, ?_⟩⟩
    · rcases Nat.lt_or_ge g w.heap.size with hlt | hge
      · exact hlt
      · rw [Array.getElem?_eq_none hge] at hg
        cases hg
    · have hj' : j < ys.length := by simpa using hj
      rw [range_is hj', Nat.zero_add]
      refine own_cellAt h' ?_
      simp [fl, hj', Fs.eV, Fs.valF]
    · simp [World.frozen?, hg]
theorem ownF_sorted {w W : World} {base g c : Nat} {ys : List Nat} {d : Array Nat} (h : w.ownsRow base 50 1 (.slice (some ⟨g, 0, none⟩) ys.length c) ys.length (fl ys)) (hr : Fs.RW (Fs.valF ys) w g 0 (Array.range ys.length) d W) :
    W.ownsRow base 50 1 (.slice (some ⟨g, 0, none⟩) ys.length c) ys.length (fl (sortL ys d)) ∧ ∀ B, B ≤ g → Below B w W := by
  obtain ⟨hh, hz, k, rfl⟩ := hr
  have hz' : d.size = ys.length := by simpa using hz
  have hb1 : ∀ B, B ≤ g → Below B w (putRow (Fs.eV (Fs.valF ys)) w g 0 d) := fun B hB => ⟨rfl, rfl, rfl, by rw [size_putRow]; exact Nat.le_refl _, fun j hj => by
    show (putRow _ w g 0 d).heap[j]? = _
    unfold putRow mapBlock
    dsimp only
    rw [Array.getElem?_modify, if_neg (by omega)]⟩
  refine ⟨?_, fun B hB => below_drewN (hb1 B hB) k⟩
  rcases h.2 with ⟨hv, hz⟩ | ⟨g2, cap, cur, hv, hb, hg, h1, h2, h3, h4⟩
  · cases hv
  · cases hv
    refine ⟨by simp [fl, sortL], .inr ⟨g, c, putCells (Fs.eV (Fs.valF ys)) 0 d cur, rfl, hb, ?_, h1, h2, by simp [putCells]; omega, ?_⟩⟩
    · show (putRow (Fs.eV (Fs.valF ys)) w g 0 d).heap[g]? = _
      unfold putRow mapBlock
      dsimp only
      rw [Array.getElem?_modify, if_pos rfl, hg]
      rfl
    · refine List.ext_getElem? fun i => ?_
      by_cases hi : i < ys.length
      · rw [List.getElem?_take_of_lt (by omega), Array.getElem?_toList, putCells, Array.getElem?_mapIdx, Array.getElem?_eq_getElem (by omega)]
        simp [fl, sortL, hi, hz', Fs.eV]
      · rw [List.getElem?_eq_none (by rw [List.length_take]; omega), List.getElem?_eq_none (by simp [fl, sortL]; omega)]
end Go.Proofs.Ytfkjnaaplhcheaa

namespace Go.Proofs.Ytfkjnaaplhcheaa
open Go Go.RowKit Go.Sort Ieee
attribute [local go_sem] run_store_float

theorem Fs.RW.swap0 {V : Nat → Nat} {w W : World} {blk off : Nat} {d dk : Array Nat} (h : Fs.RW V w blk off d dk W) {i j : Nat} (hi : i < d.size) (hj : j < d.size) {x y : Nat} (hx : dk[i]! = x) (hy : dk[j]! = y) : Fs.RW V w blk off d (swp dk i j) ((W.setCell ⟨blk, off + i, none⟩ (.float .f32 (V y))).setCell ⟨blk, off + j, none⟩ (.float .f32 (V x))) := by
  obtain ⟨hh, hs, k, rfl⟩ := h
  subst hx hy
  refine ⟨hh, (size_swp dk i j).trans hs, k, ?_⟩
  rw [← putRow_swp (Fs.eV V) w blk off dk i j (by omega) (by omega)]
  rfl
theorem f32_news {W : World} {b off : Nat} {ys : List Nat} (h : ∀ i, (hi : i < ys.length) → W.cell? ⟨b, off + i, none⟩ = some (.float .f32 ys[i])) : ∀ j u, (fl ys)[j]? = some u → W.cell? ((⟨b, off, none⟩ : Addr).add j) = some u := by
  intro j u hj
  obtain ⟨hjl, hju⟩ := List.getElem?_eq_some_iff.1 hj
  have hl : j < ys.length := by simpa [fl] using hjl
  rw [show ((⟨b, off, none⟩ : Addr).add j) = ⟨b, off + j, none⟩ by unfold Addr.add; split <;> simp_all, h j hl, ← hju]
  simp [fl]
theorem rd_cells {w : World} {B : Nat} {A : Option Addr} {ys : List Nat} (h : Rd w B A (fl ys)) (hn : 1 ≤ ys.length) : ∃ b off, A = some ⟨b, off, none⟩ ∧ b < B ∧ ∀ i, (hi : i < ys.length) → w.cell? ⟨b, off + i, none⟩ = some (.float .f32 ys[i]) := by
  obtain ⟨b, off, e, hb, -⟩ := h.flAt (show 0 < ys.length by omega)
  refine ⟨b, off, e, hb, fun i hi => ?_⟩
  obtain ⟨b', off', e', -, hc⟩ := h.flAt hi
  rw [e] at e'
  cases e'
  exact hc
theorem fl_one (ys : List Nat) : ∀ u ∈ fl ys, u.oneCell' = true := by
  intro u hu
  obtain ⟨x, -, rfl⟩ := List.mem_map.1 hu
  rfl
/-- what an ascending row is: the row's order rises by the key, and is one of the places -/
def AscOut (ys : List Nat) (w : World) (e : Ending) (w' : World) : Prop :=
  ∃ (A' : Option Addr) (c' : Nat) (d : Array Nat), e = .returned (.slice A' ys.length c') ∧ Srt (Fs.keyF ys) d 0 ys.length ∧ Same 0 ys.length (Array.range ys.length) d ∧ w'.ownsRow w.heap.size 50 1 (.slice A' ys.length c') ys.length (fl (sortL ys d)) ∧ Below w.heap.size w w'
set_option maxRecDepth 100000 in
set_option maxHeartbeats 3200000 in
theorem l04Ascending_none (A : Option Addr) (c : Nat) (w : World) : Calls Try.prog 89 #[.slice A 0 c] w (AscOut [] w) := by
  obtain ⟨i0, hi0, hz0, hz1, hz2⟩ := info_parts info_f32
  have HO : Hid ((w.alloc (.cells #[] 50)).ownsRow w.heap.size 50 1 (.slice (some ⟨w.heap.size, 0, none⟩) 0 0) 0 []) := Lib.hid (World.ownsRow_made w #[] 0 (base := w.heap.size) (e := 50) (size := 1) (Nat.le_refl _) (by unfold maxLen; omega) rfl)
  have HB : Hid (Below w.heap.size w (w.alloc (.cells #[] 50))) := Lib.hid (below_al (Below.refl _ _) _)
  have hap : ∀ (A1 : Option Addr) (c1 : Nat) (W : World), (Builtin.append_ #[46, 46] 46 #[.slice A1 0 c1, .slice A 0 c]).run Try.prog W = .ok (.slice A1 0 c1) W := fun A1 c1 W => by
    refine run_append_nothing W _ _ _ _ i0 Try.underlying46 hi0 A1 0 c1 (Nat.zero_le _) _ ?_
    cases A with
    | none => exact Src.ofNil W Try.underlying46 c
    | some a => exact Src.ofSlice W Try.underlying46 a 0 c [] (by simp) (by simp) (by simp)
  go_enter Try.func89, Try.ntmps89
  go_wp2_with (refine Lib.wpList_append_run _ rfl _ _ _ _ rfl _ _ rfl rfl _ _ (hap _ _ _) ?_)
  go_loopw [4, 5, 6] (fun iv _ _ wr => iv = .int .i64 1 ∧ wr = w.alloc (.cells #[] 50)) (fun iv _ _ _ => 0)
  case atStart => exact ⟨rfl, rfl⟩
  case round =>
    obtain ⟨rfl, rfl⟩ := hrel
    generalize World.alloc w _ = W1 at *
    go_wp2_with fail
    go_ret
    exact ⟨_, _, #[], rfl, fun p q h1 h2 h3 => absurd h3 (Nat.not_lt_zero _), ⟨rfl, fun x => Iff.rfl, fun p _ => rfl⟩, HO.out, HB.out⟩
set_option maxRecDepth 100000 in
set_option maxHeartbeats 3200000 in
theorem l04Ascending_some (A : Option Addr) (ys : List Nat) (c : Nat) (w : World) (hp : ∀ x ∈ ys, isNan single x = false ∧ -4294967296 ≤ key single x) (hn : 1 ≤ ys.length) (hl : ys.length ≤ 1024) (h : Rd w w.heap.size A (fl ys)) :
    Calls Try.prog 89 #[.slice A ys.length c] w (AscOut ys w) := by
  obtain ⟨i0, hi0, hz0, hz1, hz2⟩ := info_parts info_f32
  obtain ⟨b0, off0, rfl, hb0, hc0⟩ := rd_cells h hn
  have O1 : Hid ((w.alloc (.cells #[] 50)).ownsRow w.heap.size 50 1 (.slice (some ⟨w.heap.size, 0, none⟩) 0 0) 0 []) := Lib.hid (World.ownsRow_made w #[] 0 (base := w.heap.size) (e := 50) (size := 1) (Nat.le_refl _) (by unfold maxLen; omega) rfl)
  have B1 : Hid (Below w.heap.size w (w.alloc (.cells #[] 50))) := Lib.hid (below_al (Below.refl _ _) _)
  have HNEWS := Lib.hid (f32_news (W := w.alloc (.cells #[] 50)) (b := b0) (off := off0) (ys := ys) fun i hi => (B1.out.cell (p := ⟨b0, off0 + i, none⟩) hb0).trans (hc0 i hi))
  have HK := Lib.hid (Fs.keyOf_fl hp hl)
  have HCF : Hid (∀ x y, (FloatKind.f32.format.order (Fs.valF ys x) (Fs.valF ys y) == some .lt) = decide (Fs.cfF ys x y < 0)) := Lib.hid fun x y => by
    unfold Fs.cfF cmpI
    by_cases h1 : single.order (Fs.valF ys x) (Fs.valF ys y) = some .lt
    · rw [if_pos h1]
      show (single.order _ _ == _) = _
      rw [h1]
      rfl
    · rw [if_neg h1]
      have h2 : (single.order (Fs.valF ys x) (Fs.valF ys y) == some .lt) = false := beq_eq_false_iff_ne.2 h1
      show (single.order _ _ == _) = _
      rw [h2]
      symm
      rw [decide_eq_false_iff_not]
      split <;> omega
  have HOWN := Lib.hid fun (w1 : World) (g c1 : Nat) (h1 : w1.ownsRow w.heap.size 50 1 (.slice (some ⟨g, 0, none⟩) ys.length c1) ys.length (fl ys)) => ownF_holds h1
  have HSRT := Lib.hid fun (w1 W : World) (g c1 : Nat) (d : Array Nat) (h1 : w1.ownsRow w.heap.size 50 1 (.slice (some ⟨g, 0, none⟩) ys.length c1) ys.length (fl ys)) (h2 : Fs.RW (Fs.valF ys) w1 g 0 (Array.range ys.length) d W) => ownF_sorted h1 h2
  have HFL := Lib.hid (fl_len ys)
  have HF1 := Lib.hid (fl_one ys)
  unfold AscOut
  have HASC : Hid (∀ p q, 0 ≤ p → p < q → q < ys.length → (Array.range ys.length)[p]! < (Array.range ys.length)[q]!) := Lib.hid fun p q _ h2 h3 => by
    rw [range_is (by omega), range_is h3]
    exact h2
  clear hc0 hp h
  have hds : (Array.range ys.length).size = ys.length := by simp
  have HRNG : Hid (∀ p, p < ys.length → (Array.range ys.length)[p]! = p) := Lib.hid fun p hp => range_is hp
  generalize Fs.keyF ys = K at *
  generalize Fs.cfF ys = cf at *
  generalize Fs.valF ys = V at *
  generalize sortL ys = SL at *
  generalize fl ys = FL at *
  generalize ys.length = n at *
  generalize Array.range n = d0 at *
  go_enter Try.func89, Try.ntmps89
  go_upto_region 2 with (refine wpList_append_lies _ rfl _ _ _ rfl w.heap.size 50 i0 _ 1 4 Try.underlying46 hi0 hz0 hz1 hz2 rfl (by omega) (.slice (some ⟨w.heap.size, 0, none⟩) 0 0) 0 [] (by rfl) O1.out ⟨b0, off0, none⟩ n c FL (by rfl) (by rw [HFL.out, Nat.mul_one]) HNEWS.out HF1.out (by omega) (by unfold maxLen; omega) (by omega) (by first | omega | (simp; done) | (simp; omega)) (w.heap.size + 1) (by simp) ?_; intro g9 cap9 w9 hown9 hgrow hat hlt9; simp only [Nat.zero_add, List.nil_append] at hown9; have O9 := Lib.hid hown9; have B9 := Lib.hid (B1.out.grown hgrow B1.out.size (fun j hj => (O1.out.lt j hj).1)); clear hown9 hgrow hat)
  obtain ⟨hg1, hg2, hg3⟩ := HOWN.out w9 g9 cap9 O9.out
  have I0 := Lib.hid (Fs.InsO.start (K := K) HASC.out)
  have R0 := Lib.hid (Fs.RW.start hg3)
  clear hg3 O1 B1 HNEWS HOWN
  go_wp2_with fail
  go_loopw [4, 5, 6] (fun iv _ _ wr => ∃ (i : Nat) (di : Array Nat), 1 ≤ i ∧ i ≤ n ∧ iv = .int .i64 i ∧ Fs.InsO K 0 n i d0 di ∧ Fs.RW V w9 g9 0 d0 di wr) (fun iv _ _ _ => n - (intOf iv).toNat)
  case atStart => exact ⟨1, d0, Nat.le_refl _, hn, rfl, I0.out, R0.out⟩
  case round =>
    clear I0 R0
    obtain ⟨i, di, h1i, hib, rfl, ho, hw⟩ := hrel
    rename World => wq
    have HO := Lib.hid ho
    have HW := Lib.hid hw
    clear ho hw
    by_cases hlt : i < n
    · have J0 := Lib.hid (HO.out.begin hlt)
      have hltz : (i : Int) < (n : Int) := by omega
      go_wp2
      go_loopw [5, 6] (fun jv _ wr => ∃ (j : Nat) (dj : Array Nat), j ≤ i ∧ jv = .int .i64 j ∧ Fs.InsJ K 0 i j di dj ∧ Fs.RW V w9 g9 0 d0 dj wr) (fun jv _ _ => (intOf jv).toNat)
      case atStart => exact ⟨i, di, Nat.le_refl _, rfl, J0.out, HW.out⟩
      case round =>
        clear J0 HW
        obtain ⟨j, dj, hji, rfl, hj, hw⟩ := hrel
        rename World => wz
        have HJ := Lib.hid hj
        by_cases hja : 0 < j
        · obtain ⟨jp, rfl⟩ : ∃ jp, j = jp + 1 := ⟨j - 1, by omega⟩
          have c1 := hw.cell (p := jp + 1) (by omega)
          have c2 := hw.cell (p := jp) (by omega)
          have f1 := hw.frozen (p := jp + 1) (by omega)
          have f2 := hw.frozen (p := jp) (by omega)
          rw [Nat.zero_add] at c1 c2 f1 f2
          have BD : Hid (dj[jp + 1]! < n ∧ dj[jp]! < n ∧ dj[jp]! < dj[jp + 1]!) := Lib.hid (by
            have hbw : ∀ p, 0 ≤ p → p < i + 1 → dj[p]! < n := hj.m.all (P := fun z => z < n) fun p h1 h2 => HO.out.m.all (P := fun z => z < n) (fun p _ hp => by rw [HRNG.out p hp]; exact hp) p h1 (by omega)
            exact ⟨hbw _ (by omega) (by omega), hbw _ (by omega) (by omega), hj.x jp (by omega) (by omega)⟩)
          have HKX := Lib.hid (HK.out dj[jp + 1]! dj[jp]! BD.out.1 BD.out.2.2)
          have HC2 := Lib.hid (HCF.out dj[jp + 1]! dj[jp]!)
          have SW := Lib.hid fun n => (hw.drewN n).swap0 (i := jp + 1) (j := jp) (by omega) (by omega) rfl rfl
          have HWN := Lib.hid fun n => hw.drewN n
          have HSZ := Lib.hid hw.s
          clear hj hw
          have hwp : IntKind.i64.wrap (((jp + 1 : Nat) : Int) - 1) = (jp : Int) := by rw [show ((jp + 1 : Nat) : Int) - 1 = (jp : Int) by omega]; exact IntWalk.i64_in _ (by omega)
          have jz : ((jp + 1 : Nat) : Int) < (n : Int) := by omega
          have jz1 : (jp : Int) < (n : Int) := by omega
          have hjaz : (0 : Int) < ((jp + 1 : Nat) : Int) := by omega
          by_cases hlv : cf dj[jp + 1]! dj[jp]! < 0
          · have J9 := Lib.hid (HJ.out.step (by omega) hji (by rw [HSZ.out]; omega) (HKX.out.1 hlv))
            have hpq : jp + 1 ≠ jp := by omega
            have hqp : jp ≠ jp + 1 := by omega
            have hord := HC2.out
            rw [decide_eq_true hlv] at hord
            clear HKX BD HJ HWN HC2 hlv
            generalize dj[jp + 1]! = x at *
            generalize dj[jp]! = y at *
            generalize V x = vx at *
            generalize V y = vy at *
            generalize hp1 : jp + 1 = p1 at *
            have HP1 := Lib.hid hp1
            clear hp1
            go_wp2_with fail
            go_quiet (fail)
            have c1' : (wz.drewN nq).cell? ⟨g9, p1, none⟩ = some (.float .f32 vx) := c1
            have c2' : (wz.drewN nq).cell? ⟨g9, jp, none⟩ = some (.float .f32 vy) := c2
            have f1' : (wz.drewN nq).frozen? ⟨g9, p1, none⟩ = false := f1
            have f2' : (wz.drewN nq).frozen? ⟨g9, jp, none⟩ = false := f2
            have SW' := Lib.hid (SW.out nq)
            clear c1 c2 f1 f2 SW
            generalize wz.drewN nq = wy at *
            rw [Nat.zero_add, Nat.zero_add] at SW'
            go_wp2_with fail
            go_roundw
            case rel => exact ⟨jp, _, by have := HP1.out; omega, by go_num, J9.out, SW'.out⟩
            case measure => have := HP1.out; simp [intOf]; omega
          · have O9' := Lib.hid (HO.out.next hlt HJ.out (fun _ => by rw [Nat.add_sub_cancel]; exact HKX.out.2 hlv))
            have hord := HC2.out
            rw [decide_eq_false hlv] at hord
            clear HKX BD HJ SW HO f1 f2 HC2 hlv
            generalize dj[jp + 1]! = x at *
            generalize dj[jp]! = y at *
            generalize V x = vx at *
            generalize V y = vy at *
            generalize hp1 : jp + 1 = p1 at *
            have HP1 := Lib.hid hp1
            clear hp1
            go_wp2_with fail
            go_quiet (fail)
            have HW9 := Lib.hid (HWN.out nq)
            clear c1 c2 HWN
            generalize wz.drewN nq = wy at *
            go_wp2_with fail
            go_roundw
            case rel => exact ⟨i + 1, _, by omega, by omega, by go_num, O9'.out, HW9.out⟩
            case measure => simp [intOf]; omega
        · obtain rfl : j = 0 := by omega
          have O9' := Lib.hid (HO.out.next hlt HJ.out (fun h => absurd h (Nat.lt_irrefl _)))
          have HWN := Lib.hid fun n => hw.drewN n
          clear hj hw HJ HO
          go_wp2_with fail
          go_quiet (fail)
          have HW9 := Lib.hid (HWN.out nq)
          clear HWN
          generalize wz.drewN nq = wy at *
          go_wp2_with fail
          go_roundw
          case rel => exact ⟨i + 1, _, by omega, by omega, by go_num, O9'.out, HW9.out⟩
          case measure => simp [intOf]; omega
    · obtain rfl : i = n := by omega
      go_wp2
      go_ret
      have hs := HSRT.out w9 _ g9 cap9 _ O9.out HW.out
      exact ⟨_, cap9, di, rfl, HO.out.s, HO.out.m, hs.1, B9.out.trans (hs.2 _ hg1)⟩
end Go.Proofs.Ytfkjnaaplhcheaa
