/-
  Shares and means in double precision; means lie between least and most, and rise; laws.r8Gap.
-/
import Derived.Test.YtfkjnaaplhcheaaHu
import Derived.Test.YtfkjnaaplhcheaaNm
import Derived.Test.YtfkjnaaplhcheaaHt
namespace Go.Proofs.Ytfkjnaaplhcheaa
open Go Go.RowKit Go.Sort Ieee

theorem wdF_le {x y : Nat} (h : x ≤ y) : wdF x ≤ wdF y := by
  unfold wdF
  split <;> split <;> omega
theorem wdF_lt {x : Nat} (h : x < 2139095040) : wdF x < 9218868437227405312 := by
  unfold wdF
  split <;> omega
theorem pd_parts {x : Nat} (h : x < 9218868437227405312) : isNan double x = false ∧ key double x = (x : Int) := by
  have h1 : double.signWeight = 9223372036854775808 := rfl
  have h2 : double.infRung = 9218868437227405312 := rfl
  have hr : rungOf double x = x := by unfold rungOf; rw [h1]; omega
  have hn : negOf double x = false := by
    unfold negOf
    rw [h1, Nat.div_eq_of_lt (by omega)]
    rfl
  have hf : isFin double x = true := (fin_iff double (by decide) x).2 (by rw [hr, h2]; exact h)
  refine ⟨fin_not_nan hf, ?_⟩
  unfold key
  rw [hn, hr]
  rfl
theorem gtd_no {x y : Nat} (hx : isNan double x = false) (hy : isNan double y = false) (h : key double x ≤ key double y) : (FloatKind.f64.format.order x y == some .gt) = false := by
  have h1 := gt_key (f := double) (by decide) hx hy
  exact h1.trans (decide_eq_false (by omega))
theorem ltd_no {x y : Nat} (hx : isNan double x = false) (hy : isNan double y = false) (h : key double y ≤ key double x) : (FloatKind.f64.format.order x y == some .lt) = false := by
  have h1 := lt_key (f := double) (by decide) hx hy
  exact h1.trans (decide_eq_false (by omega))
theorem gts_no {x y : Nat} (hx : x < 2139095040) (hy : y < 2139095040) (h : x ≤ y) : (FloatKind.f32.format.order x y == some .gt) = false := by
  have h1 := gt_key (f := single) (by decide) (pw_parts hx).2.1 (pw_parts hy).2.1
  rw [(pw_parts hx).2.2, (pw_parts hy).2.2] at h1
  exact h1.trans (decide_eq_false (by omega))
theorem lts_iff {x y : Nat} (hx : x < 2139095040) (hy : y < 2139095040) : (FloatKind.f32.format.order x y == some .lt) = decide (x < y) := by
  have h1 := lt_key (f := single) (by decide) (pw_parts hx).2.1 (pw_parts hy).2.1
  rw [(pw_parts hx).2.2, (pw_parts hy).2.2] at h1
  refine h1.trans (decide_eq_decide.2 (by omega))
theorem up_s {a : Nat} (h : a ≤ 64) : floatBits .add .f64 (wdF (shN a)) cD = some (dop .add (wdF (shN a)) cD) ∧ wdF (shN a) ≤ dop .add (wdF (shN a)) cD ∧ dop .add (wdF (shN a)) cD < 9218868437227405312 := by
  rw [sh_q (show a < 642 by omega)]
  exact up_64 a (by omega)
theorem dn_s {a : Nat} (h : a ≤ 64) : floatBits .sub .f64 (wdF (shN a)) cD = some (dop .sub (wdF (shN a)) cD) ∧ isNan double (dop .sub (wdF (shN a)) cD) = false ∧ key double (dop .sub (wdF (shN a)) cD) ≤ (wdF (shN a) : Int) := by
  rw [sh_q (show a < 642 by omega)]
  exact dn_64 a (by omega)
/-- a number of this range against a share: not more by a thousandth, not less -/
theorem wide_up {j m a : Nat} (hj : j ≤ 640) (h1 : 1 ≤ m) (h2 : m < 11) (ha : a ≤ 64) (h : gN j m ≤ shN a) : (FloatKind.f64.format.order (wdF (gN j m)) (dop .add (wdF (shN a)) cD) == some .gt) = false := by
  obtain ⟨-, u2, u3⟩ := up_s ha
  have g := pd_parts (wdF_lt (g_pw h1 h2 hj))
  have q := pd_parts u3
  refine gtd_no g.1 q.1 ?_
  rw [g.2, q.2]
  have := wdF_le h
  omega
theorem wide_down {j m a : Nat} (hj : j ≤ 640) (h1 : 1 ≤ m) (h2 : m < 11) (ha : a ≤ 64) (h : shN a ≤ gN j m) : (FloatKind.f64.format.order (wdF (gN j m)) (dop .sub (wdF (shN a)) cD) == some .lt) = false := by
  obtain ⟨-, u2, u3⟩ := dn_s ha
  have g := pd_parts (wdF_lt (g_pw h1 h2 hj))
  refine ltd_no g.1 u2 ?_
  rw [g.2]
  have := wdF_le h
  omega
theorem wd_sh {a : Nat} (ha : a ≤ 64) : floatToFloatBits .f32 (shN a) .f64 = some (wdF (shN a)) := by
  have := (g_brk (j := a) (Nat.le_refl 1) (by omega) (by omega)).2.2
  rwa [g_one a (by omega)] at this
/-- what the law asks of a share and its three numbers -/
structure Row3 (P H S L : Nat) : Prop where
  o1 : (FloatKind.f32.format.order P 1065353216 == some .gt) = false
  o2 : (FloatKind.f32.format.order H P == some .gt) = false
  cS : floatToFloatBits .f32 S .f64 = some (wdF S)
  cH : floatToFloatBits .f32 H .f64 = some (wdF H)
  cL : floatToFloatBits .f32 L .f64 = some (wdF L)
  aH : floatBits .add .f64 (wdF H) cD = some (dop .add (wdF H) cD)
  aL : floatBits .sub .f64 (wdF L) cD = some (dop .sub (wdF L) cD)
  o3 : (FloatKind.f64.format.order (wdF S) (dop .add (wdF H) cD) == some .gt) = false
  o4 : (FloatKind.f64.format.order (wdF S) (dop .sub (wdF L) cD) == some .lt) = false
theorem row_three {ks : List Nat} (hk : ∀ k ∈ ks, k < 65) (h10 : ks.length ≤ 10) {d d' : Array Nat} (h : OrdTo (keyI (ks.map shN)) ks.length d) (h' : OrdTo (keyI (ks.map shN)) ks.length d') {i : Nat} (hi : i < ks.length) :
    Row3 ((plainL (ks.map shN)).getD i 0) ((holmL (ks.map shN) d).getD i 0) ((stepL (ks.map shN) d').getD i 0) (shN (ks.getD i 0)) := by
  obtain ⟨t1, t2, t3, t4, ⟨a, ha, ea⟩, j, m, hj, h1, h2, em⟩ := three_at hk h10 h h' hi
  have hki := ks_lt hk hi
  have hP : (plainL (ks.map shN)).getD i 0 < 2139095040 := by omega
  have hH : (holmL (ks.map shN) d).getD i 0 < 2139095040 := by omega
  refine ⟨gts_no hP (by decide) t1, gts_no hH hP t2, ?_, ?_, wd_sh (by omega), ?_, (dn_s (by omega)).1, ?_, ?_⟩
  · rw [em]; exact (g_brk h1 h2 hj).2.2
  · rw [ea]; exact wd_sh ha
  · rw [ea]; exact (up_s ha).1
  · rw [ea, em]; exact wide_up hj h1 h2 ha (by rw [← em, ← ea]; exact t3)
  · rw [em]; exact wide_down hj h1 h2 (by omega) (by rw [← em]; exact t4)
/-- two shares and their numbers -/
structure Two3 (La Lb Ha Hb Sa Sb : Nat) : Prop where
  o : (FloatKind.f32.format.order La Lb == some .lt) = true → (FloatKind.f32.format.order Ha Hb == some .gt) = false ∧ (FloatKind.f32.format.order Sa Sb == some .gt) = false
theorem two_three {ks : List Nat} (hk : ∀ k ∈ ks, k < 65) (h10 : ks.length ≤ 10) {d d' : Array Nat} (h : OrdTo (keyI (ks.map shN)) ks.length d) (h' : OrdTo (keyI (ks.map shN)) ks.length d') {i k : Nat} (hi : i < ks.length) (hkl : k < ks.length) :
    Two3 (shN (ks.getD i 0)) (shN (ks.getD k 0)) ((holmL (ks.map shN) d).getD i 0) ((holmL (ks.map shN) d).getD k 0) ((stepL (ks.map shN) d').getD i 0) ((stepL (ks.map shN) d').getD k 0) := by
  refine ⟨fun hlt => ?_⟩
  have k1 := ks_lt hk hi
  have k2 := ks_lt hk hkl
  rw [lts_iff (n_pw (by omega)) (n_pw (by omega)), decide_eq_true_eq, n_lt_iff (by omega) (by omega)] at hlt
  obtain ⟨g1, g2⟩ := grow_at hk h10 h h' hi hkl hlt
  obtain ⟨a1, a2, a3, -⟩ := three_at hk h10 h h' hi
  obtain ⟨b1, b2, b3, -⟩ := three_at hk h10 h h' hkl
  exact ⟨gts_no (by omega) (by omega) g1, gts_no (by omega) (by omega) g2⟩
/-- an order of indices by a key -/
theorem ins_exists {K : Nat → Nat} {i : Nat} {d : Array Nat} (h : OrdTo K i d) (hK : ∀ x y, x < y → y < i + 1 → K x ≠ K y) : ∀ (j : Nat) (dj : Array Nat), j ≤ i → InsJ K 0 i j (d.push i) dj → ∃ e, OrdTo K (i + 1) e
  | 0, dj, _, hj => ⟨dj, h.next hj fun h0 => absurd h0 (by omega)⟩
  | j + 1, dj, hji, hj => by
    by_cases hk : K dj[j]! < K dj[j + 1]!
    · exact ⟨dj, h.next hj fun _ => hk⟩
    · have hlt := hj.x j (Nat.zero_le _) (by omega)
      have hz : dj.size = i + 1 := by rw [hj.m.1]; simp [h.z]
      have hb : dj[j + 1]! < i + 1 := hj.m.all (P := fun z => z < i + 1) (fun p _ h2 => by
        rw [push_at]
        split
        · omega
        · have := h.lt (p := p) (by have := h.z; omega)
          omega) (j + 1) (Nat.zero_le _) (by omega)
      have hne := hK _ _ hlt hb
      exact ins_exists h hK j (swp dj (j + 1) j) (by omega) (hj.step (Nat.zero_le _) (by omega) (by omega) (by omega))
theorem ord_exists {K : Nat → Nat} : ∀ n, (∀ x y, x < y → y < n → K x ≠ K y) → ∃ d, OrdTo K n d
  | 0, _ => ⟨#[], OrdTo.start K⟩
  | n + 1, hK => by
    obtain ⟨d, hd⟩ := ord_exists n fun x y h1 h2 => hK x y h1 (by omega)
    exact ins_exists hd hK n _ (Nat.le_refl _) hd.begin
/-- a row that is sorted: its numbers are those of the row, and rise -/
theorem sorted_is {ys zs : List Nat} (hl : ys.length ≤ 1024) (hb : ∀ y ∈ ys, y < 2139095040) (hz : ∀ d' : Array Nat, Srt (Fs.keyF ys) d' 0 ys.length → Same 0 ys.length (Array.range ys.length) d' → sortL ys d' = zs) :
    zs.length = ys.length ∧ (∀ i, i < ys.length → zs.getD i 0 ∈ ys) ∧ ∀ i j, i ≤ j → j < ys.length → zs.getD i 0 ≤ zs.getD j 0 := by
  have hv : ∀ i, i < ys.length → ys.getD i 0 ∈ ys := fun i hi => by
    rw [List.getD_eq_getElem?_getD, List.getElem?_eq_getElem hi]
    exact List.getElem_mem hi
  have hK : ∀ x, x < ys.length → Fs.keyF ys x = (ys.getD x 0 + 4294967296) * 1024 + x := fun x hx => by
    unfold Fs.keyF Fs.valF
    rw [(pw_parts (hb _ (hv x hx))).2.2]
    omega
  obtain ⟨d, hd⟩ := ord_exists (K := Fs.keyF ys) ys.length fun x y h1 h2 => by
    rw [hK x (by omega), hK y h2]
    omega
  obtain rfl := hz d hd.s hd.m
  have hg : ∀ i, i < ys.length → (sortL ys d).getD i 0 = ys.getD d[i]! 0 := fun i hi => by
    unfold sortL
    rw [getD_range_map hi]
    rfl
  refine ⟨sortL_len _ _, fun i hi => by rw [hg i hi]; exact hv _ (hd.lt hi), fun i j hij hj => ?_⟩
  rw [hg i (by omega), hg j hj]
  by_cases e : i = j
  · rw [e]; exact Nat.le_refl _
  · have h3 := hd.s i j (Nat.zero_le _) (by omega) hj
    rw [hK _ (hd.lt (by omega)), hK _ (hd.lt hj)] at h3
    have := hd.lt (p := i) (by omega)
    have := hd.lt hj
    omega
section
variable {ks : List Nat} (hk : ∀ k ∈ ks, k < 65) (h1 : 1 ≤ ks.length) (h10 : ks.length ≤ 10) {lo hi : Nat} (hlo : ∀ i, i < ks.length → lo ≤ ks.getD i 0) (hhi : ∀ i, i < ks.length → ks.getD i 0 ≤ hi)
include hk h1 h10 hlo hhi
theorem sum_is (k : Int) (s : Int × Int) : ∀ m, m ≤ ks.length → ∃ j, lo * m ≤ j ∧ j ≤ hi * m ∧ j ≤ 64 * m ∧ sumP k (ks.map shN) s m = shN j
  | 0, _ => ⟨0, by simp, by simp, by simp, n_zero.1.symm⟩
  | m + 1, hm => by
    obtain ⟨j, j1, j2, j3, e⟩ := sum_is k s m (by omega)
    have hp := pN_lt k (n := ks.length) s m h1
    have hkp := ks_lt hk hp
    have l := hlo _ hp
    have u := hhi _ hp
    refine ⟨j + ks.getD (pN k ks.length s m) 0, by rw [Nat.mul_add]; omega, by rw [Nat.mul_add]; omega, by omega, ?_⟩
    show fadd (sumP k (ks.map shN) s m) ((ks.map shN).getD (pN k (ks.map shN).length s m) 0) = _
    rw [List.length_map, e, sh_get hp, n_add j (by omega) _ hkp]
theorem mean_is (k : Int) (s : Int × Int) (_hl64 : lo ≤ 64) (hh64 : hi ≤ 64) : ∃ j, j ≤ 640 ∧ meanP k (ks.map shN) s = gN j ks.length ∧ shN lo ≤ gN j ks.length ∧ gN j ks.length ≤ shN hi := by
  obtain ⟨j, j1, j2, j3, e⟩ := sum_is hk h1 h10 hlo hhi k s ks.length (Nat.le_refl _)
  have hj : j ≤ 640 := by omega
  refine ⟨j, hj, ?_, ?_, ?_⟩
  · unfold meanP
    rw [List.length_map, e]
    rfl
  · exact g_from h1 (by omega) hj j1
  · exact g_up_to h1 (by omega) hj j2 (by omega)
end
theorem r8Gap_any (a b : Nat) (w : World) (h : gapB a b = true) : Calls Try.prog 33 #[.float .f64 a, .float .f64 b] w (fun e w' => e = .returned (.float .f64 (gap8 a b)) ∧ w' = w) := by
  unfold gapB at h
  simp only [Bool.and_eq_true, beq_iff_eq] at h
  obtain ⟨⟨h1, h2⟩, h3⟩ := h
  have e1 := fun w => run_float_arith (P := Try.prog) w .sub 51 .f64 _ _ _ h1
  have e2 := fun w => run_float_arith (P := Try.prog) w .sub 51 .f64 _ _ _ h2
  have hm : ∀ ts t w, (Builtin.max_ ts t #[.float .f64 (dop .sub a b), .float .f64 (dop .sub b a)]).run Try.prog w = .ok (.float .f64 (gap8 a b)) w := fun ts t w => by
    unfold gap8 maxD
    generalize dop .sub a b = x at *
    generalize dop .sub b a = y at *
    cases ho : FloatKind.f64.format.order x y with
    | none => rw [ho] at h3; cases h3
    | some o => cases o <;> simp [Builtin.max_, Builtin.max2, ho]
  clear h1 h2 h3
  generalize gap8 a b = r at *
  generalize dop .sub a b = x at *
  generalize dop .sub b a = y at *
  go_enter Try.func33, Try.ntmps33
  go_wp2
  go_ret
  exact ⟨rfl, rfl⟩
end Go.Proofs.Ytfkjnaaplhcheaa
