/-
  impl.PastDraw.
-/
import Derived.Test.YtddaodjaeommlaaPd2
import Derived.Deep.DeepCutAuto
namespace Go.Proofs.Ytddaodjaeommlaa
open Go Go.RowKit Ieee

def pastB (k a b side : Int) (xs : List Nat) (most : Int) : Bool := seedB k a b && (validB side xs && inB most 1 512)
/-- after 2^j shares from the past all walks are one -/
def coalB (xs : List Nat) (n : Nat) (k a b : Int) (m : Nat) : Bool := sameB xs n (uL k a b m).reverse n
def pastJ (xs : List Nat) (n : Nat) (k a b : Int) (M : Nat) : Option Nat := (List.range 10).find? fun j => decide (2 ^ j ≤ M) && coalB xs n k a b (2 ^ j)
theorem pow_512 {j M : Nat} (h : 2 ^ j ≤ M) (hM : M ≤ 512) : j ≤ 9 := by
  rcases Nat.lt_or_ge 9 j with hlt | hge
  · exfalso
    have : 2 ^ 10 ≤ 2 ^ j := Nat.pow_le_pow_right (by decide) (by omega)
    have h3 : (2 : Nat) ^ 10 = 1024 := by decide
    omega
  · exact hge
theorem pastJ_some {xs : List Nat} {n : Nat} {k a b : Int} {M j : Nat} (hM : M ≤ 512) (hj : 2 ^ j ≤ M) (h0 : ∀ q, q < j → coalB xs n k a b (2 ^ q) = false) (h1 : coalB xs n k a b (2 ^ j) = true) : pastJ xs n k a b M = some j := by
  unfold pastJ
  rw [List.find?_range_eq_some]
  refine ⟨by rw [h1, decide_eq_true hj]; rfl, List.mem_range.2 (by have := pow_512 hj hM; omega), fun q hq => ?_⟩
  rw [h0 q hq, Bool.and_false]
  rfl
theorem pastJ_none {xs : List Nat} {n : Nat} {k a b : Int} {M j : Nat} (hj : M < 2 ^ j) (h0 : ∀ q, q < j → coalB xs n k a b (2 ^ q) = false) : pastJ xs n k a b M = none := by
  unfold pastJ
  rw [List.find?_eq_none]
  intro q _
  rcases Nat.lt_or_ge q j with hl | hg
  · rw [h0 q hl, Bool.and_false]
    exact Bool.false_ne_true
  · have : 2 ^ j ≤ 2 ^ q := Nat.pow_le_pow_right (by decide) hg
    rw [decide_eq_false (by omega), Bool.false_and]
    exact Bool.false_ne_true
def pastK (k : Int) : Option Nat → Int | some _ => k | none => 0
def pastA (k a b : Int) : Option Nat → Int | some j => (sdT k a b (2 ^ j)).1 | none => 0
def pastC (k a b : Int) : Option Nat → Int | some j => (sdT k a b (2 ^ j)).2 | none => 0
def pastE (xs : List Nat) (n : Nat) (k a b : Int) : Option Nat → Int | some j => endV xs n (uL k a b (2 ^ j)).reverse | none => 0
def pastN : Option Nat → Int | some j => ((2 ^ j : Nat) : Int) | none => 0
def pastO : Option Nat → Bool | some _ => true | none => false
def pdGive (xs : List Nat) (n : Nat) (k a b : Int) (M : Nat) (w : World) : Ending → World → Prop :=
  mtOut (pastK k (pastJ xs n k a b M)) (pastA k a b (pastJ xs n k a b M)) (pastC k a b (pastJ xs n k a b M)) (pastE xs n k a b (pastJ xs n k a b M)) (pastN (pastJ xs n k a b M)) (pastO (pastJ xs n k a b M)) w
theorem pdGive_some {xs : List Nat} {n : Nat} {k a b a' b' e : Int} {M j N : Nat} {w w' : World} (h : pastJ xs n k a b M = some j) (hN : 2 ^ j = N) (hs : sdT k a b N = (a', b')) (he : endV xs n (uL k a b N).reverse = e) (hb : Below w.heap.size w w') : pdGive xs n k a b M w (.returned (.tuple #[.agg #[.int .i64 k, .int .u64 a', .int .u64 b'], .int .i64 e, .int .i64 (N : Int), .bool true])) w' := by
  unfold pdGive mtOut
  rw [h]
  refine ⟨?_, hb⟩
  show _ = Ending.returned (.tuple #[.agg #[.int .i64 k, .int .u64 (sdT k a b (2 ^ j)).1, .int .u64 (sdT k a b (2 ^ j)).2], .int .i64 (endV xs n (uL k a b (2 ^ j)).reverse), .int .i64 ((2 ^ j : Nat) : Int), .bool true])
  rw [hN, hs, he]
theorem pdGive_none {xs : List Nat} {n : Nat} {k a b : Int} {M : Nat} {w w' : World} (h : pastJ xs n k a b M = none) (hb : Below w.heap.size w w') : pdGive xs n k a b M w (.returned (.tuple #[.agg #[.int .i64 0, .int .u64 0, .int .u64 0], .int .i64 0, .int .i64 0, .bool false])) w' := by
  unfold pdGive mtOut
  rw [h]
  exact ⟨rfl, hb⟩
theorem endV_coal {xs : List Nat} {n : Nat} {k a b : Int} {N : Nat} : (coalB xs n k a b N = true → ∃ p : Nat, endV xs n (uL k a b N).reverse = p) ∧ (coalB xs n k a b N = false → endV xs n (uL k a b N).reverse = -1) := by
  unfold coalB endV
  constructor
  · intro h
    rw [if_pos h]
    exact ⟨_, rfl⟩
  · intro h
    rw [h, if_neg (by decide)]
theorem own_at {w : World} {base n c : Nat} {A : Option Addr} {e : TypeId} {vs : List Value} (h : w.ownsRow base e 1 (.slice A n c) n vs) (hn : 1 ≤ n) : ∃ g, A = some ⟨g, 0, none⟩ ∧ base ≤ g := by
  cases A with
  | none => exact absurd (own_none h) (by omega)
  | some ad =>
    obtain ⟨g, h1, h2⟩ := own_some h
    exact ⟨g, by rw [h1], h2⟩
def slen : Value → Nat | .slice _ l _ => l | _ => 0
/-- so many shares, in memory of their own -/
def PK (w : World) (k a b : Int) (n : Nat) (A : Option Addr) (m c t : Nat) (v : Value) (wr : World) : Prop :=
  Bx w.heap.size k (sdT k a b t).1 (sdT k a b t).2 n A m c wr ∧ Below w.heap.size w wr ∧ ∃ A' c', v = .slice A' t c' ∧ wr.ownsRow (w.heap.size + 3) 33 1 (.slice A' t c') t (fl (uL k a b t))
theorem PK.keep {w wr w' : World} {k a b : Int} {n : Nat} {A : Option Addr} {m c t : Nat} {v : Value} (h : PK w k a b n A m c t v wr) (hb : Below wr.heap.size wr w') : PK w k a b n A m c t v w' := by
  obtain ⟨h1, h2, A', c', rfl, h3⟩ := h
  exact ⟨h1.keep hb, below_next h2 hb, A', c', rfl, own_below h3 hb⟩
theorem pastB_ok {k a b side : Int} {xs : List Nat} {most : Int} (h : pastB k a b side xs most = true) : ∃ n M : Nat, side = n ∧ most = M ∧ 1 ≤ n ∧ n ≤ 12 ∧ 1 ≤ M ∧ M ≤ 512 ∧ seedB k a b = true ∧ validB n xs = true ∧ inB M 1 512 = true := by
  unfold pastB at h
  rw [Bool.and_eq_true, Bool.and_eq_true] at h
  obtain ⟨h1, h2, h3⟩ := h
  obtain ⟨n, rfl, n1, n2, -⟩ := validB_facts h2
  have h3' := of_decide_eq_true h3
  obtain ⟨M, rfl⟩ := Int.eq_ofNat_of_zero_le (show 0 ≤ most by omega)
  exact ⟨n, M, rfl, rfl, n1, n2, by omega, by omega, h1, h2, h3⟩

set_option maxRecDepth 100000 in
set_option maxHeartbeats 3200000 in
theorem PastDraw_bad (k a b side most : Int) (A : Option Addr) (xs : List Nat) (c : Nat) (w : World) (hb0 : 0 ≤ b ∧ b < 18446744073709551616) (hx : xs.length ≤ c) (hc : c ≤ 9223372036854775807) (h : Rd w w.heap.size A (fl xs)) (hbad : pastB k a b side xs most = false) :
    Calls Try.prog 71 #[.agg #[.int .i64 k, .int .u64 a, .int .u64 b], .agg #[.int .i64 side, .slice A xs.length c], .int .i64 most] w (mtOut 0 0 0 0 0 false w) := by
  have HS := Lib.hid fun w => ValidSeed_any k a b hb0 w
  have HV := Lib.hid fun W h => ValidChain_any side A xs c W hx hc h
  have HW := Lib.hid fun w => within_any most 1 512 w
  unfold pastB at hbad
  clear hx hc hb0
  generalize seedB k a b = d1 at *
  generalize validB side xs = d2 at *
  generalize inB most 1 512 = d5 at *
  have hcase : d1 = false ∨ (d1 = true ∧ d2 = false) ∨ (d1 = true ∧ d2 = true ∧ d5 = false) := by
    cases d1 <;> cases d2 <;> cases d5 <;> simp_all
  clear hbad
  rcases hcase with rfl | ⟨rfl, rfl⟩ | ⟨rfl, rfl, rfl⟩
  all_goals
    go_enter Try.func71, Try.ntmps71
    go_wp2_with fail
    generalize hW1 : World.alloc (World.alloc (World.alloc w _) _) _ = W1
    have hx1 : Bx w.heap.size k a b side A xs.length c W1 := by rw [← hW1]; simp [Bx, SdAt, go_sem]
    have HB1 : Hid (Below w.heap.size w W1) := by rw [← hW1]; exact Lib.hid (below_al (below_al (below_al (Below.refl _ _) _) _) _)
    clear hW1
    refine (HS.out _).mono ?_
    rintro e w2 ⟨rfl, hb2⟩
    have HXq := Lib.hid (hx1.keep hb2)
    have HBq := Lib.hid (below_next HB1.out hb2)
    clear hx1 hb2
    obtain ⟨⟨s0, s1, s2, sf⟩, n0, n1, ⟨z0, z1, z2, zf⟩⟩ := HXq.out
    go_wp2_with (first
      | (go_at_call 36; refine (HV.out _ (h.at_ HBq.out)).mono ?_; rintro e w3 ⟨rfl, hb3⟩; have HXq := Lib.hid (HXq.out.keep hb3); have HBq := Lib.hid (below_next HBq.out hb3); clear hb3; obtain ⟨⟨s0, s1, s2, sf⟩, n0, n1, ⟨z0, z1, z2, zf⟩⟩ := HXq.out)
      | (go_at_call 96; refine (HW.out _).mono ?_; rintro e w5 ⟨rfl, m5, rfl⟩; have HBq := Lib.hid (below_drewN HBq.out m5)))
    refine bodyPost_ret (v := .tuple #[.agg #[.int .i64 0, .int .u64 0, .int .u64 0], .int .i64 0, .int .i64 0, .bool false]) (by simp [results, Try.results71, go_sem, z0, z1, z2]) rfl ⟨rfl, ?_⟩
    exact below_set (below_set (below_set HBq.out _ _ (by first | omega | (simp; omega))) _ _ (by first | omega | (simp; omega))) _ _ (by first | omega | (simp; omega))

set_option maxRecDepth 100000 in
set_option maxHeartbeats 6400000 in
theorem PastDraw_ok (k a b : Int) (n M : Nat) (A : Option Addr) (xs : List Nat) (c : Nat) (w : World) (hb0 : 0 ≤ b ∧ b < 18446744073709551616) (hx : xs.length ≤ c) (hc : c ≤ 9223372036854775807) (h : Rd w w.heap.size A (fl xs)) (hok : pastB k a b n xs M = true) :
    Calls Try.prog 71 #[.agg #[.int .i64 k, .int .u64 a, .int .u64 b], .agg #[.int .i64 n, .slice A xs.length c], .int .i64 M] w (pdGive xs n k a b M w) := by
  obtain ⟨n', M', hn', hM', n1, n2, hM1, hM, h1, h2, h5⟩ := pastB_ok hok
  obtain rfl : n = n' := by omega
  obtain rfl : M = M' := by omega
  have HS := Lib.hid fun w => ValidSeed_any k a b hb0 w
  have HV := Lib.hid fun W h => ValidChain_any n A xs c W hx hc h
  have HW := Lib.hid fun w => within_any M 1 512 w
  rw [h1] at HS
  rw [h2] at HV
  rw [h5] at HW
  have HSH : Hid (∀ t w, Calls Try.prog 130 #[.agg #[.int .i64 k, .int .u64 (sdT k a b t).1, .int .u64 (sdT k a b t).2]] w (ShareOut k (sdT k a b t).1 (sdT k a b t).2 w)) := Lib.hid fun t w => share_any k _ _ (seedB_kind h1) w
  have HSD : Hid (∀ t, nA k (sdT k a b t).1 (sdT k a b t).2 = (sdT k a b (t + 1)).1 ∧ nB k (sdT k a b t).1 (sdT k a b t).2 = (sdT k a b (t + 1)).2 ∧ nU k (sdT k a b t).1 (sdT k a b t).2 = uT k a b t) := Lib.hid fun t => ⟨rfl, rfl, rfl⟩
  have HUL : Hid (∀ t, uL k a b (t + 1) = uL k a b t ++ [uT k a b t]) := Lib.hid fun t => uL_succ _ _ _ _
  have HCL : Hid (∀ t A' c' W, 1 ≤ t → t ≤ 512 → Rd W W.heap.size A' (fl (uL k a b t)) → Calls Try.prog 117 #[.slice A' t c'] W (fun e w' => ∃ A'' c'', e = .returned (.slice A'' t c'') ∧ w'.ownsRow W.heap.size 33 1 (.slice A'' t c'') t (fl (uL k a b t)) ∧ Below W.heap.size W w')) := Lib.hid fun t A' c' W h1 h2 hr => by
    have := cloneF_any A' (uL k a b t) c' W (by rw [uL_len]; omega) (by rw [uL_len]; omega) hr
    rwa [uL_len] at this
  have HRV : Hid (∀ t g base c' W, 1 ≤ t → t ≤ 512 → W.ownsRow base 33 1 (.slice (some ⟨g, 0, none⟩) t c') t (fl (uL k a b t)) → Calls Try.prog 132 #[.slice (some ⟨g, 0, none⟩) t c'] W (fun e w' => e = .returned (.tuple #[]) ∧ w'.ownsRow base 33 1 (.slice (some ⟨g, 0, none⟩) t c') t (fl (uL k a b t).reverse) ∧ W.grownBy w' (some g))) := Lib.hid fun t g base c' W h1 h2 ho => by
    have := reverse_any g base (uL k a b t) c' W (by rw [uL_len]; omega) (by rw [uL_len]; omega) (by rw [uL_len]; exact ho)
    rwa [uL_len] at this
  have HEO : Hid (∀ t B c' W, t ≤ 512 → Below w.heap.size w W → Rd W W.heap.size B (fl (uL k a b t).reverse) → Calls Try.prog 133 #[.agg #[.int .i64 n, .slice A xs.length c], .slice B t c'] W (fun e w' => e = .returned (.int .i64 (endV xs n (uL k a b t).reverse)) ∧ Below W.heap.size W w')) := Lib.hid fun t B c' W h1 hW hr => by
    have := endOf_any n A xs c B (uL k a b t).reverse c' W hx hc h2 (by rw [List.length_reverse, uL_len]; omega) (fun u hu => uL_nn k a b t u (List.mem_reverse.1 hu)) (h.at_ hW) hr
    rwa [List.length_reverse, uL_len] at this
  have H0 : Hid ((sdT k a b 0) = (a, b) ∧ fl (uL k a b 0) = []) := Lib.hid ⟨rfl, rfl⟩
  have HEV : Hid (∀ N, (coalB xs n k a b N = true → ∃ p : Nat, endV xs n (uL k a b N).reverse = p) ∧ (coalB xs n k a b N = false → endV xs n (uL k a b N).reverse = -1)) := Lib.hid fun N => endV_coal
  have HPS : Hid (∀ j, 2 ^ j ≤ M → (∀ q, q < j → coalB xs n k a b (2 ^ q) = false) → coalB xs n k a b (2 ^ j) = true → pastJ xs n k a b M = some j) := Lib.hid fun j h1 h2 h3 => pastJ_some hM h1 h2 h3
  have HPN : Hid (∀ j, M < 2 ^ j → (∀ q, q < j → coalB xs n k a b (2 ^ q) = false) → pastJ xs n k a b M = none) := Lib.hid fun j h1 h2 => pastJ_none h1 h2
  obtain ⟨i0, hi0, hz0, hz1, hz2⟩ := info_parts info_f32
  have HRD := Lib.hid h
  clear hok hn' hM' h1 h2 h5 hb0 hx hc h
  unfold ShareOut at HSH
  go_enter Try.func71, Try.ntmps71
  go_wp2_with fail
  generalize hW1 : World.alloc (World.alloc (World.alloc w _) _) _ = W1
  have hx1 : Bx w.heap.size k a b n A xs.length c W1 := by rw [← hW1]; simp [Bx, SdAt, go_sem]
  have HB1 : Hid (Below w.heap.size w W1) := by rw [← hW1]; exact Lib.hid (below_al (below_al (below_al (Below.refl _ _) _) _) _)
  clear hW1
  refine (HS.out _).mono ?_
  rintro e w2 ⟨rfl, hb2⟩
  have HXq := Lib.hid (hx1.keep hb2)
  have HBq := Lib.hid (below_next HB1.out hb2)
  clear hx1 hb2
  obtain ⟨⟨s0, s1, s2, sf⟩, n0, n1', ⟨z0, z1, z2, zf⟩⟩ := HXq.out
  go_wp2_with (first
    | (go_at_call 36; refine (HV.out _ (HRD.out.at_ HBq.out)).mono ?_; rintro e w3 ⟨rfl, hb3⟩; have HXq := Lib.hid (HXq.out.keep hb3); have HBq := Lib.hid (below_next HBq.out hb3); clear hb3; obtain ⟨⟨s0, s1, s2, sf⟩, n0, n1', ⟨z0, z1, z2, zf⟩⟩ := HXq.out)
    | (go_at_call 96; refine (HW.out _).mono ?_; rintro e w5 ⟨rfl, m5, rfl⟩; have HXq := Lib.hid (HXq.out.dn m5); have HBq := Lib.hid (below_drewN HBq.out m5)))
  have hlt4 := HXq.out.lt
  have START : Hid (PK w k a b n A xs.length c 0 (.slice (some ⟨(w3.drewN m5).heap.size, 0, none⟩) 0 0) ((w3.drewN m5).alloc (.cells #[] 33))) := Lib.hid ⟨by rw [H0.out.1]; exact HXq.out.keep (below_al (Below.refl _ _) _), below_al HBq.out _, _, _, rfl, by
    rw [H0.out.2]
    exact World.ownsRow_made (w3.drewN m5) #[] 0 (show w.heap.size + 3 ≤ w3.heap.size by simp at hlt4; omega) (by unfold maxLen; omega) rfl⟩
  clear hlt4 s0 s1 s2 sf n0 n1' z0 z1 z2 zf
  go_loopw [10, 11, 12, 13, 14] (fun v nv _ _ _ wr => ∃ j t : Nat, nv = .int .i64 ((2 ^ j : Nat) : Int) ∧ t ≤ 2 ^ j ∧ 2 ^ j ≤ 1024 ∧ PK w k a b n A xs.length c t v wr ∧ (∀ q, q < j → coalB xs n k a b (2 ^ q) = false)) (fun _ nv _ _ _ _ => 2 * M + 2 - (intOf nv).toNat)
  case atStart => exact ⟨0, 0, rfl, by omega, by decide, START.out, fun q hq => by omega⟩
  case round =>
    obtain ⟨j, t0, rfl, ht0, hjb, hpk, hno⟩ := hrel
    rename_i wr
    have HPK := Lib.hid hpk
    have HNO := Lib.hid hno
    have HPSj := Lib.hid (HPS.out j)
    have HPNj := Lib.hid (HPN.out j)
    have HPW : Hid (2 ^ (j + 1) = 2 ^ j * 2 ∧ 1 ≤ 2 ^ j) := Lib.hid ⟨Nat.pow_succ .., Nat.one_le_two_pow⟩
    clear hpk hno
    generalize hNN : 2 ^ j = N at *
    have HN := Lib.hid hNN
    clear hNN
    have hN1 : 1 ≤ N := HPW.out.2
    by_cases hle : N ≤ M
    · obtain ⟨-, -, A0, c0, rfl, -⟩ := HPK.out
      go_wp2_with fail
      go_loopw [10, 12] (fun v _ W => ∃ t : Nat, t ≤ N ∧ PK w k a b n A xs.length c t v W) (fun v _ _ => N - slen v)
      case atStart => exact ⟨t0, ht0, HPK.out⟩
      case round =>
        obtain ⟨t, ht, hbx, hbw, A', c', rfl, hown⟩ := hrel
        rename_i W
        have HX := Lib.hid hbx
        have HB := Lib.hid hbw
        have HO := Lib.hid hown
        obtain ⟨⟨s0, s1, s2, sf⟩, n0, n1', ⟨z0, z1, z2, zf⟩⟩ := hbx
        have hlt := HX.out.lt
        clear hbw hown
        by_cases htN : t < N
        · obtain ⟨q1, q2, q3⟩ := HSD.out t
          have hsh := HSH.out t
          rw [q1, q2, q3] at hsh
          have HSHt := Lib.hid hsh
          have HULt := Lib.hid (HUL.out t)
          clear q1 q2 q3 hsh
          generalize hst : sdT k a b t = st at *
          generalize hst' : sdT k a b (t + 1) = st' at *
          have HST := Lib.hid hst'
          clear hst hst'
          obtain ⟨aT, bT⟩ := st
          obtain ⟨a', b'⟩ := st'
          generalize uT k a b t = u at *
          go_upto_region 10 with (go_at_call 130; refine (HSHt.out _).mono ?_; rintro e w6 ⟨rfl, hb6⟩; have HX6 := Lib.hid (HX.out.keep hb6); have HB6 := Lib.hid (below_next HB.out hb6); have HO6 := Lib.hid (own_below HO.out hb6); clear hb6 s0 s1 s2 sf n0 n1' z0 z1 z2 zf; obtain ⟨⟨s0, s1, s2, sf⟩, n0, n1', ⟨z0, z1, z2, zf⟩⟩ := HX6.out)
          have hX7 := HX6.out.set k a' b'
          have hB7 := below_set (below_set (below_set HB6.out ⟨w.heap.size, 0, none⟩ (.int .i64 k) (Nat.le_refl _)) ⟨w.heap.size, 1, none⟩ (.int .u64 a') (Nat.le_refl _)) ⟨w.heap.size, 2, none⟩ (.int .u64 b') (Nat.le_refl _)
          have hO7 := ownsRow_setCell_below (ownsRow_setCell_below (ownsRow_setCell_below HO6.out (a := ⟨w.heap.size, 0, none⟩) (show w.heap.size < w.heap.size + 3 by omega) (.int .i64 k)) (a := ⟨w.heap.size, 1, none⟩) (show w.heap.size < w.heap.size + 3 by omega) (.int .u64 a')) (a := ⟨w.heap.size, 2, none⟩) (show w.heap.size < w.heap.size + 3 by omega) (.int .u64 b')
          generalize World.setCell (World.setCell (World.setCell _ _ _) _ _) _ _ = W7 at hX7 hB7 hO7 ⊢
          have HX8 := Lib.hid hX7
          have HB8 := Lib.hid hB7
          have HO8 := Lib.hid hO7
          have hl8 := HX8.out.lt
          clear hX7 hB7 hO7 s0 s1 s2 sf n0 n1' z0 z1 z2 zf HX6 HB6 HO6 hlt
          go_wp2_with (refine wpList_append_lies _ rfl _ _ _ rfl (w.heap.size + 3) 33 i0 _ 1 4 Try.underlying22 hi0 hz0 hz1 hz2 rfl (by omega) (.slice A' t c') t (fl (uL k a b t)) (by rfl) (HO8.out.alloc _) ⟨W7.heap.size, 0, none⟩ 1 1 [.float .f32 u] (by rfl) (by rfl) (World.news_of_block (cs := #[.float .f32 u]) (t := 33) (fr := (0, 0)) (heap_alloc_new W7 _)) (by simp [Value.oneCell']) (by omega) (by unfold maxLen; omega) (by omega) (by simp; omega) (W7.heap.size + 1) (by simp) ?_; intro g cap w9 hown9 hgrow hat hlt9; have HX9 := Lib.hid ((HX8.out.keep (below_al (Below.refl _ _) (.cells #[.float .f32 u] 33))).grown hgrow (fun q hq => (HO8.out.lt q hq).1)); have HB9 := Lib.hid ((below_al HB8.out (.cells #[.float .f32 u] 33)).grown hgrow (by have := HB8.out.size; simp; omega) (fun q hq => by have := (HO8.out.lt q hq).1; omega)); have HO9 := Lib.hid hown9; clear hown9 hgrow hat hlt9)
          go_roundw
          case rel => exact ⟨t + 1, by omega, by rw [HST.out]; exact HX9.out, HB9.out, _, _, rfl, by rw [HULt.out]; simpa [fl] using HO9.out⟩
          case measure => simp [slen]; omega
        · obtain rfl : t = N := by omega
          have HCLt := Lib.hid (HCL.out t)
          have HRVt := Lib.hid (HRV.out t)
          have HEOt := Lib.hid (HEO.out t)
          obtain ⟨hv1, hv2⟩ := HEV.out t
          cases hcb : coalB xs n k a b t with
          | true =>
            obtain ⟨p, hp⟩ := hv1 hcb
            rw [hp] at HEOt
            have HEP := Lib.hid hp
            have HJS := Lib.hid (HPSj.out hle HNO.out hcb)
            generalize hst : sdT k a b t = st at *
            have HST := Lib.hid hst
            clear hst hcb hp hv1 hv2
            obtain ⟨aT, bT⟩ := st
            go_wp2_with (first
              | (go_at_call 117; refine (HCLt.out _ _ _ (by omega) (by omega) (Rd.of_own HO.out)).mono ?_; rintro e w6 ⟨A6, c6, rfl, ho6, hb6⟩; have HB6 := Lib.hid hb6; have HO6 := Lib.hid ho6; have hA6 := own_at ho6 hN1; obtain ⟨g6, rfl, hg6⟩ := hA6; clear ho6 hb6)
              | (go_at_call 132; refine (HRVt.out _ _ _ _ (by omega) (by omega) HO6.out).mono ?_; rintro e w7 ⟨rfl, ho7, hg7⟩; have HB7 := Lib.hid (HB6.out.grown hg7 HB6.out.size (fun q hq => by injection hq with hq; omega)); have HX7 := Lib.hid (HX.out.keep HB7.out); have HO7 := Lib.hid ho7; clear ho7 hg7; obtain ⟨⟨t0', t1', t2', tf'⟩, m0', m1', ⟨y0', y1', y2', yf'⟩⟩ := HX7.out)
              | (go_at_call 133; refine (HEOt.out _ _ _ (by omega) (below_next HB.out HB7.out) (Rd.of_own HO7.out)).mono ?_; rintro e w8 ⟨rfl, hb8⟩; have HB8 := Lib.hid (below_next HB7.out hb8); have HX8 := Lib.hid (HX.out.keep HB8.out); clear hb8 s0 s1 s2 sf n0 n1' z0 z1 z2 zf t0' t1' t2' tf' m0' m1' y0' y1' y2' yf'; obtain ⟨⟨s0, s1, s2, sf⟩, n0, n1', ⟨z0, z1, z2, zf⟩⟩ := HX8.out))
            have hX9 := (HX8.out.2.2.2).set k aT bT
            have hB9 := below_set (below_set (below_set (below_next HB.out HB8.out) ⟨w.heap.size + 1 + 1, 0, none⟩ (.int .i64 k) (by simp; omega)) ⟨w.heap.size + 1 + 1, 1, none⟩ (.int .u64 aT) (by simp; omega)) ⟨w.heap.size + 1 + 1, 2, none⟩ (.int .u64 bT) (by simp; omega)
            generalize World.setCell (World.setCell (World.setCell _ _ _) _ _) _ _ = W9 at hX9 hB9 ⊢
            clear s0 s1 s2 sf n0 n1' z0 z1 z2 zf
            obtain ⟨y0, y1, y2, -⟩ := hX9
            refine bodyPost_ret (v := .tuple #[.agg #[.int .i64 k, .int .u64 aT, .int .u64 bT], .int .i64 (p : Int), .int .i64 (t : Int), .bool true]) (by simp [results, Try.results71, go_sem, y0, y1, y2]) rfl (pdGive_some HJS.out HN.out HST.out HEP.out hB9)
          | false =>
            have hp := hv2 hcb
            rw [hp] at HEOt
            have HN2 : Hid (∀ q, q < j + 1 → coalB xs n k a b (2 ^ q) = false) := Lib.hid fun q hq => by
              rcases Nat.lt_or_ge q j with hl | hg
              · exact HNO.out q hl
              · obtain rfl : q = j := by omega
                rw [HN.out]
                exact hcb
            clear hcb hp hv1 hv2
            go_wp2_with (first
              | (go_at_call 117; refine (HCLt.out _ _ _ (by omega) (by omega) (Rd.of_own HO.out)).mono ?_; rintro e w6 ⟨A6, c6, rfl, ho6, hb6⟩; have HB6 := Lib.hid hb6; have HO6 := Lib.hid ho6; have hA6 := own_at ho6 hN1; obtain ⟨g6, rfl, hg6⟩ := hA6; clear ho6 hb6)
              | (go_at_call 132; refine (HRVt.out _ _ _ _ (by omega) (by omega) HO6.out).mono ?_; rintro e w7 ⟨rfl, ho7, hg7⟩; have HB7 := Lib.hid (HB6.out.grown hg7 HB6.out.size (fun q hq => by injection hq with hq; omega)); have HX7 := Lib.hid (HX.out.keep HB7.out); have HO7 := Lib.hid ho7; clear ho7 hg7; obtain ⟨⟨t0', t1', t2', tf'⟩, m0', m1', ⟨y0', y1', y2', yf'⟩⟩ := HX7.out)
              | (go_at_call 133; refine (HEOt.out _ _ _ (by omega) (below_next HB.out HB7.out) (Rd.of_own HO7.out)).mono ?_; rintro e w8 ⟨rfl, hb8⟩; have HB8 := Lib.hid (below_next HB7.out hb8); have HX8 := Lib.hid (HX.out.keep HB8.out); clear hb8 s0 s1 s2 sf n0 n1' z0 z1 z2 zf t0' t1' t2' tf' m0' m1' y0' y1' y2' yf'; obtain ⟨⟨s0, s1, s2, sf⟩, n0, n1', ⟨z0, z1, z2, zf⟩⟩ := HX8.out))
            have hp2 := HPW.out.1
            go_roundw
            case rel => exact ⟨j + 1, t, by rw [hp2]; push_cast; rfl, by omega, by omega, ⟨HX8.out, below_next HB.out HB8.out, A', c', rfl, own_below HO.out HB8.out⟩, HN2.out⟩
            case measure => simp [intOf]; omega
    · have HJN := Lib.hid (HPNj.out (by omega) HNO.out)
      obtain ⟨⟨s0, s1, s2, sf⟩, n0, n1', ⟨z0, z1, z2, zf⟩⟩ := HPK.out.1
      have HBk := Lib.hid HPK.out.2.1
      have hltk := HPK.out.1.lt
      go_wp2_with fail
      refine bodyPost_ret (v := .tuple #[.agg #[.int .i64 0, .int .u64 0, .int .u64 0], .int .i64 0, .int .i64 0, .bool false]) (by simp [results, Try.results71, go_sem, z0, z1, z2]) rfl (pdGive_none HJN.out ?_)
      exact below_set (below_set (below_set HBk.out _ _ (by first | omega | (simp; omega))) _ _ (by first | omega | (simp; omega))) _ _ (by first | omega | (simp; omega))
end Go.Proofs.Ytddaodjaeommlaa
