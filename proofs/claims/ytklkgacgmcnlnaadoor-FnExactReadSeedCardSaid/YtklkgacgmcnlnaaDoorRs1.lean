/-
  internal/strconv.ParseUint, strconv.ParseUint at base 16 and 64 bits: no panic; sixteen digits of l08Hex are read back.
-/
import Derived.Test.YtklkgacgmcnlnaaDoorHx4
import Derived.Test.YtklkgacgmcnlnaaDoorRd2
namespace Go.Proofs.YtklkgacgmcnlnaaDoor
open Go Go.RowKit

/-- what an inner call may give as an error -/
def InErr (er : Value) : Prop := er = .nilIface ∨ er = .iface 121 (.int .i64 2) ∨ er = .iface 121 (.int .i64 1)
def PuOut (t : ByteArray) (w : World) (e : Ending) (w' : World) : Prop := ∃ (v : Nat) (er : Value), e = .returned (.tuple #[.int .u64 v, er]) ∧ InErr er ∧ v < 18446744073709551616 ∧ (t.size = 16 → digL t.data.toList = true → er = .nilIface ∧ v = unL t.data.toList) ∧ Below w.heap.size w w'
theorem or32 (c : Nat) (hc : c < 256) : bits .or .u8 (c : Int) 32 = ((c ||| 32 : Nat) : Int) := by
  rw [show (32 : Int) = ((32 : Nat) : Int) from rfl, u8_or_nat c 32 hc (by decide)]
theorem or32_lt (c : Nat) (hc : c < 256) : c ||| 32 < 256 := Nat.or_lt_two_pow (n := 8) hc (by decide)
theorem unD_low : ∀ c : Fin 256, unD (UInt8.ofNat c.val) < 16 → (48 ≤ c.val ∧ c.val ≤ 57 ∧ unD (UInt8.ofNat c.val) = c.val - 48) ∨ (¬ (48 ≤ c.val ∧ c.val ≤ 57) ∧ 97 ≤ (c.val ||| 32) ∧ (c.val ||| 32) ≤ 102 ∧ unD (UInt8.ofNat c.val) = (c.val ||| 32) - 87) := by decide +kernel
theorem unD_low' (b : UInt8) (h : unD b < 16) : (48 ≤ b.toNat ∧ b.toNat ≤ 57 ∧ unD b = b.toNat - 48) ∨ (¬ (48 ≤ b.toNat ∧ b.toNat ≤ 57) ∧ 97 ≤ (b.toNat ||| 32) ∧ (b.toNat ||| 32) ≤ 102 ∧ unD b = (b.toNat ||| 32) - 87) := by
  have hb := b.toNat_lt
  have := unD_low ⟨b.toNat, hb⟩
  dsimp only at this
  rw [show UInt8.ofNat b.toNat = b by simp] at this
  exact this h
/-- a prefix that is read: for sixteen digits it is their number -/
def PuAt (t : ByteArray) (k N : Nat) : Prop := t.size = 16 → digL t.data.toList = true → N = unL (t.data.toList.take k)
theorem unL_lt {l : List UInt8} (h : digL l = true) : unL l < 16 ^ l.length := (hexL_unL l.length l rfl h).1
theorem digL_take {l : List UInt8} (h : digL l = true) (k : Nat) : digL (l.take k) = true := by
  unfold digL at *
  rw [List.all_eq_true] at *
  exact fun x hx => h x (List.mem_of_mem_take hx)
theorem digL_at {t : ByteArray} (h : digL t.data.toList = true) (k : Nat) (hk : k < t.size) : unD t[k] < 16 := by
  unfold digL at h
  rw [List.all_eq_true] at h
  have := h t[k] (by
    have : t.data.toList[k]'(by rw [← Lib.size_eq]; exact hk) ∈ t.data.toList := List.getElem_mem _
    exact this)
  simpa using this
/-- how a digit goes on: its value, or none -/
def dgV (c : Nat) : Nat := if 48 ≤ c ∧ c ≤ 57 then c - 48 else if 97 ≤ (c ||| 32) ∧ (c ||| 32) ≤ 102 then (c ||| 32) - 87 else 16
theorem dgV_unD (b : UInt8) (h : unD b < 16) : dgV b.toNat = unD b := by
  unfold dgV
  rcases unD_low' b h with ⟨h1, h2, h3⟩ | ⟨h1, h2, h3, h4⟩
  · rw [if_pos ⟨h1, h2⟩, h3]
  · rw [if_neg h1, if_pos ⟨h2, h3⟩, h4]
theorem PuAt.step {t : ByteArray} {k N : Nat} (h : PuAt t k N) (hk : k < t.size) : PuAt t (k + 1) (16 * N + dgV t[k].toNat) := fun h16 hd => by
  rw [take_byte hk, unL_snoc, h h16 hd, dgV_unD _ (digL_at hd k hk)]
theorem PuAt.small {t : ByteArray} {k N : Nat} (h : PuAt t k N) (hk : k < t.size) (h16 : t.size = 16) (hd : digL t.data.toList = true) : N < 1152921504606846976 ∧ dgV t[k].toNat < 16 := by
  have h1 := unL_lt (digL_take hd k)
  have h2 : (t.data.toList.take k).length ≤ 15 := by rw [List.length_take]; omega
  have h3 : 16 ^ (t.data.toList.take k).length ≤ 16 ^ 15 := Nat.pow_le_pow_right (by decide) h2
  rw [h h16 hd]
  exact ⟨by omega, by rw [dgV_unD _ (digL_at hd k hk)]; exact digL_at hd k hk⟩
theorem PuAt.bad {t : ByteArray} {k N : Nat} (h : PuAt t k N) (hk : k < t.size) (hb : 16 ≤ dgV t[k].toNat ∨ 1152921504606846976 ≤ N) : t.size = 16 → digL t.data.toList = true → False := fun h16 hd => by
  obtain ⟨h1, h2⟩ := h.small hk h16 hd
  rcases hb with hb | hb <;> omega
/-- bytes lie in block g -/
def BY (s : ByteArray) (g : Nat) (W : World) : Prop := g < W.heap.size ∧ ∀ i (h : i < s.size), W.cell? ⟨g, i, none⟩ = some (.int .u8 (s[i].toNat : Nat))
theorem BY.new {s : ByteArray} {w : World} {e : TypeId} {fr : Nat × Nat} {c : Nat} : BY s w.heap.size (w.alloc (.cells (bytesRow s c) e fr)) := by
  refine ⟨by simp, fun i hi => ?_⟩
  rw [World.cell?_alloc_mark, bytesRow_at s c i hi]
  rfl
set_option maxRecDepth 100000 in
set_option maxHeartbeats 6400000 in
theorem ParseUint0 (t : ByteArray) (w : World) (hs : t.size ≤ 1048576) : Calls Tryd.prog 79 #[.string t, .int .i64 16, .int .i64 64] w (PuOut t w) := by
  by_cases h0 : t.size = 0
  · have ht : t = ⟨#[]⟩ := str_of (l := []) (List.length_eq_zero_iff.1 (by rw [← Lib.size_eq]; exact h0))
    subst ht
    exact (Tryd.internal_strconv_ParseUint_empty 16 64 w).mono fun e w' ⟨he, hw⟩ => ⟨0, _, he, .inr (.inl rfl), by decide, (fun h => by cases h), by rw [hw]; exact Below.refl _ _⟩
  have hpos : 0 < t.size := by omega
  have hne : (t.toList == []) = false := by
    rw [Lib.toList_data]
    cases h : t.data.toList with
    | nil => rw [Lib.size_eq, h] at hpos; cases hpos
    | cons x xs => rfl
  have hne2 : t.toList.isEmpty = false := by
    rw [Lib.toList_data]
    cases h : t.data.toList with
    | nil => rw [Lib.size_eq, h] at hpos; cases hpos
    | cons x xs => rfl
  have hne3 : ¬ t.toList = [] := by intro h; rw [h] at hne2; cases hne2
  have HLOW := Lib.hid fun c w => Tryd.internal_strconv_lower c w
  have wm : IntKind.u64.wrap (IntKind.u64.wrap 18446744073709551616 - 1) = 18446744073709551615 := by decide
  have kb := fun (W : World) => run_bytes_of_string (P := Tryd.prog) W 9 89 5 t Tryd.underlying9 Tryd.underlying89 Tryd.underlying5
  have HST : Hid (∀ k N, PuAt t k N → ∀ h : k < t.size, PuAt t (k + 1) (16 * N + dgV t[k].toNat)) := Lib.hid fun k N h hk => h.step hk
  have HBAD : Hid (∀ k N, PuAt t k N → ∀ h : k < t.size, (16 ≤ dgV t[k].toNat ∨ 1152921504606846976 ≤ N) → t.size = 16 → digL t.data.toList = true → False) := Lib.hid fun k N h hk => h.bad hk
  have H00 : Hid (PuAt t 0 0) := Lib.hid fun _ _ => rfl
  have HFIN : Hid (∀ N, PuAt t t.size N → t.size = 16 → digL t.data.toList = true → N = unL t.data.toList) := Lib.hid fun N h h16 hd => by
    have := h h16 hd
    rw [List.take_of_length_le (by rw [← Lib.size_eq]; exact Nat.le_refl _)] at this
    exact this
  unfold PuOut
  clear h0
  go_enter Tryd.func79, Tryd.ntmps79
  go_wp2_with fail
  generalize hcap : grownCap _ _ _ _ = cap at *
  generalize hW1 : World.drew _ = w1
  have HB : Hid (Below w.heap.size w w1) := Lib.hid (by rw [← hW1]; exact below_dr (below_al (Below.refl _ _) _))
  have YY : Hid (BY t w.heap.size w1) := Lib.hid (by rw [← hW1]; exact BY.new)
  clear hW1 hcap wm
  generalize hMX : (18446744073709551615 : Int) = MX
  generalize hCT : (1152921504606846976 : Int) = CT
  have HMX := Lib.hid hMX
  have HCT := Lib.hid hCT
  clear hMX hCT
  go_loop [12, 13, 101] (fun uv nv iv => ∃ k N : Nat, k ≤ t.size ∧ uv = .bool false ∧ iv = .int .i64 k ∧ nv = .int .u64 N ∧ (N : Int) ≤ MX ∧ PuAt t k N) (fun _ _ iv => t.size - (intOf iv).toNat)
  case atStart => exact ⟨0, 0, Nat.zero_le _, rfl, rfl, rfl, by rw [← HMX.out]; decide, H00.out⟩
  case round =>
    obtain ⟨k, N, hk, rfl, rfl, rfl, hN, hpu⟩ := hrel
    have HPU := Lib.hid hpu
    have HN := Lib.hid hN
    clear hpu hN
    by_cases hlt : k < t.size
    · have hc := YY.out.2 k hlt
      have HSTk := Lib.hid (HST.out k N HPU.out hlt)
      have HBADk := Lib.hid (HBAD.out k N HPU.out hlt)
      have hcl : t[k].toNat < 256 := t[k].toNat_lt
      have hdv : dgV t[k].toNat = if 48 ≤ t[k].toNat ∧ t[k].toNat ≤ 57 then t[k].toNat - 48 else if 97 ≤ (t[k].toNat ||| 32) ∧ (t[k].toNat ||| 32) ≤ 102 then (t[k].toNat ||| 32) - 87 else 16 := rfl
      generalize t[k].toNat = c at *
      have hor := or32 c hcl
      have hll := or32_lt c hcl
      have HLC : Hid (∀ W, Calls Tryd.prog 102 #[.int .u8 (c : Int)] W (fun e w' => e = .returned (.int .u8 ((c ||| 32 : Nat) : Int)) ∧ W = w')) := Lib.hid fun W => (HLOW.out _ W).mono fun e w' ⟨he, hw⟩ => ⟨by rw [he, hor], hw.symm⟩
      generalize hD : dgV c = D at *
      clear hD HST HBAD hor
      by_cases hdig : 48 ≤ c ∧ c ≤ 57
      · obtain ⟨g1, g2⟩ := hdig
        rw [if_pos ⟨g1, g2⟩] at hdv
        have f1 : (48 : Int) ≤ (c : Int) := by omega
        have f2 : (c : Int) ≤ 57 := by omega
        have f3 : ((c : Int) == 95) = false := beq_eq_false_iff_ne.2 (by omega)
        have f4 : IntKind.u8.wrap ((c : Int) - 48) = (D : Int) := by rw [IntKind.wrap_u8]; omega
        have f4' : (c : Int) - 48 = (D : Int) := by omega
        have f6 : (D : Int) < 16 := by omega
        have f6' : D < 16 := by omega
        clear hdv g1 g2
        by_cases hcut : 1152921504606846976 ≤ N
        · have HF := Lib.hid (HBADk.out (.inr hcut))
          have f5 : CT ≤ (N : Int) := by rw [← HCT.out]; omega
          clear hcut
          go_wp2_with (go_at_call 102; refine (HLC.out _).mono ?_; rintro e w2 ⟨rfl, rfl⟩)
          go_ret2
          exact ⟨18446744073709551615, _, by rw [← HMX.out]; rfl, .inr (.inr rfl), by decide, fun h1 h2 => (HF.out h1 h2).elim, HB.out⟩
        · have f5 : (N : Int) < CT := by rw [← HCT.out]; omega
          have HX := Lib.hid HSTk.out
          have f7 : IntKind.u64.wrap ((N : Int) * 16) = ((16 * N : Nat) : Int) := by rw [IntKind.wrap_u64]; omega
          have f7' : (N : Int) * 16 = ((16 * N : Nat) : Int) := by omega
          have hsum : 16 * N + D < 18446744073709551616 := by omega
          have hm16 : 16 * N < 18446744073709551616 := by omega
          have hle : 16 * N ≤ 16 * N + D := by omega
          generalize hM : 16 * N = M at *
          have f7w : IntKind.u64.wrap (M : Int) = (M : Int) := by rw [IntKind.wrap_u64]; omega
          have f8 : IntKind.u64.wrap ((M : Int) + (D : Int)) = ((M + D : Nat) : Int) := by rw [IntKind.wrap_u64]; omega
          have f9 : ¬ ((M + D : Nat) : Int) < (M : Int) := by omega
          have f10 : ((M + D : Nat) : Int) ≤ MX := by rw [← HMX.out]; omega
          have HSUM := Lib.hid f10
          clear hM hcut hsum hm16 hle
          generalize hS : M + D = S at *
          clear hS
          go_wp2_with (go_at_call 102; refine (HLC.out _).mono ?_; rintro e w2 ⟨rfl, rfl⟩)
          go_round
          case rel => exact ⟨k + 1, S, by omega, rfl, by go_num, rfl, HSUM.out, HX.out⟩
          case measure => simp [intOf]; omega
      · rw [if_neg hdig] at hdv
        generalize (c ||| 32) = lc at *
        by_cases hlet : 97 ≤ lc ∧ lc ≤ 122
        · obtain ⟨l1, l2⟩ := hlet
          have e1 : (97 : Int) ≤ (lc : Int) := by omega
          have e2 : (lc : Int) ≤ 122 := by omega
          have e3 : IntKind.u8.wrap (IntKind.u8.wrap ((lc : Int) - 97) + 10) = ((lc - 87 : Nat) : Int) := by rw [IntKind.wrap_u8, IntKind.wrap_u8]; omega
          have e3' : (lc : Int) - 97 + 10 = ((lc - 87 : Nat) : Int) := by omega
          have e4 : IntKind.u8.wrap ((lc : Int) - 97) = (lc : Int) - 97 := by rw [IntKind.wrap_u8]; omega
          have e5 : IntKind.u8.wrap ((lc : Int) - 97 + 10) = ((lc - 87 : Nat) : Int) := by rw [IntKind.wrap_u8]; omega
          by_cases h6 : lc ≤ 102
          · rw [if_pos ⟨l1, h6⟩] at hdv
            rw [← hdv] at e3 e3' e5
            have f6 : (D : Int) < 16 := by omega
            have f6' : D < 16 := by omega
            clear hdv l1 l2 h6
            by_cases g1 : 48 ≤ c
            · have f1 : (48 : Int) ≤ (c : Int) := by omega
              have f2 : ¬ (c : Int) ≤ 57 := by omega
              clear hdig
              by_cases h95 : c = 95
              · have f3 : ((c : Int) == 95) = true := by rw [h95]; rfl
                clear h95
                by_cases hcut : 1152921504606846976 ≤ N
                · have HF := Lib.hid (HBADk.out (.inr hcut))
                  have f5 : CT ≤ (N : Int) := by rw [← HCT.out]; omega
                  clear hcut
                  go_wp2_with (go_at_call 102; refine (HLC.out _).mono ?_; rintro e w2 ⟨rfl, rfl⟩)
                  go_ret2
                  exact ⟨18446744073709551615, _, by rw [← HMX.out]; rfl, .inr (.inr rfl), by decide, fun h1 h2 => (HF.out h1 h2).elim, HB.out⟩
                · have f5 : (N : Int) < CT := by rw [← HCT.out]; omega
                  have HX := Lib.hid HSTk.out
                  have f7 : IntKind.u64.wrap ((N : Int) * 16) = ((16 * N : Nat) : Int) := by rw [IntKind.wrap_u64]; omega
                  have f7' : (N : Int) * 16 = ((16 * N : Nat) : Int) := by omega
                  have hsum : 16 * N + D < 18446744073709551616 := by omega
                  have hm16 : 16 * N < 18446744073709551616 := by omega
                  have hle : 16 * N ≤ 16 * N + D := by omega
                  generalize hM : 16 * N = M at *
                  have f7w : IntKind.u64.wrap (M : Int) = (M : Int) := by rw [IntKind.wrap_u64]; omega
                  have f8 : IntKind.u64.wrap ((M : Int) + (D : Int)) = ((M + D : Nat) : Int) := by rw [IntKind.wrap_u64]; omega
                  have f9 : ¬ ((M + D : Nat) : Int) < (M : Int) := by omega
                  have f10 : ((M + D : Nat) : Int) ≤ MX := by rw [← HMX.out]; omega
                  have HSUM := Lib.hid f10
                  clear hM hcut hsum hm16 hle
                  generalize hS : M + D = S at *
                  clear hS
                  go_wp2_with (go_at_call 102; refine (HLC.out _).mono ?_; rintro e w2 ⟨rfl, rfl⟩)
                  go_round
                  case rel => exact ⟨k + 1, S, by omega, rfl, by go_num, rfl, HSUM.out, HX.out⟩
                  case measure => simp [intOf]; omega
              · have f3 : ((c : Int) == 95) = false := beq_eq_false_iff_ne.2 (by omega)
                clear h95
                by_cases hcut : 1152921504606846976 ≤ N
                · have HF := Lib.hid (HBADk.out (.inr hcut))
                  have f5 : CT ≤ (N : Int) := by rw [← HCT.out]; omega
                  clear hcut
                  go_wp2_with (go_at_call 102; refine (HLC.out _).mono ?_; rintro e w2 ⟨rfl, rfl⟩)
                  go_ret2
                  exact ⟨18446744073709551615, _, by rw [← HMX.out]; rfl, .inr (.inr rfl), by decide, fun h1 h2 => (HF.out h1 h2).elim, HB.out⟩
                · have f5 : (N : Int) < CT := by rw [← HCT.out]; omega
                  have HX := Lib.hid HSTk.out
                  have f7 : IntKind.u64.wrap ((N : Int) * 16) = ((16 * N : Nat) : Int) := by rw [IntKind.wrap_u64]; omega
                  have f7' : (N : Int) * 16 = ((16 * N : Nat) : Int) := by omega
                  have hsum : 16 * N + D < 18446744073709551616 := by omega
                  have hm16 : 16 * N < 18446744073709551616 := by omega
                  have hle : 16 * N ≤ 16 * N + D := by omega
                  generalize hM : 16 * N = M at *
                  have f7w : IntKind.u64.wrap (M : Int) = (M : Int) := by rw [IntKind.wrap_u64]; omega
                  have f8 : IntKind.u64.wrap ((M : Int) + (D : Int)) = ((M + D : Nat) : Int) := by rw [IntKind.wrap_u64]; omega
                  have f9 : ¬ ((M + D : Nat) : Int) < (M : Int) := by omega
                  have f10 : ((M + D : Nat) : Int) ≤ MX := by rw [← HMX.out]; omega
                  have HSUM := Lib.hid f10
                  clear hM hcut hsum hm16 hle
                  generalize hS : M + D = S at *
                  clear hS
                  go_wp2_with (go_at_call 102; refine (HLC.out _).mono ?_; rintro e w2 ⟨rfl, rfl⟩)
                  go_round
                  case rel => exact ⟨k + 1, S, by omega, rfl, by go_num, rfl, HSUM.out, HX.out⟩
                  case measure => simp [intOf]; omega
            · have f1 : ¬ (48 : Int) ≤ (c : Int) := by omega
              have f3 : ((c : Int) == 95) = false := beq_eq_false_iff_ne.2 (by omega)
              clear hdig
              by_cases hcut : 1152921504606846976 ≤ N
              · have HF := Lib.hid (HBADk.out (.inr hcut))
                have f5 : CT ≤ (N : Int) := by rw [← HCT.out]; omega
                clear hcut
                go_wp2_with (go_at_call 102; refine (HLC.out _).mono ?_; rintro e w2 ⟨rfl, rfl⟩)
                go_ret2
                exact ⟨18446744073709551615, _, by rw [← HMX.out]; rfl, .inr (.inr rfl), by decide, fun h1 h2 => (HF.out h1 h2).elim, HB.out⟩
              · have f5 : (N : Int) < CT := by rw [← HCT.out]; omega
                have HX := Lib.hid HSTk.out
                have f7 : IntKind.u64.wrap ((N : Int) * 16) = ((16 * N : Nat) : Int) := by rw [IntKind.wrap_u64]; omega
                have f7' : (N : Int) * 16 = ((16 * N : Nat) : Int) := by omega
                have hsum : 16 * N + D < 18446744073709551616 := by omega
                have hm16 : 16 * N < 18446744073709551616 := by omega
                have hle : 16 * N ≤ 16 * N + D := by omega
                generalize hM : 16 * N = M at *
                have f7w : IntKind.u64.wrap (M : Int) = (M : Int) := by rw [IntKind.wrap_u64]; omega
                have f8 : IntKind.u64.wrap ((M : Int) + (D : Int)) = ((M + D : Nat) : Int) := by rw [IntKind.wrap_u64]; omega
                have f9 : ¬ ((M + D : Nat) : Int) < (M : Int) := by omega
                have f10 : ((M + D : Nat) : Int) ≤ MX := by rw [← HMX.out]; omega
                have HSUM := Lib.hid f10
                clear hM hcut hsum hm16 hle
                generalize hS : M + D = S at *
                clear hS
                go_wp2_with (go_at_call 102; refine (HLC.out _).mono ?_; rintro e w2 ⟨rfl, rfl⟩)
                go_round
                case rel => exact ⟨k + 1, S, by omega, rfl, by go_num, rfl, HSUM.out, HX.out⟩
                case measure => simp [intOf]; omega
          · rw [if_neg (fun h => h6 h.2)] at hdv
            have HDV := Lib.hid hdv
            have f6 : ¬ ((lc - 87 : Nat) : Int) < 16 := by omega
            have f6' : (16 : Int) ≤ ((lc - 87 : Nat) : Int) := by omega
            clear hdv h6 l1 l2
            generalize lc - 87 = dd at *
            by_cases g1 : 48 ≤ c
            · have f1 : (48 : Int) ≤ (c : Int) := by omega
              have f2 : ¬ (c : Int) ≤ 57 := by omega
              clear hdig
              by_cases h95 : c = 95
              · have f3 : ((c : Int) == 95) = true := by rw [h95]; rfl
                clear h95
                have HF := Lib.hid (HBADk.out (.inl (by have := HDV.out; omega)))
                go_wp2_with (go_at_call 102; refine (HLC.out _).mono ?_; rintro e w2 ⟨rfl, rfl⟩)
                go_ret2
                exact ⟨0, _, rfl, .inr (.inl rfl), by decide, fun h1 h2 => (HF.out h1 h2).elim, HB.out⟩
              · have f3 : ((c : Int) == 95) = false := beq_eq_false_iff_ne.2 (by omega)
                clear h95
                have HF := Lib.hid (HBADk.out (.inl (by have := HDV.out; omega)))
                go_wp2_with (go_at_call 102; refine (HLC.out _).mono ?_; rintro e w2 ⟨rfl, rfl⟩)
                go_ret2
                exact ⟨0, _, rfl, .inr (.inl rfl), by decide, fun h1 h2 => (HF.out h1 h2).elim, HB.out⟩
            · have f1 : ¬ (48 : Int) ≤ (c : Int) := by omega
              have f3 : ((c : Int) == 95) = false := beq_eq_false_iff_ne.2 (by omega)
              clear hdig
              have HF := Lib.hid (HBADk.out (.inl (by have := HDV.out; omega)))
              go_wp2_with (go_at_call 102; refine (HLC.out _).mono ?_; rintro e w2 ⟨rfl, rfl⟩)
              go_ret2
              exact ⟨0, _, rfl, .inr (.inl rfl), by decide, fun h1 h2 => (HF.out h1 h2).elim, HB.out⟩
        · rw [if_neg (fun h => hlet ⟨h.1, by omega⟩)] at hdv
          have HDV := Lib.hid hdv
          clear hdv
          by_cases l1 : 97 ≤ lc
          · have e1 : (97 : Int) ≤ (lc : Int) := by omega
            have e2 : ¬ (lc : Int) ≤ 122 := by omega
            clear hlet
            by_cases g1 : 48 ≤ c
            · have f1 : (48 : Int) ≤ (c : Int) := by omega
              have f2 : ¬ (c : Int) ≤ 57 := by omega
              clear hdig
              by_cases h95 : c = 95
              · have f3 : ((c : Int) == 95) = true := by rw [h95]; rfl
                clear h95
                have HF := Lib.hid (HBADk.out (.inl (by have := HDV.out; omega)))
                go_wp2_with (go_at_call 102; refine (HLC.out _).mono ?_; rintro e w2 ⟨rfl, rfl⟩)
                go_ret2
                exact ⟨0, _, rfl, .inr (.inl rfl), by decide, fun h1 h2 => (HF.out h1 h2).elim, HB.out⟩
              · have f3 : ((c : Int) == 95) = false := beq_eq_false_iff_ne.2 (by omega)
                clear h95
                have HF := Lib.hid (HBADk.out (.inl (by have := HDV.out; omega)))
                go_wp2_with (go_at_call 102; refine (HLC.out _).mono ?_; rintro e w2 ⟨rfl, rfl⟩)
                go_ret2
                exact ⟨0, _, rfl, .inr (.inl rfl), by decide, fun h1 h2 => (HF.out h1 h2).elim, HB.out⟩
            · have f1 : ¬ (48 : Int) ≤ (c : Int) := by omega
              have f3 : ((c : Int) == 95) = false := beq_eq_false_iff_ne.2 (by omega)
              clear hdig
              have HF := Lib.hid (HBADk.out (.inl (by have := HDV.out; omega)))
              go_wp2_with (go_at_call 102; refine (HLC.out _).mono ?_; rintro e w2 ⟨rfl, rfl⟩)
              go_ret2
              exact ⟨0, _, rfl, .inr (.inl rfl), by decide, fun h1 h2 => (HF.out h1 h2).elim, HB.out⟩
          · have e1 : ¬ (97 : Int) ≤ (lc : Int) := by omega
            clear hlet
            by_cases g1 : 48 ≤ c
            · have f1 : (48 : Int) ≤ (c : Int) := by omega
              have f2 : ¬ (c : Int) ≤ 57 := by omega
              clear hdig
              by_cases h95 : c = 95
              · have f3 : ((c : Int) == 95) = true := by rw [h95]; rfl
                clear h95
                have HF := Lib.hid (HBADk.out (.inl (by have := HDV.out; omega)))
                go_wp2_with (go_at_call 102; refine (HLC.out _).mono ?_; rintro e w2 ⟨rfl, rfl⟩)
                go_ret2
                exact ⟨0, _, rfl, .inr (.inl rfl), by decide, fun h1 h2 => (HF.out h1 h2).elim, HB.out⟩
              · have f3 : ((c : Int) == 95) = false := beq_eq_false_iff_ne.2 (by omega)
                clear h95
                have HF := Lib.hid (HBADk.out (.inl (by have := HDV.out; omega)))
                go_wp2_with (go_at_call 102; refine (HLC.out _).mono ?_; rintro e w2 ⟨rfl, rfl⟩)
                go_ret2
                exact ⟨0, _, rfl, .inr (.inl rfl), by decide, fun h1 h2 => (HF.out h1 h2).elim, HB.out⟩
            · have f1 : ¬ (48 : Int) ≤ (c : Int) := by omega
              have f3 : ((c : Int) == 95) = false := beq_eq_false_iff_ne.2 (by omega)
              clear hdig
              have HF := Lib.hid (HBADk.out (.inl (by have := HDV.out; omega)))
              go_wp2_with (go_at_call 102; refine (HLC.out _).mono ?_; rintro e w2 ⟨rfl, rfl⟩)
              go_ret2
              exact ⟨0, _, rfl, .inr (.inl rfl), by decide, fun h1 h2 => (HF.out h1 h2).elim, HB.out⟩
    · obtain rfl : k = t.size := by omega
      have HF := Lib.hid (HFIN.out N HPU.out)
      go_wp2_with fail
      go_ret2
      exact ⟨N, _, rfl, .inl rfl, by have := HN.out; rw [← HMX.out] at this; omega, fun h1 h2 => ⟨rfl, HF.out h1 h2⟩, HB.out⟩
end Go.Proofs.YtklkgacgmcnlnaaDoor
