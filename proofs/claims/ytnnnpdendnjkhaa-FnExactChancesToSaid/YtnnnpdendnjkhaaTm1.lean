/-
  spec.l07To: the rows are laid one behind another, with their right sides beside them, and solved.
-/
import Derived.Test.YtnnnpdendnjkhaaAv1
import Derived.Test.YtnnnpdendnjkhaaJoi2
import Derived.BigRegion
import Derived.Deep.RegionLaw
import Derived.Deep.RegionHeld3
namespace Go.Proofs.Ytnnnpdendnjkhaa
open Go Go.RowKit Ieee
attribute [local go_sem] run_store_float

/-- the first so many numbers of rows of m numbers, one behind another -/
def flT (C : Nat → Nat → Nat) (m p : Nat) : List Nat := (List.range p).map fun q => C (q / m) (q % m)
theorem flT_len (C : Nat → Nat → Nat) (m p : Nat) : (flT C m p).length = p := by simp [flT]
theorem flT_succ (C : Nat → Nat → Nat) {m i k : Nat} (hk : k < m) : fl (flT C m (i * m + k + 1)) = fl (flT C m (i * m + k)) ++ [.float .f32 (C i k)] := by
  have e1 : (i * m + k) / m = i := by rw [Nat.mul_comm, Nat.mul_add_div (by omega), Nat.div_eq_of_lt hk, Nat.add_zero]
  have e2 : (i * m + k) % m = k := by rw [Nat.mul_comm, Nat.mul_add_mod, Nat.mod_eq_of_lt hk]
  unfold flT
  rw [List.range_succ, List.map_append]
  simp [fl, e1, e2]
def riT (f : Nat → Nat) (p : Nat) : List Nat := (List.range p).map f
theorem riT_len (f : Nat → Nat) (p : Nat) : (riT f p).length = p := by simp [riT]
theorem riT_succ (f : Nat → Nat) (p : Nat) : fl (riT f (p + 1)) = fl (riT f p) ++ [.float .f32 (f p)] := by
  unfold riT
  rw [List.range_succ, List.map_append]
  simp [fl]
/-- two rows of single numbers that the call owns, apart -/
structure TW (W : World) (base : Nat) (va : Value) (na : Nat) (xs : List Value) (vb : Value) (nb : Nat) (ys : List Value) : Prop where
  a : W.ownsRow base 42 1 va na xs
  b : W.ownsRow base 42 1 vb nb ys
  ab : ∀ j, va.ownBlock = some j → vb.ownBlock ≠ some j
variable {W W' W0 W1 W2 W3 : World} {base na nb : Nat} {va vb : Value} {xs ys : List Value}
theorem TW.keep (h : TW W base va na xs vb nb ys) (hb : Below W.heap.size W W') : TW W' base va na xs vb nb ys := ⟨own_below h.a hb, own_below h.b hb, h.ab⟩
theorem TW.addA {g cap : Nat} {x : Value} {o : Obj} (h : TW W0 base va na xs vb nb ys) (hgr : (W0.alloc o).grownBy W3 va.ownBlock) (ho : W3.ownsRow base 42 1 (.slice (some ⟨g, 0, none⟩) (na + 1) cap) (na + 1) (xs ++ [x])) (hat : va.ownBlock = some g ∨ g = W0.heap.size + 1) :
    TW W3 base (.slice (some ⟨g, 0, none⟩) (na + 1) cap) (na + 1) (xs ++ [x]) vb nb ys := by
  have h2 := h.keep (below_al (Below.refl _ _) o)
  refine ⟨ho, h2.b.kept hgr (own_neF fun j hb ha => h.ab j ha hb), fun j hj e => ?_⟩
  have hj : g = j := Option.some.inj hj
  subst hj
  have := (h.b.lt g e).2
  rcases hat with hat | hat
  · exact h.ab _ hat e
  · omega
theorem TW.addB {g cap : Nat} {x : Value} {o : Obj} (h : TW W0 base va na xs vb nb ys) (hgr : (W0.alloc o).grownBy W3 vb.ownBlock) (ho : W3.ownsRow base 42 1 (.slice (some ⟨g, 0, none⟩) (nb + 1) cap) (nb + 1) (ys ++ [x])) (hat : vb.ownBlock = some g ∨ g = W0.heap.size + 1) :
    TW W3 base va na xs (.slice (some ⟨g, 0, none⟩) (nb + 1) cap) (nb + 1) (ys ++ [x]) := by
  have h2 := h.keep (below_al (Below.refl _ _) o)
  refine ⟨h2.a.kept hgr (own_neF fun j ha hb => h.ab j ha hb), ho, fun j hj e => ?_⟩
  have e : g = j := Option.some.inj e
  subst e
  have := (h.a.lt g hj).2
  rcases hat with hat | hat
  · exact h.ab _ hj hat
  · omega
theorem TW.belowA {w : World} {o : Obj} (h : TW W0 base va na xs vb nb ys) (hw : Below w.heap.size w W0) (hb : w.heap.size ≤ base) (hgr : (W0.alloc o).grownBy W3 va.ownBlock) : Below w.heap.size w W3 :=
  (below_al hw o).grown hgr (below_al hw o).size fun j hj => by have := (h.a.lt j hj).1; omega
theorem TW.belowB {w : World} {o : Obj} (h : TW W0 base va na xs vb nb ys) (hw : Below w.heap.size w W0) (hb : w.heap.size ≤ base) (hgr : (W0.alloc o).grownBy W3 vb.ownBlock) : Below w.heap.size w W3 :=
  (below_al hw o).grown hgr (below_al hw o).size fun j hj => by have := (h.b.lt j hj).1; omega
theorem TW.start (W : World) : TW ((W.alloc (.cells #[] 42)).alloc (.cells #[] 42)) W.heap.size (.slice (some ⟨W.heap.size, 0, none⟩) 0 0) 0 [] (.slice (some ⟨W.heap.size + 1, 0, none⟩) 0 0) 0 [] := by
  have h1 := World.ownsRow_made W #[] 0 (base := W.heap.size) (e := 42) (size := 1) (Nat.le_refl _) (by unfold maxLen; omega) rfl
  have h2 := World.ownsRow_made (W.alloc (.cells #[] 42)) #[] 0 (base := W.heap.size) (e := 42) (size := 1) (by simp) (by unfold maxLen; omega) rfl
  rw [World.size_alloc] at h2
  exact ⟨own_below h1 (below_al (Below.refl _ _) _), h2, fun j hj e => by
    have hj : W.heap.size = j := Option.some.inj hj
    have e : W.heap.size + 1 = j := Option.some.inj e
    omega⟩
theorem own_frozen {W : World} {base g k c : Nat} {e : TypeId} {xs : List Value} (ho : W.ownsRow base e 1 (.slice (some ⟨g, 0, none⟩) k c) k xs) (j : Nat) : W.frozen? ⟨g, j, none⟩ = false := by
  rcases ho.2 with ⟨hv, _⟩ | ⟨g', cap', cur, hv, hb, hh, _⟩
  · cases hv
  · cases hv
    simp [World.frozen?, hh]
theorem own_cellAt {W : World} {base g k c j : Nat} {e : TypeId} {xs : List Value} {x : Value} (ho : W.ownsRow base e 1 (.slice (some ⟨g, 0, none⟩) k c) k xs) (hj : xs[j]? = some x) : W.cell? ⟨g, j, none⟩ = some x := by
  have h1 := ho.cells (g := g) rfl j x hj
  have hadd : (⟨g, 0, none⟩ : Addr).add j = ⟨g, j, none⟩ := by unfold Addr.add; split <;> simp_all
  rw [hadd] at h1
  exact h1
theorem TW.toF {A B ca cb n : Nat} {C : Nat → Nat → Nat} (h : TW W base (.slice (some ⟨A, 0, none⟩) (n * n) ca) (n * n) (fl (flT C n (n * n))) (.slice (some ⟨B, 0, none⟩) n cb) n (fl (riT (fun r => C r n) n))) : FM W base n A B C := by
  refine ⟨fun r c hr hc => ?_, fun r c hr hc => own_frozen h.a _, fun r hr => ?_, fun r hr => own_frozen h.b _, fun e => h.ab A rfl (by rw [e]; rfl), (h.a.lt A rfl).1, (h.b.lt B rfl).1⟩
  · refine own_cellAt h.a ?_
    have hi := idx_lt hr hc
    have e1 : ixM n r c / n = r := by unfold ixM; rw [Nat.mul_comm, Nat.mul_add_div (by omega), Nat.div_eq_of_lt hc, Nat.add_zero]
    have e2 : ixM n r c % n = c := by unfold ixM; rw [Nat.mul_comm, Nat.mul_add_mod, Nat.mod_eq_of_lt hc]
    unfold fl flT
    rw [List.map_map, List.getElem?_map, List.getElem?_range (by exact hi)]
    show some (Value.float .f32 (C (ixM n r c / n) (ixM n r c % n))) = _
    rw [e1, e2]
  · refine own_cellAt h.b ?_
    unfold fl riT
    rw [List.map_map, List.getElem?_map, List.getElem?_range hr]
    rfl

set_option maxRecDepth 100000 in
set_option maxHeartbeats 3200000 in
theorem l07To_any (ones : Bool) (n goal bc : Nat) (A : Option Addr) (xs : List Nat) (c : Nat) (ls : List Nat) (Ao : Option Addr) (co : Nat) (w : World) (hn : 1 ≤ n ∧ n ≤ 12) (hl : xs.length = n * n) (hp : xs.all partB = true) (hA : Rd w w.heap.size A (fl xs))
    (h0 : w.cell? ⟨bc, 0, none⟩ = some (.int .i64 n)) (h1 : w.cell? ⟨bc, 1, none⟩ = some (.slice A xs.length c)) (hS : Rd w w.heap.size Ao (nlv ls)) (hls : ls.length ≤ n) (hlt : ∀ i, i < ls.length → ls.getD i 0 < n) (hg : goal < n) :
    Calls Try.prog 55 #[.pointer (some ⟨bc, 0, none⟩), .slice Ao ls.length co, .int .i64 goal, .bool ones] w (svOut (solM (cofM xs n ls (fun i => if ones = true then oneF else stepOf xs n i goal)) ls.length) w.heap.size w) := by
  obtain ⟨i0, hi0, hz0, hz1, hz2⟩ := info_parts info_f32
  have hnn : n * n ≤ 144 := Nat.mul_le_mul hn.2 hn.2
  have hmm : ls.length * ls.length ≤ 144 := Nat.mul_le_mul (show ls.length ≤ 12 by omega) (show ls.length ≤ 12 by omega)
  have HSOL := Lib.hid fun N A B ca cb base g W h2 h3 h4 h5 => l07Solve_any ls.length N A B ca cb base g (cofM xs n ls (fun i => if ones = true then oneF else stepOf xs n i goal)) W (by omega) h2 h3 h4 h5
  have HRUN := Lib.hid fun r k (hr : r < ls.length) (hk : k < ls.length) => cofM_run (right := fun i => if ones = true then oneF else stepOf xs n i goal) hl hp (hlt r hr) (hlt k hk) hk
  have HRIGHT : Hid (∀ r, cofM xs n ls (fun i => if ones = true then oneF else stepOf xs n i goal) r ls.length = if ones = true then oneF else stepOf xs n (ls.getD r 0) goal) := Lib.hid fun r => cofM_right (right := fun i => if ones = true then oneF else stepOf xs n i goal)
  have HIX : Hid (∀ r k, r < n → k < n → IntKind.i64.wrap ((r : Int) * (n : Int)) = (muM n r : Int) ∧ IntKind.i64.wrap ((muM n r : Int) + (k : Int)) = (ixM n r k : Int) ∧ (ixM n r k : Int) < (xs.length : Int)) := Lib.hid fun r k hr hk => by
    have h1 := idx_lt hr hk
    have h2 : r * n ≤ r * n + k := Nat.le_add_right _ _
    unfold muM ixM
    exact ⟨mulW (by omega), addW (by omega), by omega⟩
  have HXC : Hid (∃ xb xo, A = some ⟨xb, xo, none⟩ ∧ ∀ W r k, Below w.heap.size w W → r < n → k < n → W.cell? ⟨xb, xo + ixM n r k, none⟩ = some (.float .f32 (stepOf xs n r k))) := Lib.hid (by
    obtain ⟨b1, o1, e, hb1, hc1⟩ := hA (by rw [fl_len, hl]; exact Nat.mul_pos (by omega) (by omega))
    exact ⟨b1, o1, e, fun W r k hW hr hk => keepC hW (stepOf_cell hl hr hk hc1)⟩)
  have HSC : Hid (0 < ls.length → ∃ ob oo, Ao = some ⟨ob, oo, none⟩ ∧ ∀ W k, Below w.heap.size w W → k < ls.length → W.cell? ⟨ob, oo + k, none⟩ = some (.int .i64 ((ls.getD k 0 : Nat) : Int))) := Lib.hid fun hpos => by
    obtain ⟨b, off, e, hb, hc⟩ := hS (by rw [nlv_len]; exact hpos)
    refine ⟨b, off, e, fun W k hW hk => keepC hW ?_⟩
    rw [hc k (by rw [nlv_len]; exact hk), List.getD_eq_getElem?_getD, List.getElem?_eq_getElem hk]
    simp [nlv]
  have HLT := Lib.hid hlt
  have HBX : Hid (∀ W, Below w.heap.size w W → W.cell? ⟨bc, 0, none⟩ = some (.int .i64 n) ∧ W.cell? ⟨bc, 1, none⟩ = some (.slice A xs.length c)) := Lib.hid fun W hW => ⟨keepC hW h0, keepC hW h1⟩
  obtain ⟨n1, n2⟩ := hn
  have hm12 : ls.length ≤ 12 := by omega
  have HMM := Lib.hid hmm
  clear hl hp hA h0 h1 hS hls hlt hnn hmm
  generalize hC : cofM xs n ls (fun i => if ones = true then oneF else stepOf xs n i goal) = C at *
  generalize hm : ls.length = m at *
  have HFS : Hid (∀ i k, k < m → fl (flT C m (i * m + k + 1)) = fl (flT C m (i * m + k)) ++ [.float .f32 (C i k)]) := Lib.hid fun i k hk => flT_succ C hk
  have HRS : Hid (∀ i, fl (riT (fun r => C r m) (i + 1)) = fl (riT (fun r => C r m) i) ++ [.float .f32 (C i m)]) := Lib.hid fun i => riT_succ _ i
  have HMB : Hid (∀ i k, i < m → k ≤ m → i * m + k ≤ 144) := Lib.hid fun i k hi hk => by
    have := Nat.mul_le_mul_right m (show i + 1 ≤ m by omega)
    rw [Nat.add_mul, Nat.one_mul] at this
    have := HMM.out
    omega
  clear hC hm
  obtain ⟨xb, xo, rfl, HXC'⟩ := HXC.out
  have HXC := Lib.hid HXC'
  clear HXC'
  go_enter Try.func55, Try.ntmps55
  go_upto_region 3 with fail
  have START := Lib.hid (show TW ((w.alloc (.cells #[] 42)).alloc (.cells #[] 42)) w.heap.size (.slice (some ⟨w.heap.size, 0, none⟩) 0 0) 0 [] (.slice (some ⟨w.heap.size + 1, 0, none⟩) 0 0) 0 [] ∧ Below w.heap.size w ((w.alloc (.cells #[] 42)).alloc (.cells #[] 42)) from ⟨TW.start w, below_al (below_al (Below.refl _ _) _) _⟩)
  generalize World.alloc (World.alloc w _) _ = W2 at *
  go_wp2_with fail
  go_loopw [10, 11, 19] (fun av bv iv wr => ∃ (q GA ca GB cb : Nat), q ≤ m ∧ iv = .int .i64 q ∧ av = .slice (some ⟨GA, 0, none⟩) (q * m) ca ∧ bv = .slice (some ⟨GB, 0, none⟩) q cb ∧ TW wr w.heap.size av (q * m) (fl (flT C m (q * m))) bv q (fl (riT (fun r => C r m) q)) ∧ Below w.heap.size w wr) (fun _ _ iv _ => m - (intOf iv).toNat)
  case atStart => exact ⟨0, w.heap.size, 0, w.heap.size + 1, 0, Nat.zero_le _, rfl, by rw [Nat.zero_mul], rfl, by rw [Nat.zero_mul]; exact START.out.1, START.out.2⟩
  case round =>
    clear START
    obtain ⟨q, GA, ca, GB, cb, hq, rfl, rfl, rfl, htw, hbw⟩ := hrel
    rename World => wr
    have T := Lib.hid htw
    have B := Lib.hid hbw
    clear htw hbw
    by_cases hqm : q < m
    · have HQN := Lib.hid (HLT.out q hqm)
      have HFQ := Lib.hid fun k hk => HFS.out q k hk
      have HRUN' := Lib.hid fun k hk => HRUN.out q k hqm hk
      have HMB' := Lib.hid fun k hk => HMB.out q k hqm hk
      have HRQ := Lib.hid (HRS.out q)
      have HRT := Lib.hid (HRIGHT.out q)
      obtain ⟨ob, oo, rfl, HSC'⟩ := HSC.out (by omega)
      have HSC2 := Lib.hid HSC'
      clear HSC'
      generalize hsq : ls.getD q 0 = sq at *
      have HSQ := Lib.hid hsq
      clear hsq
      have HNX : Hid ((q + 1) * m = q * m + m) := Lib.hid (Nat.succ_mul q m)
      go_wp2_with fail
      go_loopw [10, 24] (fun av kv wk => ∃ (k GA ca : Nat), k ≤ m ∧ kv = .int .i64 k ∧ av = .slice (some ⟨GA, 0, none⟩) (q * m + k) ca ∧ TW wk w.heap.size av (q * m + k) (fl (flT C m (q * m + k))) (.slice (some ⟨GB, 0, none⟩) q cb) q (fl (riT (fun r => C r m) q)) ∧ Below w.heap.size w wk) (fun _ kv _ => m - (intOf kv).toNat)
      case atStart => exact ⟨0, GA, ca, Nat.zero_le _, rfl, rfl, T.out, B.out⟩
      case round =>
        clear T B
        obtain ⟨k, GA, ca, hk, rfl, rfl, htw, hbw⟩ := hrel
        rename World => wk
        have T := Lib.hid htw
        have B := Lib.hid hbw
        clear htw hbw
        by_cases hkm : k < m
        · obtain ⟨e0, e1⟩ := HBX.out wk B.out
          have y0 := HSC2.out wk q B.out hqm
          have y1 := HSC2.out wk k B.out hkm
          rw [HSQ.out] at y0
          have HKN := Lib.hid (HLT.out k hkm)
          have hrun := HRUN'.out k hkm
          generalize hsk : ls.getD k 0 = sk at *
          have y2 := HXC.out wk sq sk B.out HQN.out HKN.out
          obtain ⟨i1, i2, i3⟩ := HIX.out sq sk HQN.out HKN.out
          have HKP : Hid (∀ W, Below w.heap.size w W → W.cell? ⟨bc, 0, none⟩ = some (.int .i64 n) ∧ W.cell? ⟨bc, 1, none⟩ = some (.slice (some ⟨xb, xo, none⟩) xs.length c) ∧ W.cell? ⟨ob, oo + q, none⟩ = some (.int .i64 (sq : Nat)) ∧ W.cell? ⟨ob, oo + k, none⟩ = some (.int .i64 (sk : Nat)) ∧ W.cell? ⟨xb, xo + ixM n sq sk, none⟩ = some (.float .f32 (stepOf xs n sq sk))) := Lib.hid fun W hW => ⟨(HBX.out W hW).1, (HBX.out W hW).2, by rw [← HSQ.out]; exact HSC2.out W q hW hqm, by rw [← hsk]; exact HSC2.out W k hW hkm, HXC.out W sq sk hW HQN.out HKN.out⟩
          have HFK := Lib.hid (HFQ.out k hkm)
          have hpb := HMB'.out k hk
          have HTA := Lib.hid T.out.a
          have hzb := B.out.size
          generalize hpp : q * m + k = p at *
          have HPP := Lib.hid hpp
          clear hpp hsk
          generalize stepOf xs n sq sk = st at *
          generalize C q k = v at *
          generalize fl (flT C m p) = lp at *
          by_cases hqk : q = k
          · rw [decide_eq_true hqk] at hrun
            have e1' := fun w => run_float_arith (P := Try.prog) w .sub 42 .f32 _ _ _ hrun
            rw [show unitF true = 1065353216 from rfl] at e1'
            have hqi : ((q : Int) == (k : Int)) = true := by rw [beq_iff_eq]; omega
            clear hrun
            have HQK := Lib.hid hqk
            clear hqk
            go_wp2_with fail
            go_region_held3 (fun W => W.cell? ⟨bc, 0, none⟩ = some (.int .i64 n) ∧ W.cell? ⟨bc, 1, none⟩ = some (.slice (some ⟨xb, xo, none⟩) xs.length c) ∧ W.cell? ⟨ob, oo + q, none⟩ = some (.int .i64 (sq : Nat)) ∧ W.cell? ⟨ob, oo + k, none⟩ = some (.int .i64 (sk : Nat)) ∧ W.cell? ⟨xb, xo + ixM n sq sk, none⟩ = some (.float .f32 st))
              (first | exact HKP.out _ (below_dr B.out) | exact HKP.out _ (below_al (below_dr B.out) _) | exact HKP.out _ B3.out)
              (first
                | (refine step_append_lies _ (by rfl) _ _ _ (by rfl) w.heap.size 42 i0 _ 1 4 Try.underlying22 hi0 hz0 hz1 hz2 rfl (by omega) (.slice (some ⟨GA, 0, none⟩) p ca) p lp (by rfl) ((own_below HTA.out (below_dr (Below.refl _ _))).alloc _) ⟨wk.heap.size, 0, none⟩ 1 1 [.float .f32 v] (by rfl) (by rfl) (World.news_of_block (cs := #[.float .f32 v]) (t := 42) (fr := (0, 0)) (heap_alloc_new wk.drew _)) (by simp [Value.oneCell']) (by omega) (by unfold maxLen; omega) (by omega) (by simp; omega) (wk.heap.size + 1) (by simp) ?_; intro g cap w3 hown3 hgrow hat hlt3; have T3 := Lib.hid ((T.out.keep (below_dr (Below.refl _ _))).addA hgrow hown3 hat); have B3 := Lib.hid (T.out.keep (below_dr (Below.refl _ _)) |>.belowA (below_dr B.out) (Nat.le_refl _) hgrow); clear hgrow hat hown3))
            go_wp2_with fail
            go_roundw
            case rel => exact ⟨k + 1, g, cap, by omega, by go_num, by rw [← Nat.add_assoc, HPP.out], by rw [← Nat.add_assoc, HPP.out, HFK.out]; exact T3.out, B3.out⟩
            case measure => simp [intOf]; omega
          · rw [decide_eq_false hqk] at hrun
            have e1' := fun w => run_float_arith (P := Try.prog) w .sub 42 .f32 _ _ _ hrun
            rw [show unitF false = 0 from rfl] at e1'
            have hqi : ((q : Int) == (k : Int)) = false := by rw [Bool.eq_false_iff, ne_eq, beq_iff_eq]; omega
            clear hrun hqk
            go_wp2_with fail
            go_region_held3 (fun W => W.cell? ⟨bc, 0, none⟩ = some (.int .i64 n) ∧ W.cell? ⟨bc, 1, none⟩ = some (.slice (some ⟨xb, xo, none⟩) xs.length c) ∧ W.cell? ⟨ob, oo + q, none⟩ = some (.int .i64 (sq : Nat)) ∧ W.cell? ⟨ob, oo + k, none⟩ = some (.int .i64 (sk : Nat)) ∧ W.cell? ⟨xb, xo + ixM n sq sk, none⟩ = some (.float .f32 st))
              (first | exact HKP.out _ (below_dr B.out) | exact HKP.out _ (below_al (below_dr B.out) _) | exact HKP.out _ B3.out)
              (first
                | (refine step_append_lies _ (by rfl) _ _ _ (by rfl) w.heap.size 42 i0 _ 1 4 Try.underlying22 hi0 hz0 hz1 hz2 rfl (by omega) (.slice (some ⟨GA, 0, none⟩) p ca) p lp (by rfl) ((own_below HTA.out (below_dr (Below.refl _ _))).alloc _) ⟨wk.heap.size, 0, none⟩ 1 1 [.float .f32 v] (by rfl) (by rfl) (World.news_of_block (cs := #[.float .f32 v]) (t := 42) (fr := (0, 0)) (heap_alloc_new wk.drew _)) (by simp [Value.oneCell']) (by omega) (by unfold maxLen; omega) (by omega) (by simp; omega) (wk.heap.size + 1) (by simp) ?_; intro g cap w3 hown3 hgrow hat hlt3; have T3 := Lib.hid ((T.out.keep (below_dr (Below.refl _ _))).addA hgrow hown3 hat); have B3 := Lib.hid (T.out.keep (below_dr (Below.refl _ _)) |>.belowA (below_dr B.out) (Nat.le_refl _) hgrow); clear hgrow hat hown3))
            go_wp2_with fail
            go_roundw
            case rel => exact ⟨k + 1, g, cap, by omega, by go_num, by rw [← Nat.add_assoc, HPP.out], by rw [← Nat.add_assoc, HPP.out, HFK.out]; exact T3.out, B3.out⟩
            case measure => simp [intOf]; omega
        · obtain rfl : m = k := by omega
          have hpb := HMB'.out m (Nat.le_refl _)
          rw [← HNX.out] at T ⊢
          have HTB := Lib.hid T.out.b
          have hzb := B.out.size
          cases ones with
          | true =>
            have HRV : Hid (C q m = 1065353216) := Lib.hid (by rw [HRT.out, if_pos rfl]; rfl)
            rw [HRV.out] at HRQ
            clear HRT HRV
            generalize fl (riT (fun r => C r m) q) = lq at *
            go_wp2_with (refine wpList_append_lies _ rfl _ _ _ rfl w.heap.size 42 i0 _ 1 4 Try.underlying22 hi0 hz0 hz1 hz2 rfl (by omega) (.slice (some ⟨GB, 0, none⟩) q cb) q lq (by rfl) (HTB.out.alloc _) ⟨wk.heap.size, 0, none⟩ 1 1 [.float .f32 1065353216] (by rfl) (by rfl) (World.news_of_block (cs := #[.float .f32 1065353216]) (t := 42) (fr := (0, 0)) (heap_alloc_new wk _)) (by simp [Value.oneCell']) (by omega) (by unfold maxLen; omega) (by omega) (by simp; omega) (wk.heap.size + 1) (by simp) ?_; intro g cap w3 hown3 hgrow hat hlt3; have T3 := Lib.hid (T.out.addB hgrow hown3 hat); have B3 := Lib.hid (T.out.belowB B.out (Nat.le_refl _) hgrow); clear hgrow hat hown3)
            go_roundw
            case rel => exact ⟨q + 1, GA, ca, g, cap, by omega, by go_num, rfl, rfl, by rw [HRQ.out]; exact T3.out, B3.out⟩
            case measure => simp [intOf]; omega
          | false =>
            have HRV : Hid (C q m = stepOf xs n sq goal) := Lib.hid (by rw [HRT.out]; rfl)
            rw [HRV.out] at HRQ
            obtain ⟨e0, e1⟩ := HBX.out wk B.out
            have y0 := HSC2.out wk q B.out hqm
            rw [HSQ.out] at y0
            have y2 := HXC.out wk sq goal B.out HQN.out hg
            obtain ⟨i1, i2, i3⟩ := HIX.out sq goal HQN.out hg
            have HKP : Hid (∀ W, Below w.heap.size w W → W.cell? ⟨bc, 0, none⟩ = some (.int .i64 n) ∧ W.cell? ⟨bc, 1, none⟩ = some (.slice (some ⟨xb, xo, none⟩) xs.length c) ∧ W.cell? ⟨ob, oo + q, none⟩ = some (.int .i64 (sq : Nat)) ∧ W.cell? ⟨xb, xo + ixM n sq goal, none⟩ = some (.float .f32 (stepOf xs n sq goal))) := Lib.hid fun W hW => ⟨(HBX.out W hW).1, (HBX.out W hW).2, by rw [← HSQ.out]; exact HSC2.out W q hW hqm, HXC.out W sq goal hW HQN.out hg⟩
            clear HRT HRV
            generalize fl (riT (fun r => C r m) q) = lq at *
            generalize stepOf xs n sq goal = st at *
            go_wp2_with fail
            go_region_held3 (fun W => W.cell? ⟨bc, 0, none⟩ = some (.int .i64 n) ∧ W.cell? ⟨bc, 1, none⟩ = some (.slice (some ⟨xb, xo, none⟩) xs.length c) ∧ W.cell? ⟨ob, oo + q, none⟩ = some (.int .i64 (sq : Nat)) ∧ W.cell? ⟨xb, xo + ixM n sq goal, none⟩ = some (.float .f32 st))
              (first | exact HKP.out _ (below_dr B.out) | exact HKP.out _ (below_al (below_dr B.out) _) | exact HKP.out _ B3.out)
              (first
                | (refine step_append_lies _ (by rfl) _ _ _ (by rfl) w.heap.size 42 i0 _ 1 4 Try.underlying22 hi0 hz0 hz1 hz2 rfl (by omega) (.slice (some ⟨GB, 0, none⟩) q cb) q lq (by rfl) ((own_below HTB.out (below_dr (Below.refl _ _))).alloc _) ⟨wk.heap.size, 0, none⟩ 1 1 [.float .f32 st] (by rfl) (by rfl) (World.news_of_block (cs := #[.float .f32 st]) (t := 42) (fr := (0, 0)) (heap_alloc_new wk.drew _)) (by simp [Value.oneCell']) (by omega) (by unfold maxLen; omega) (by omega) (by simp; omega) (wk.heap.size + 1) (by simp) ?_; intro g cap w3 hown3 hgrow hat hlt3; have T3 := Lib.hid ((T.out.keep (below_dr (Below.refl _ _))).addB hgrow hown3 hat); have B3 := Lib.hid (T.out.keep (below_dr (Below.refl _ _)) |>.belowB (below_dr B.out) (Nat.le_refl _) hgrow); clear hgrow hat hown3))
            go_wp2_with fail
            go_roundw
            case rel => exact ⟨q + 1, GA, ca, g, cap, by omega, by go_num, rfl, rfl, by rw [HRQ.out]; exact T3.out, B3.out⟩
            case measure => simp [intOf]; omega
    · obtain rfl : m = q := by omega
      have HSV := Lib.hid (HSOL.out (m * m) GA GB ca cb w.heap.size C wr rfl T.out.toF (fun r c _ _ => sameN.refl _) B.out.size)
      clear HSOL HRUN HRIGHT HIX HXC HSC HLT HBX HFS HRS HMB T
      generalize m * m = mm at *
      go_wp2_with fail
      refine HSV.out.mono ?_
      rintro e w5 ⟨A5, c5, ys, rfl, hys, hblk, hrd, hb5⟩
      have OUT := Lib.hid (show ∀ xs, solM C m = some xs → ys = xs from hys)
      have B5 := Lib.hid (B.out.trans hb5)
      have RD := Lib.hid hrd
      have BLK := Lib.hid hblk
      clear hb5 hrd hblk hys HSV
      go_wp2_with fail
      refine bodyPost_ret (v := .tuple #[.slice A5 ys.length c5, .bool (solM C m).isSome]) (by simp [results, Try.results55, go_sem]) rfl ?_
      exact ⟨A5, c5, ys, rfl, OUT.out, BLK.out, RD.out, B5.out⟩
end Go.Proofs.Ytnnnpdendnjkhaa
