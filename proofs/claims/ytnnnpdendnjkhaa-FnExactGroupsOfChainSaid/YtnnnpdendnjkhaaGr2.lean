/-
  To which states one comes: impl.Chain.reachedFrom, whose list is shortened at its front.
-/
import Derived.Test.YtnnnpdendnjkhaaGr1
import Derived.Deep.RegionHeld3
import Derived.Deep.LoopGhost
namespace Go.Proofs.Ytnnnpdendnjkhaa
open Go Go.RowKit Ieee

/-- a search with a queue: what has been seen lies in block g, the queue behind it holds what is still to be looked at -/
def QRel (w : World) (g n : Nat) (S : (Nat → Bool) × List Nat) (p : Nat) (v : Value) (wr : World) : Prop :=
  Below w.heap.size w wr ∧ wr.rowIs g 4 n (fun q => .bool (S.1 q)) ∧ QOwn wr (g + 1) 2 v (nlv (S.2.drop p))
theorem QRel.mark {w wr : World} {g n p k : Nat} {S : (Nat → Bool) × List Nat} {v : Value} (h : QRel w g n S p v wr) (hg : w.heap.size ≤ g) : QRel w g n (upd S.1 k, S.2) p v (wr.setCell ⟨g, k, none⟩ (.bool true)) := by
  refine ⟨below_set h.1 _ _ hg, (h.2.1.set k _).congr fun i _ => ?_, ?_⟩
  · show (if i = k then Value.bool true else Value.bool (S.1 i)) = Value.bool (if i = k then true else S.1 i)
    split <;> rfl
  · refine h.2.2.far (grown_set (grown_refl wr (some g)) k _) (fun e => ?_)
    have := (h.2.2.lt e).1
    omega
theorem QRel.dn {w wr : World} {g n p : Nat} {S : (Nat → Bool) × List Nat} {v : Value} (h : QRel w g n S p v wr) (m : Nat) : QRel w g n S p v (wr.drewN m) := ⟨below_dn h.1 m, h.2.1.of_block rfl, h.2.2.below (below_dn (Below.refl _ _) m)⟩
theorem QRel.keep {w wr wr' : World} {g n p : Nat} {S : (Nat → Bool) × List Nat} {v : Value} (h : QRel w g n S p v wr) (hb : Below wr.heap.size wr wr') : QRel w g n S p v wr' := ⟨below_next h.1 hb, h.2.1.of_block (hb.block _ h.2.1.lt), h.2.2.below hb⟩
theorem QRel.push {w wr w3 : World} {g n p k : Nat} {f : Nat → Bool} {l : List Nat} {v v' : Value} {o : Obj} (h : QRel w g n (f, l) p v wr) (hp : p ≤ l.length) (hg : w.heap.size ≤ g) (hgr : (wr.alloc o).grownBy w3 v.ownBlock)
    (ho : QOwn w3 (g + 1) 2 v' (nlv (l.drop p) ++ [.int .i64 (k : Nat)])) : QRel w g n (f, l ++ [k]) p v' w3 := by
  have hl := h.2.1.lt
  refine ⟨(below_al h.1 o).grown hgr (by have := h.1.size; simp; omega) (fun j hj => by have := (h.2.2.lt hj).1; omega), ?_, ?_⟩
  · refine (h.2.1.alloc o).of_block (hgr.block g (by simp; omega) fun e => ?_)
    have := (h.2.2.lt e.symm).1
    omega
  · show QOwn w3 (g + 1) _ v' (nlv ((l ++ [k]).drop p))
    rw [List.drop_append_of_le_length hp, nlv_snoc]
    exact ho
set_option maxRecDepth 100000 in
set_option maxHeartbeats 1600000 in
theorem reachedFrom_any (n i : Nat) (A : Option Addr) (xs : List Nat) (c : Nat) (w : World) (hn : 1 ≤ n ∧ n ≤ 12) (hl : xs.length = n * n) (hp : xs.all partB = true) (hi : i < n) (h : Rd w w.heap.size A (fl xs)) :
    Calls Try.prog 34 #[.agg #[.int .i64 n, .slice A xs.length c], .int .i64 i] w (fun e w' => ∃ g, e = .returned (.slice (some ⟨g, 0, none⟩) n n) ∧ w.heap.size ≤ g ∧ w'.rowIs g 4 n (fun q => .bool (seenB (adjC xs n) n i q)) ∧ Below w.heap.size w w') := by
  obtain ⟨i0, hi0, hz0, hz1, hz2⟩ := info_parts info_bool
  obtain ⟨j0, hj0, hy0, hy1, hy2⟩ := info_parts info_i64
  have hmk := run_make_row (P := Try.prog) 54 4 i0 (.bool false) Try.underlying54 hi0 hz0 hz1 rfl .i64 .i64 n (by rw [hz2]; omega) (by omega)
  have HR := Lib.hid h
  have HSTEP := Lib.hid fun j k W hj hk hr => step_any n j k A xs c W hn.2 hj hk hl hr
  have HADJ := Lib.hid fun j k hj hk => adj_eq (xs := xs) (n := n) (i := j) (k := k) hl hp hj hk
  have HMID := Lib.hid fun q m hq hm => mid_facts (adj := adjC xs n) (n := n) (i := i) (p := q) (m := m) hi hq hm
  have HSL := Lib.hid fun q => search_len (adj := adjC xs n) (n := n) hi q
  have HSTOP := Lib.hid fun q hq => search_stop (adj := adjC xs n) (n := n) (p := q) hi hq
  obtain ⟨n1, n2⟩ := hn
  have hi' : (i : Int) < (n : Int) := by omega
  clear hl hp h hi0 hz0 hz1 hz2
  go_enter Try.func34, Try.ntmps34
  go_upto_region 2 with fail
  generalize hW2 : World.alloc (World.alloc (World.alloc w _) _) _ = w2
  obtain ⟨w1, hw1, hz1, hb1, c0, c1⟩ : ∃ w1, w1 = w.alloc (.cells #[.int .i64 n, .slice A xs.length c] 29) ∧ w1.heap.size = w.heap.size + 1 ∧ Below w.heap.size w w1 ∧ w1.cell? ⟨w.heap.size, 0, none⟩ = some (.int .i64 n) ∧ w1.cell? ⟨w.heap.size, 1, none⟩ = some (.slice A xs.length c) := ⟨_, rfl, by simp, below_al (Below.refl _ _) _, by simp [go_sem], by simp [go_sem]⟩
  rw [← hw1] at hW2
  have q2 : Below w1.heap.size w1 w2 ∧ w2.rowIs w1.heap.size 4 n (fun _ => .bool false) ∧ QOwn w2 (w1.heap.size + 1) 2 (.slice (some ⟨w1.heap.size + 1, 0, none⟩) 1 1) (nlv [i]) := by
    rw [← hW2]
    refine ⟨below_al (below_al (Below.refl _ _) _) _, (World.rowIs_made w1 (.bool false) n _).alloc _, ?_⟩
    have h := QOwn.start (w := w1.alloc (.cells (madeCells #[.bool false] n) 4)) (base := w1.heap.size + 1) (e := 2) (x := .int .i64 (i : Nat)) (by simp)
    rw [World.size_alloc] at h
    exact h
  obtain ⟨b2, r2, u2⟩ := q2
  have HBW1 := Lib.hid hb1
  have HBX : Hid (∀ W, Below w1.heap.size w1 W → W.cell? ⟨w.heap.size, 0, none⟩ = some (.int .i64 n) ∧ W.cell? ⟨w.heap.size, 1, none⟩ = some (.slice A xs.length c)) := Lib.hid fun W hW => ⟨keepC hW c0, keepC hW c1⟩
  have HRB : Hid (∀ W, Below w1.heap.size w1 W → Rd W W.heap.size A (fl xs)) := Lib.hid fun W hW => HR.out.at_ (below_next HBW1.out hW)
  have hc2 := r2.cell hi
  have hf2 := r2.frozen i
  have s2 : Hid (∀ W, W = w2.setCell ⟨w1.heap.size, i, none⟩ (.bool true) → QRel w1 w1.heap.size n (search (adjC xs n) n i 0) 0 (.slice (some ⟨w1.heap.size + 1, 0, none⟩) 1 1) W) := Lib.hid fun W hW => by
    subst hW
    have h0 : QRel w1 w1.heap.size n ((fun _ => false), [i]) 0 (.slice (some ⟨w1.heap.size + 1, 0, none⟩) 1 1) w2 := ⟨b2, r2, u2⟩
    have h1 := h0.mark (k := i) (Nat.le_refl _)
    refine ⟨h1.1, h1.2.1.congr fun q _ => ?_, h1.2.2⟩
    show Value.bool (if q = i then true else false) = Value.bool (decide (q = i))
    by_cases e : q = i <;> simp [e]
  rw [hz1] at hc2 hf2 s2
  clear hW2 hw1 hb1 c0 c1 b2 r2 u2 HR
  have hzz := hz1
  clear hz1
  go_upto_region 3 with fail
  generalize hW3 : World.setCell w2 _ _ = w3
  have S3 := Lib.hid (s2.out w3 hW3.symm)
  clear hW3 s2 hc2 hf2
  have HG : Hid (w1.heap.size ≤ w.heap.size + 1) := Lib.hid (by omega)
  generalize hg : w.heap.size + 1 = g at *
  go_loopg [6, 7, 23] n (fun gk ov _ _ wr => ∃ (q : Nat) (gq off d : Nat), gk + q = n ∧ ov = .slice (some ⟨gq, off, none⟩) ((search (adjC xs n) n i q).2.length - q) d ∧ q ≤ (search (adjC xs n) n i q).2.length ∧ QRel w1 g n (search (adjC xs n) n i q) q ov wr)
  case atStart => exact ⟨0, g + 1, 0, 1, rfl, rfl, Nat.zero_le _, S3.out⟩
  case round =>
    obtain ⟨q, gq, off, d, hgk, rfl, hq, hs⟩ := hrel
    have HS := Lib.hid hs
    have HGK := Lib.hid hgk
    have hsl := HSL.out q
    clear hs S3 hgk
    by_cases hlt : q < (search (adjC xs n) n i q).2.length
    · have HMIDq := Lib.hid fun m hm => HMID.out q m hlt hm
      have HNX : Hid (search (adjC xs n) n i (q + 1) = visits (adjC xs n) ((search (adjC xs n) n i q).2.getD q 0) (search (adjC xs n) n i q) n) := Lib.hid (search_succ hlt)
      have hjn : (search (adjC xs n) n i q).2.getD q 0 < n := by
        have h := (HMIDq.out 0 (by omega)).2.1
        rw [List.getD_eq_getElem?_getD, List.getElem?_eq_getElem hlt]
        exact h _ (List.getElem_mem hlt)
      have hqn : q < n := by omega
      generalize hj : (search (adjC xs n) n i q).2.getD q 0 = j at *
      generalize hSE : search (adjC xs n) n i q = S at *
      have HV0 : Hid (visits (adjC xs n) j S 0 = S) := Lib.hid rfl
      obtain ⟨e0, e1⟩ := HBX.out wr HS.out.1
      clear hj hSE HMID HSL HSTOP
      have hq1 : q + 1 ≤ S.2.length := hlt
      obtain ⟨K0, hK0⟩ : ∃ K0, S.2.length - q = K0 + 1 := ⟨S.2.length - q - 1, by omega⟩
      have HK0 := Lib.hid hK0
      have HLT := Lib.hid hlt
      rw [hK0]
      clear hK0 hlt hq
      go_wp2_with fail
      go_loopg [6, 7, 23] n (fun hk ov _ mv wq => ∃ (m gq off d : Nat), hk + m = n ∧ mv = .int .i64 m ∧ ov = .slice (some ⟨gq, off, none⟩) ((visits (adjC xs n) j S m).2.length - q) d ∧ QRel w1 g n (visits (adjC xs n) j S m) q ov wq)
      case atStart => exact ⟨0, gq, off, d, rfl, rfl, by rw [HV0.out, HK0.out], by rw [HV0.out, ← HK0.out]; exact HS.out⟩
      case round =>
        rename World => wq
        obtain ⟨m, gq, off, d, hhk, rfl, rfl, hs⟩ := hrel
        have HSQ := Lib.hid hs
        have HHK := Lib.hid hhk
        have hm : m ≤ n := by omega
        obtain ⟨e0, e1⟩ := HBX.out wq hs.1
        clear hs hhk
        by_cases hmn : m < n
        · obtain ⟨k1, k2, k3, k4⟩ := HMIDq.out m hm
          have HVS : Hid (visits (adjC xs n) j S (m + 1) = visit (adjC xs n) j (visits (adjC xs n) j S m) m) := Lib.hid (visits_succ _ _ _ _)
          have hADJ := HADJ.out j m hjn hmn
          generalize visits (adjC xs n) j S m = T at *
          obtain ⟨f, l⟩ := T
          dsimp only at *
          have hcs := HSQ.out.2.1.cell hmn
          have hfs := HSQ.out.2.1.frozen m
          dsimp only at hcs
          have hlq : l[q] = j := by rw [← k4, List.getD_eq_getElem?_getD, List.getElem?_eq_getElem k3]; rfl
          have hcq : wq.cell? ⟨gq, off + 0, none⟩ = some (.int .i64 (j : Nat)) := by
            have h := HSQ.out.2.2.cell (j := 0) (by show 0 < (nlv (l.drop q)).length; rw [nlv_len, List.length_drop]; omega)
            rw [h]
            simp [nlv, hlq]
          rw [Nat.add_zero] at hcq
          obtain ⟨K, hK⟩ : ∃ K, l.length - q = K + 1 := ⟨l.length - q - 1, by omega⟩
          have HKL : Hid ((l ++ [m]).length - q = K + 1 + 1) := Lib.hid (by rw [List.length_append, List.length_singleton]; omega)
          have HK := Lib.hid hK
          have k3' : (0 : Int) < ((K + 1 : Nat) : Int) := by omega
          rw [hK]
          have hmn' : (m : Int) < (n : Int) := by omega
          have HPQ : Hid (q ≤ l.length) := Lib.hid (by omega)
          have HKb : Hid (K + 1 ≤ 1000) := Lib.hid (by omega)
          clear k4 hlq k2 hK k3
          cases hf : f m with
          | true =>
            have HR1 : Hid (visit (adjC xs n) j (f, l) m = (f, l)) := Lib.hid (visit_seen hf)
            rw [hf] at hcs
            clear hf
            go_wp2_with fail
            go_quiet (fail)
            go_wp2_with fail
            go_roundg (n - (m + 1))
            case measure => have := HHK.out; omega
            case rel => exact ⟨m + 1, gq, off, d, by omega, by go_num, by rw [HVS.out, HR1.out, ← HK.out], by rw [HVS.out, HR1.out, ← HK.out]; exact HSQ.out.dn _⟩
          | false =>
            rw [hf] at hcs
            have HF := Lib.hid hf
            have HSTj := Lib.hid fun W hr => HSTEP.out j m W hjn hmn hr
            have HRBq := Lib.hid (HRB.out wq HSQ.out.1)
            have HM3 : Hid (∀ W, Below wq.heap.size wq W → W.cell? ⟨w.heap.size, 0, none⟩ = some (.int .i64 n) ∧ W.cell? ⟨w.heap.size, 1, none⟩ = some (.slice A xs.length c) ∧ W.cell? ⟨gq, off, none⟩ = some (.int .i64 (j : Nat)) ∧ W.cell? ⟨g, m, none⟩ = some (.bool false)) := Lib.hid fun W hW => ⟨keepC hW e0, keepC hW e1, keepC hW hcq, keepC hW hcs⟩
            clear hf HSTEP
            generalize stepOf xs n j m = v at *
            have HRBd : Hid (Rd wq.drew wq.drew.heap.size A (fl xs)) := Lib.hid HRBq.out
            cases ha : adjC xs n j m with
            | false =>
              have HR1 : Hid (visit (adjC xs n) j (f, l) m = (f, l)) := Lib.hid (visit_not ha)
              rw [ha] at hADJ
              clear ha
              go_wp2_with fail
              go_region_held3 (fun W => W.cell? ⟨w.heap.size, 0, none⟩ = some (.int .i64 n) ∧ W.cell? ⟨w.heap.size, 1, none⟩ = some (.slice A xs.length c) ∧ W.cell? ⟨gq, off, none⟩ = some (.int .i64 (j : Nat)) ∧ W.cell? ⟨g, m, none⟩ = some (.bool false))
                (first | exact HM3.out _ bk9 | exact HM3.out _ (below_dr (Below.refl _ _)))
                (first
                  | (go_at_call 41; refine (HSTj.out _ HRBd.out).mono ?_; rintro e w9 ⟨rfl, hb9⟩; have bk9 : Below wq.heap.size wq w9 := below_next (below_dr (Below.refl _ _)) hb9; clear hb9))
              have S9 := Lib.hid (HSQ.out.keep bk9)
              clear bk9
              go_wp2_with fail
              go_roundg (n - (m + 1))
              case measure => have := HHK.out; omega
              case rel => exact ⟨m + 1, gq, off, d, by omega, by go_num, by rw [HVS.out, HR1.out, ← HK.out], by rw [HVS.out, HR1.out, ← HK.out]; exact S9.out⟩
            | true =>
              have HR1 : Hid (visit (adjC xs n) j (f, l) m = (upd f m, l ++ [m])) := Lib.hid (visit_yes HF.out ha)
              rw [ha] at hADJ
              clear ha
              go_wp2_with fail
              go_region_held3 (fun W => W.cell? ⟨w.heap.size, 0, none⟩ = some (.int .i64 n) ∧ W.cell? ⟨w.heap.size, 1, none⟩ = some (.slice A xs.length c) ∧ W.cell? ⟨gq, off, none⟩ = some (.int .i64 (j : Nat)) ∧ W.cell? ⟨g, m, none⟩ = some (.bool false))
                (first | exact HM3.out _ bk9 | exact HM3.out _ (below_dr (Below.refl _ _)))
                (first
                  | (go_at_call 41; refine (HSTj.out _ HRBd.out).mono ?_; rintro e w9 ⟨rfl, hb9⟩; have bk9 : Below wq.heap.size wq w9 := below_next (below_dr (Below.refl _ _)) hb9; clear hb9))
              have S9 := Lib.hid (HSQ.out.keep bk9)
              have hcs9 := S9.out.2.1.cell hmn
              have hfs9 := S9.out.2.1.frozen m
              dsimp only at hcs9
              rw [HF.out] at hcs9
              clear bk9
              go_upto_region 10 with fail
              generalize hW9 : World.setCell w9 _ _ = w10
              have s10 : QRel w1 g n (upd f m, l) q (.slice (some ⟨gq, off, none⟩) (K + 1) d) w10 := by rw [← hW9, ← HK.out]; exact S9.out.mark HG.out
              have S10 := Lib.hid s10
              have z10 : g + 1 ≤ w10.heap.size := s10.2.1.lt
              have hlK : (nlv (l.drop q)).length = K + 1 := by rw [nlv_len, List.length_drop]; exact HK.out
              have hlK2 : (nlv (l.drop q)).length ≤ 1048576 := by have := HKb.out; omega
              clear hW9 s10 hcs hfs hcq hcs9 hfs9 e0 e1
              go_wp2_with (refine wpList_append_queue _ rfl _ _ _ rfl (g + 1) 2 j0 _ Try.underlying26 hj0 hy0 hy1 (by omega) rfl (.slice (some ⟨gq, off, none⟩) (K + 1) d) (nlv (l.drop q)) (by rfl) (S10.out.2.2.below (below_al (Below.refl _ _) _)) hlK2 ⟨w10.heap.size, 0, none⟩ 1 (.int .i64 (m : Nat)) (by rfl) (by simp [go_sem]) rfl (by simp; omega) ?_; intro g9 off9 cap9 w11 hq9 hgr9 hat9; have S11 := Lib.hid (S10.out.push HPQ.out HG.out hgr9 hq9); rw [hlK] at S11 ⊢; clear hq9 hgr9 hat9)
              go_roundg (n - (m + 1))
              case measure => have := HHK.out; omega
              case rel => exact ⟨m + 1, g9, off9, cap9, by omega, by go_num, by rw [HVS.out, HR1.out, HKL.out], by rw [HVS.out, HR1.out]; exact S11.out⟩
        · have hnm : n = m := by omega
          subst hnm
          obtain ⟨k1, k2, k3, k4⟩ := HMIDq.out n (Nat.le_refl _)
          have HPOP : Hid (∀ d, QRel w1 g n (visits (adjC xs n) j S n) q (.slice (some ⟨gq, off, none⟩) ((visits (adjC xs n) j S n).2.length - q) d) wq → QRel w1 g n (visits (adjC xs n) j S n) (q + 1) (.slice (if d = 1 then some ⟨gq, off, none⟩ else some ⟨gq, off + 1, none⟩) ((visits (adjC xs n) j S n).2.length - (q + 1)) (d - 1)) wq ∧ (visits (adjC xs n) j S n).2.length - q ≤ d ∧ d ≤ maxLen) := Lib.hid fun d h => by
            obtain ⟨h1, h2, h3⟩ := h
            have e : nlv ((visits (adjC xs n) j S n).2.drop q) = .int .i64 ((visits (adjC xs n) j S n).2[q] : Nat) :: nlv ((visits (adjC xs n) j S n).2.drop (q + 1)) := by
              rw [List.drop_eq_getElem_cons k3]; rfl
            have hl : (nlv ((visits (adjC xs n) j S n).2.drop q)).length = (visits (adjC xs n) j S n).2.length - q := by rw [nlv_len, List.length_drop]
            refine ⟨⟨h1, h2, ?_⟩, ?_⟩
            · rw [e] at h3
              have h4 := h3.pop
              rw [Nat.sub_sub] at h4
              exact h4
            · obtain ⟨g', off', cap', cur, hv, hb, hh, x1, x2, x3, x4⟩ := h3
              injection hv with hA hn hc
              rw [hl] at x1
              omega
          obtain ⟨s1, s2, s3⟩ := HPOP.out d HSQ.out
          have S1 := Lib.hid s1
          clear HPOP s1
          generalize visits (adjC xs n) j S n = T at *
          obtain ⟨f, l⟩ := T
          dsimp only at *
          obtain ⟨K, hK⟩ : ∃ K, l.length - q = K + 1 := ⟨l.length - q - 1, by omega⟩
          have HK := Lib.hid hK
          have HK1 : Hid (l.length - (q + 1) = K) := Lib.hid (by omega)
          rw [hK] at s2 ⊢
          have HPQ : Hid (q + 1 ≤ l.length) := Lib.hid (by omega)
          have hdm : d ≤ 9223372036854775807 := by unfold maxLen at s3; omega
          have hd1 : 1 ≤ d := by omega
          rw [HK1.out] at S1
          clear s3 hK k2 k4
          by_cases hd : d = 1
          · subst hd
            have hK0 : K = 0 := by omega
            subst hK0
            go_wp2_with fail
            go_roundg (n - (q + 1))
            case measure => have := HGK.out; omega
            case rel => exact ⟨q + 1, gq, off, 0, by have := HGK.out; omega, by rw [HNX.out, HK1.out], by rw [HNX.out]; exact HPQ.out, by rw [HNX.out]; exact S1.out⟩
          · rw [if_neg hd] at S1
            go_wp2_with fail
            go_roundg (n - (q + 1))
            case measure => have := HGK.out; omega
            case rel => exact ⟨q + 1, gq, off + 1, d - 1, by have := HGK.out; omega, by rw [HNX.out, HK1.out], by rw [HNX.out]; exact HPQ.out, by rw [HNX.out]; exact S1.out⟩
    · have HQ : Hid (search (adjC xs n) n i q = search (adjC xs n) n i n) := Lib.hid (HSTOP.out q (by omega))
      have hlt' : ¬ (0 : Int) < (((search (adjC xs n) n i q).2.length - q : Nat) : Int) := by omega
      go_wp2_with fail
      go_ret
      exact ⟨g, rfl, by omega, by unfold seenB; rw [← HQ.out]; exact HS.out.2.1, (below_next HBW1.out HS.out.1)⟩
end Go.Proofs.Ytnnnpdendnjkhaa
