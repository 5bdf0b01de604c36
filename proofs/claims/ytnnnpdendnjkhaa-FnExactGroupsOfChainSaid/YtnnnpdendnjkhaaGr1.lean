/-
  To which states one comes: spec.l07Reach.
-/
import Derived.Test.YtnnnpdendnjkhaaQue
import Derived.Test.YtnnnpdendnjkhaaGrp
import Derived.Test.YtnnnpdendnjkhaaStep
import Derived.Test.YtnnnpdendnjkhaaVa3
import Derived.Test.YtnnnpdendnjkhaaToi
import Derived.BigQuiet
import Derived.Deep.DeepCutAuto
import Derived.Deep.QuietTactic
namespace Go.Proofs.Ytnnnpdendnjkhaa
open Go Go.RowKit Ieee

theorem info_bool : (Try.prog.info? 4).map (fun i => (i.zero, i.size, i.bytes)) = some (some (.bool false), 1, 1) := by kernel_rfl
/-- a step from a state to another one that is greater than 0 -/
def adjC (xs : List Nat) (n i k : Nat) : Bool := decide (0 < key single (stepOf xs n i k))
theorem adj_eq {xs : List Nat} {n i k : Nat} (hl : xs.length = n * n) (hp : xs.all partB = true) (hi : i < n) (hk : k < n) : (FloatKind.f32.format.order (stepOf xs n i k) 0 == some .gt) = adjC xs n i k := by
  have := gt_key (f := single) (by decide) (part_key (stepOf_part hl hp hi hk)).1 zero_notNan
  rw [key_zero] at this
  exact this
def nlv (l : List Nat) : List Value := l.map fun n => Value.int .i64 (n : Nat)
theorem nlv_len (l : List Nat) : (nlv l).length = l.length := by simp [nlv]
theorem nlv_snoc (l : List Nat) (k : Nat) : nlv (l ++ [k]) = nlv l ++ [.int .i64 (k : Nat)] := by simp [nlv]
/-- a search: what has been seen lies in block g, the list behind it -/
def SRel (w : World) (g n : Nat) (S : (Nat → Bool) × List Nat) (L : Option Addr) (c : Nat) (wr : World) : Prop :=
  Below w.heap.size w wr ∧ wr.rowIs g 4 n (fun q => .bool (S.1 q)) ∧ wr.ownsRow (g + 1) 2 1 (.slice L S.2.length c) S.2.length (nlv S.2)
theorem SRel.mark {w wr : World} {g n c k : Nat} {S : (Nat → Bool) × List Nat} {L : Option Addr} (h : SRel w g n S L c wr) (hg : w.heap.size ≤ g) : SRel w g n (upd S.1 k, S.2) L c (wr.setCell ⟨g, k, none⟩ (.bool true)) := by
  refine ⟨below_set h.1 _ _ hg, (h.2.1.set k _).congr fun i _ => ?_, ownsRow_setCell_below h.2.2 (a := ⟨g, k, none⟩) (show g < g + 1 by omega) _⟩
  show (if i = k then Value.bool true else Value.bool (S.1 i)) = Value.bool (if i = k then true else S.1 i)
  split <;> rfl
theorem SRel.push {w wr w3 : World} {g n c k b cap : Nat} {f : Nat → Bool} {l : List Nat} {L : Option Addr} {o : Obj} (h : SRel w g n (f, l) L c wr) (hg : w.heap.size ≤ g) (hgr : (wr.alloc o).grownBy w3 (Value.slice L l.length c).ownBlock)
    (ho : w3.ownsRow (g + 1) 2 1 (.slice (some ⟨b, 0, none⟩) (l.length + 1) cap) (l.length + 1) (nlv l ++ [.int .i64 (k : Nat)])) : SRel w g n (f, l ++ [k]) (some ⟨b, 0, none⟩) cap w3 := by
  have hl := h.2.1.lt
  refine ⟨(below_al h.1 o).grown hgr (by have := h.1.size; simp; omega) (fun j hj => by have := (h.2.2.lt j hj).1; omega), ?_, ?_⟩
  · refine (h.2.1.alloc o).of_block (hgr.block g (by simp; omega) fun e => ?_)
    have := (h.2.2.lt g e.symm).1
    omega
  · show w3.ownsRow _ _ _ (.slice _ (l ++ [k]).length _) (l ++ [k]).length (nlv (l ++ [k]))
    rw [List.length_append, nlv_snoc]
    exact ho
theorem SRel.dn {w wr : World} {g n c : Nat} {S : (Nat → Bool) × List Nat} {L : Option Addr} (h : SRel w g n S L c wr) (m : Nat) : SRel w g n S L c (wr.drewN m) := ⟨below_dn h.1 m, h.2.1.of_block rfl, own_below h.2.2 (below_dn (Below.refl _ _) m)⟩
theorem SRel.form {w wr : World} {g n c : Nat} {S : (Nat → Bool) × List Nat} {L : Option Addr} (h : SRel w g n S L c wr) (h0 : 0 < S.2.length) : ∃ b, L = some ⟨b, 0, none⟩ ∧ g + 1 ≤ b ∧ b < wr.heap.size ∧ ∀ j (hj : j < S.2.length), wr.cell? ⟨b, j, none⟩ = some (.int .i64 (S.2[j] : Nat)) := by
  obtain ⟨b, cap, hv, hb, hlt⟩ := h.2.2.form h0
  injection hv with hA _ _
  refine ⟨b, hA, hb, hlt, fun j hj => ?_⟩
  subst hA
  have h1 := h.2.2.cells (g := b) rfl j (.int .i64 (S.2[j] : Nat)) (by unfold nlv; rw [List.getElem?_map, List.getElem?_eq_getElem hj]; rfl)
  have hadd : (⟨b, 0, none⟩ : Addr).add j = ⟨b, j, none⟩ := by unfold Addr.add; split <;> simp_all
  rw [hadd] at h1
  exact h1
theorem visit_yes {adj : Nat → Nat → Bool} {p k : Nat} {S : (Nat → Bool) × List Nat} (h1 : S.1 k = false) (h2 : adj p k = true) : visit adj p S k = (upd S.1 k, S.2 ++ [k]) := by unfold visit; rw [h1, h2]; rfl
theorem visit_seen {adj : Nat → Nat → Bool} {p k : Nat} {S : (Nat → Bool) × List Nat} (h1 : S.1 k = true) : visit adj p S k = S := by unfold visit; rw [h1]; rfl
theorem visit_not {adj : Nat → Nat → Bool} {p k : Nat} {S : (Nat → Bool) × List Nat} (h2 : adj p k = false) : visit adj p S k = S := by unfold visit; rw [h2, Bool.and_false]; rfl
/-- the state of a search within its step p -/
theorem mid_facts {adj : Nat → Nat → Bool} {n i p m : Nat} (hi : i < n) (hp : p < (search adj n i p).2.length) (hm : m ≤ n) :
    (visits adj ((search adj n i p).2.getD p 0) (search adj n i p) m).2.length ≤ n ∧ (∀ j ∈ (visits adj ((search adj n i p).2.getD p 0) (search adj n i p) m).2, j < n) ∧
    p < (visits adj ((search adj n i p).2.getD p 0) (search adj n i p) m).2.length ∧ (visits adj ((search adj n i p).2.getD p 0) (search adj n i p) m).2.getD p 0 = (search adj n i p).2.getD p 0 := by
  have hi0 := search_inv (adj := adj) hi p
  have hg : (search adj n i p).2.getD p 0 = (search adj n i p).2[p] := by rw [List.getD_eq_getElem?_getD, List.getElem?_eq_getElem hp]; rfl
  have hiv := inv_visits hi0 (hi0.2.2.2.2 _ (List.getElem_mem hp)) m hm
  rw [hg]
  have hpre := visits_keeps (adj := adj) (p := (search adj n i p).2[p]) (S := search adj n i p) m
  have hlen := hpre.length_le
  refine ⟨nodup_len n _ hiv.1 hiv.2.1, hiv.2.1, by omega, ?_⟩
  rw [List.getD_eq_getElem?_getD, List.getElem?_eq_getElem (by omega), ← hpre.getElem hp]
  rfl
set_option maxRecDepth 100000 in
set_option maxHeartbeats 1600000 in
theorem l07Reach_any (p n i : Nat) (A : Option Addr) (xs : List Nat) (c : Nat) (w : World) (h0 : w.cell? ⟨p, 0, none⟩ = some (.int .i64 n)) (h1 : w.cell? ⟨p, 1, none⟩ = some (.slice A xs.length c)) (hn : 1 ≤ n ∧ n ≤ 12) (hl : xs.length = n * n) (hp : xs.all partB = true) (hi : i < n) (h : Rd w w.heap.size A (fl xs)) :
    Calls Try.prog 32 #[.pointer (some ⟨p, 0, none⟩), .int .i64 i] w (fun e w' => ∃ g, e = .returned (.slice (some ⟨g, 0, none⟩) n n) ∧ w.heap.size ≤ g ∧ w'.rowIs g 4 n (fun q => .bool (seenB (adjC xs n) n i q)) ∧ Below w.heap.size w w') := by
  obtain ⟨i0, hi0, hz0, hz1, hz2⟩ := info_parts info_bool
  obtain ⟨j0, hj0, hy0, hy1, hy2⟩ := info_parts info_i64
  have hmk := run_make_row (P := Try.prog) 54 4 i0 (.bool false) Try.underlying54 hi0 hz0 hz1 rfl .i64 .i64 n (by rw [hz2]; omega) (by omega)
  have H0 : Hid (∀ W, Below w.heap.size w W → W.cell? ⟨p, 0, none⟩ = some (.int .i64 n) ∧ W.cell? ⟨p, 1, none⟩ = some (.slice A xs.length c)) := Lib.hid fun W hW => ⟨keepC hW h0, keepC hW h1⟩
  have HR := Lib.hid h
  have HADJ := Lib.hid fun j k hj hk => adj_eq (xs := xs) (n := n) (i := j) (k := k) hl hp hj hk
  have HMID := Lib.hid fun q m hq hm => mid_facts (adj := adjC xs n) (n := n) (i := i) (p := q) (m := m) hi hq hm
  have HSL := Lib.hid fun q => search_len (adj := adjC xs n) (n := n) hi q
  have HSTOP := Lib.hid fun q hq => search_stop (adj := adjC xs n) (n := n) (p := q) hi hq
  obtain ⟨n1, n2⟩ := hn
  have hi' : (i : Int) < (n : Int) := by omega
  have hpw : p < w.heap.size := lt_of_cell (a := ⟨p, 0, none⟩) h0
  have HL := Lib.hid hl
  clear hl hp h hi0 hz0 hz1 hz2
  go_enter Try.func32, Try.ntmps32
  go_upto_region 2 with fail
  generalize hW1 : World.alloc w _ = w1
  have r1 : w1.rowIs w.heap.size 4 n (fun _ => .bool false) := by rw [← hW1]; exact World.rowIs_made w (.bool false) n _
  have b1 : Below w.heap.size w w1 := by rw [← hW1]; exact below_al (Below.refl _ _) _
  have z1 : w1.heap.size = w.heap.size + 1 := by rw [← hW1]; simp
  clear hW1
  have c1 := r1.cell hi
  have f1 := r1.frozen i
  have R1 := Lib.hid r1
  have B1 := Lib.hid b1
  clear r1 b1
  go_upto_region 5 with fail
  generalize hW3 : World.alloc (World.setCell w1 _ _) _ = w3
  have s3 : SRel w w.heap.size n (search (adjC xs n) n i 0) (some ⟨w1.heap.size, 0, none⟩) 1 w3 := by
    rw [← hW3]
    refine ⟨below_al (below_set B1.out _ _ (Nat.le_refl _)) _, ((R1.out.set i _).congr fun q _ => ?_).alloc _, ?_⟩
    · show (if q = i then Value.bool true else Value.bool false) = Value.bool (decide (q = i))
      by_cases e : q = i <;> simp [e]
    · have h := World.ownsRow_lit (w1.setCell ⟨w.heap.size, i, none⟩ (.bool true)) #[.int .i64 (i : Nat)] 1 (base := w.heap.size + 1) (e := 2) (size := 1) (by simp [World.setCell]; omega) (by unfold maxLen; omega) rfl
      have hz : (w1.setCell ⟨w.heap.size, i, none⟩ (.bool true)).heap.size = w1.heap.size := by simp [World.setCell]
      rw [hz] at h
      exact h
  clear hW3 c1 f1
  have S3 := Lib.hid s3
  clear s3
  rw [z1] at S3
  clear z1 B1 R1
  go_loopw [6, 7, 8] (fun lv kv _ wr => ∃ (q : Nat) (L : Option Addr) (c' : Nat), kv = .int .i64 q ∧ lv = .slice L (search (adjC xs n) n i q).2.length c' ∧ q ≤ (search (adjC xs n) n i q).2.length ∧ SRel w w.heap.size n (search (adjC xs n) n i q) L c' wr) (fun _ kv _ _ => n - (intOf kv).toNat)
  case atStart => exact ⟨0, _, 1, rfl, rfl, Nat.zero_le _, S3.out⟩
  case round =>
    obtain ⟨q, L, c', rfl, rfl, hq, hs⟩ := hrel
    rename World => wr
    have HS := Lib.hid hs
    have hsl := HSL.out q
    clear hs S3
    by_cases hlt : q < (search (adjC xs n) n i q).2.length
    · have HMIDq := Lib.hid fun m hm => HMID.out q m hlt hm
      have HNX : Hid (search (adjC xs n) n i (q + 1) = visits (adjC xs n) ((search (adjC xs n) n i q).2.getD q 0) (search (adjC xs n) n i q) n) := Lib.hid (search_succ hlt)
      have hjn : (search (adjC xs n) n i q).2.getD q 0 < n := by
        have h := (HMIDq.out 0 (by omega)).2.1
        rw [List.getD_eq_getElem?_getD, List.getElem?_eq_getElem hlt]
        exact h _ (List.getElem_mem hlt)
      have hqn : q < n := by omega
      generalize hj : (search (adjC xs n) n i q).2.getD q 0 = j at *
      generalize hSE : search (adjC xs n) n i q = S at *
      have HV0 : Hid (visits (adjC xs n) j S 0 = S) := Lib.hid rfl
      have hlt' : (q : Int) < (S.2.length : Int) := by omega
      clear hj hSE HMID HSL HSTOP
      go_wp2_with fail
      go_loopw [6, 8] (fun lv jv wq => ∃ (m : Nat) (L' : Option Addr) (d : Nat), jv = .int .i64 m ∧ m ≤ n ∧ lv = .slice L' (visits (adjC xs n) j S m).2.length d ∧ SRel w w.heap.size n (visits (adjC xs n) j S m) L' d wq) (fun _ jv _ => n - (intOf jv).toNat)
      case atStart => exact ⟨0, L, c', rfl, Nat.zero_le _, rfl, HS.out⟩
      case round =>
        obtain ⟨m, L', d, rfl, hm, rfl, hs⟩ := hrel
        rename World => wq
        have HSQ := Lib.hid hs
        obtain ⟨e0, e1⟩ := H0.out wq hs.1
        have hpq : p < wq.heap.size := Nat.lt_of_lt_of_le hpw hs.1.size
        clear hs
        by_cases hmn : m < n
        · obtain ⟨k1, k2, k3, k4⟩ := HMIDq.out m hm
          have HVS : Hid (visits (adjC xs n) j S (m + 1) = visit (adjC xs n) j (visits (adjC xs n) j S m) m) := Lib.hid (visits_succ _ _ _ _)
          have hADJ := HADJ.out j m hjn hmn
          generalize visits (adjC xs n) j S m = T at *
          obtain ⟨f, l⟩ := T
          dsimp only at *
          obtain ⟨bL, rfl, hbL, hbl2, hcl⟩ := HSQ.out.form (by show 0 < l.length; omega)
          have hcq := hcl q k3
          have hcs := HSQ.out.2.1.cell hmn
          have hfs := HSQ.out.2.1.frozen m
          dsimp only at hcs hcq
          have hlq : l[q] = j := by rw [← k4, List.getD_eq_getElem?_getD, List.getElem?_eq_getElem k3]; rfl
          rw [hlq] at hcq
          have k3' : (q : Int) < (l.length : Int) := by omega
          have hmn' : (m : Int) < (n : Int) := by omega
          clear hcl k4 hlq k2
          cases hf : f m with
          | true =>
            have HR1 : Hid (visit (adjC xs n) j (f, l) m = (f, l)) := Lib.hid (visit_seen hf)
            rw [hf] at hcs
            clear hf
            go_wp2_with fail
            go_region
            go_wp2_with fail
            go_roundw
            case rel => exact ⟨m + 1, some ⟨bL, 0, none⟩, d, by go_num, by omega, by rw [HVS.out, HR1.out], by rw [HVS.out, HR1.out]; exact HSQ.out.dn 1⟩
            case measure => simp [intOf]; omega
          | false =>
            rw [hf] at hcs
            have hix : j * n + m < xs.length := by rw [HL.out]; exact idx_lt hjn hmn
            obtain ⟨bA, oA, hAe, hbA, hcA⟩ := (HR.out.at_ HSQ.out.1).flAt hix
            subst hAe
            have hst : xs[j * n + m] = stepOf xs n j m := by unfold stepOf; rw [List.getD_eq_getElem?_getD, List.getElem?_eq_getElem hix]; rfl
            rw [hst] at hcA
            have b2 : n * n ≤ 144 := Nat.mul_le_mul n2 n2
            have hxl : xs.length ≤ 144 := by rw [HL.out]; omega
            have e2 : ((j : Int) * (n : Int)) = ((j * n : Nat) : Int) := by push_cast; rfl
            have w2 : IntKind.i64.wrap ((j : Int) * (n : Int)) = ((j * n : Nat) : Int) := by rw [e2]; exact IntWalk.i64_in _ (by omega)
            have w3' : IntKind.i64.wrap (((j * n : Nat) : Int) + (m : Int)) = ((j * n + m : Nat) : Int) := by rw [show ((j * n : Nat) : Int) + (m : Int) = ((j * n + m : Nat) : Int) by omega]; exact IntWalk.i64_in _ (by omega)
            have hix' : ((j * n + m : Nat) : Int) < (xs.length : Int) := by omega
            clear hst e2 b2
            generalize stepOf xs n j m = v at *
            generalize hjm : j * n + m = jm at *
            generalize j * n = jj at *
            have HF := Lib.hid hf
            clear hf
            cases ha : adjC xs n j m with
            | false =>
              have HR1 : Hid (visit (adjC xs n) j (f, l) m = (f, l)) := Lib.hid (visit_not ha)
              rw [ha] at hADJ
              clear ha hix hjm
              go_wp2_with fail
              go_region
              go_wp2_with fail
              go_roundw
              case rel => exact ⟨m + 1, some ⟨bL, 0, none⟩, d, by go_num, by omega, by rw [HVS.out, HR1.out], by rw [HVS.out, HR1.out]; exact HSQ.out.dn 1⟩
              case measure => simp [intOf]; omega
            | true =>
              have HR1 : Hid (visit (adjC xs n) j (f, l) m = (upd f m, l ++ [m])) := Lib.hid (visit_yes HF.out ha)
              rw [ha] at hADJ
              clear ha hix hjm
              go_wp2_with fail
              go_region
              go_upto_region 12 with fail
              generalize hW9 : World.drew (World.setCell _ _ _) = w9
              have s9 : SRel w w.heap.size n (upd f m, l) (some ⟨bL, 0, none⟩) d w9 := by rw [← hW9]; exact (HSQ.out.mark (Nat.le_refl _)).dn 1
              have S9 := Lib.hid s9
              have z9 : w.heap.size + 1 ≤ w9.heap.size := s9.2.1.lt
              clear hW9 s9 hcs hfs hcq hcA
              go_wp2_with (refine wpList_append_lies _ rfl _ _ _ rfl (w.heap.size + 1) 2 j0 _ 1 8 Try.underlying26 hj0 hy0 hy1 hy2 rfl (by omega) (.slice (some ⟨bL, 0, none⟩) l.length d) l.length (nlv l) (by rfl) (S9.out.2.2.alloc _) ⟨w9.heap.size, 0, none⟩ 1 1 [.int .i64 (m : Nat)] (by rfl) (by rfl) (World.news_of_block (cs := #[.int .i64 (m : Nat)]) (t := 2) (fr := (0, 0)) (heap_alloc_new w9 _)) (by simp [Value.oneCell']) (by omega) (by unfold maxLen; omega) (by omega) (by simp; omega) (w9.heap.size + 1) (by simp) ?_; intro g9 cap9 w10 hown9 hgrow hat hlt9; have S10 := Lib.hid (S9.out.push (Nat.le_refl _) hgrow hown9); clear hown9 hgrow hat)
              go_roundw
              case rel => exact ⟨m + 1, some ⟨g9, 0, none⟩, cap9, by go_num, by omega, by rw [HVS.out, HR1.out, List.length_append]; rfl, by rw [HVS.out, HR1.out]; exact S10.out⟩
              case measure => simp [intOf]; omega
        · obtain rfl : m = n := by omega
          have HV := Lib.hid HNX.out
          go_wp2_with fail
          go_roundw
          case rel => exact ⟨q + 1, L', d, by go_num, by rw [HV.out], by rw [HV.out]; have := (HMIDq.out m (Nat.le_refl _)).2.2.1; omega, by rw [HV.out]; exact HSQ.out⟩
          case measure => simp [intOf]; omega
    · have HQ : Hid (search (adjC xs n) n i q = search (adjC xs n) n i n) := Lib.hid (HSTOP.out q (by omega))
      have hlt' : ¬ (q : Int) < ((search (adjC xs n) n i q).2.length : Int) := by omega
      go_wp2_with fail
      go_ret
      exact ⟨w.heap.size, rfl, Nat.le_refl _, by unfold seenB; rw [← HQ.out]; exact HS.out.2.1, HS.out.1⟩
end Go.Proofs.Ytnnnpdendnjkhaa
