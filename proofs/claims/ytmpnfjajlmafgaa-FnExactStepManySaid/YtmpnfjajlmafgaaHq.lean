/-
  spec.l06Order, the walk.
-/
import Derived.Test.YtmpnfjajlmafgaaHo
import Derived.BigQuiet
namespace Go.Proofs.Ytmpnfjajlmafgaa
open Go Go.RowKit Go.Sort Ieee

theorem RW.swap0 {w W : World} {blk off : Nat} {d dk : Array Nat} (h : RW w blk off d dk W) {i j : Nat} (hi : i < d.size) (hj : j < d.size) {x y : Nat} (hx : dk[i]! = x) (hy : dk[j]! = y) : RW w blk off d (swp dk i j) ((W.setCell ⟨blk, off + i, none⟩ (.int .i64 (y : Nat))).setCell ⟨blk, off + j, none⟩ (.int .i64 (x : Nat))) := by
  obtain ⟨hh, hs, k, rfl⟩ := h
  subst hx hy
  refine ⟨hh, (size_swp dk i j).trans hs, k, ?_⟩
  rw [← putRow_swp eN w blk off dk i j (by omega) (by omega)]
  rfl
theorem info_int : (Try.prog.info? 3).map (fun i => (i.zero, i.size, i.bytes)) = some (some (.int .i64 0), 1, 8) := by kernel_rfl
set_option maxRecDepth 100000 in
set_option maxHeartbeats 3200000 in
theorem l06Order_any (A : Option Addr) (xs : List Nat) (c : Nat) (w : World) (hp : xs.all partB = true) (hl : 1 ≤ xs.length ∧ xs.length ≤ 64) (h : Rd w w.heap.size A (fl xs)) :
    Calls Try.prog 56 #[.slice A xs.length c] w (fun e w' => ∃ (A' : Option Addr) (c' : Nat) (d : Array Nat), e = .returned (.slice A' xs.length c') ∧ OrdTo (keyI xs) xs.length d ∧ w'.ownsRow w.heap.size 3 1 (.slice A' xs.length c') xs.length (il (dl d)) ∧ Below w.heap.size w w') := by
  obtain ⟨j0, hj0, hy0, hy1, hy2⟩ := info_parts info_int
  have START : Hid (Grow w 3 0 (il (dl #[])) (.slice (some ⟨w.heap.size, 0, none⟩) 0 0) (w.alloc (.cells #[] 3))) := Lib.hid (Grow.empty _ _)
  have HUP : Hid (∀ (d : Array Nat) (i : Nat), il (dl (d.push i)) = il (dl d) ++ [.int .i64 (i : Nat)]) := Lib.hid fun d i => by rw [dl_push]; simp [il]
  have HK := Lib.hid (keyOf_parts hp hl.2)
  have HAT : Hid (∃ b off, A = some ⟨b, off, none⟩ ∧ b < w.heap.size ∧ ∀ i, i < xs.length → w.cell? ⟨b, off + i, none⟩ = some (.float .f32 (xs.getD i 0))) := Lib.hid (by
    obtain ⟨b, off, e, hb, -⟩ := h.flAt (show 0 < xs.length by omega)
    refine ⟨b, off, e, hb, fun i hi => ?_⟩
    obtain ⟨b', off', e', -, hc⟩ := h.flAt hi
    rw [e] at e'
    cases e'
    rw [hc, List.getD_eq_getElem?_getD, List.getElem?_eq_getElem hi]
    rfl)
  have HCF : Hid (∀ x y, (FloatKind.f32.format.order (xs.getD x 0) (xs.getD y 0) == some .lt) = decide (cfI xs x y < 0)) := Lib.hid fun x y => by
    by_cases h1 : cfI xs x y < 0
    · rw [decide_eq_true h1, cfI_lt.1 h1]
      rfl
    · rw [decide_eq_false h1]
      exact beq_eq_false_iff_ne.2 fun h2 => h1 (cfI_lt.2 h2)
  have HOS := Lib.hid (OrdTo.start (keyI xs))
  clear hp h
  obtain ⟨b0, off0, rfl, hb0, hc0⟩ := HAT.out
  have HC0 := Lib.hid hc0
  clear hc0 HAT
  generalize keyI xs = K at *
  generalize cfI xs = cf at *
  generalize hgx : (fun i => xs.getD i 0) = fx at *
  have hgx' : ∀ i, xs.getD i 0 = fx i := fun i => by rw [← hgx]
  simp only [hgx'] at HCF HC0
  clear hgx hgx'
  generalize xs.length = n at *
  go_enter Try.func56, Try.ntmps56
  go_wp2_with fail
  go_loopw [3, 4] (fun v kv wr => ∃ (i : Nat) (d : Array Nat), i ≤ n ∧ kv = .int .i64 i ∧ OrdTo K i d ∧ Grow w 3 i (il (dl d)) v wr) (fun _ kv _ => n - (intOf kv).toNat)
  case atStart => exact ⟨0, #[], Nat.zero_le _, rfl, HOS.out, START.out⟩
  case round =>
    clear START HOS
    obtain ⟨i, d, hi, rfl, hod, hb, A1, c1, rfl, ho⟩ := hrel
    rename World => wr
    have HB := Lib.hid hb
    have HO := Lib.hid ho
    have HD := Lib.hid hod
    have hz := hb.size
    clear hb ho hod
    by_cases hlt : i < n
    · have hiz : (i : Int) < (n : Int) := by omega
      go_upto_region 6 with (refine wpList_append_lies _ rfl _ _ _ rfl w.heap.size 3 j0 _ 1 8 Try.underlying67 hj0 hy0 hy1 hy2 rfl (by omega) (.slice A1 i c1) i (il (dl d)) (by rfl) (HO.out.alloc _) ⟨wr.heap.size, 0, none⟩ 1 1 [.int .i64 (i : Nat)] (by rfl) (by rfl) (World.news_of_block (cs := #[.int .i64 (i : Nat)]) (t := 3) (fr := (0, 0)) (heap_alloc_new wr _)) (by simp [Value.oneCell']) (by omega) (by unfold maxLen; omega) (by omega) (by simp; omega) (wr.heap.size + 1) (by simp) ?_; intro g9 cap9 w9 hown9 hgrow hat hlt9; have G9 := Lib.hid (Grow.step HB.out HO.out (Below.refl _ _) hgrow hown9); have O9 := Lib.hid hown9; clear hown9 hgrow hat)
      have GG : Hid (Below w.heap.size w w9 ∧ w.heap.size ≤ g9 ∧ g9 < w9.heap.size ∧ Holds eN w9 g9 0 (d.push i) ∧ w9.ownsRow w.heap.size 3 1 (.slice (some ⟨g9, 0, none⟩) (i + 1) cap9) (i + 1) (il (dl (d.push i)))) := Lib.hid (by
        have ho := O9.out
        rw [← HUP.out] at ho
        obtain ⟨g, e, h1, h2, h3⟩ := own_holdsD ho (by simp [HD.out.z]) (by omega)
        cases e
        exact ⟨G9.out.1, h1, h2, h3, ho⟩)
      clear G9 O9 HB HO HUP hlt9
      have hds : (d.push i).size = i + 1 := by simp [HD.out.z]
      have R0 := Lib.hid (RW.start GG.out.2.2.2.1)
      have I0 := Lib.hid HD.out.begin
      go_wp2_with fail
      go_loopw [5] (fun jv wr => ∃ (j : Nat) (dj : Array Nat), j ≤ i ∧ jv = .int .i64 j ∧ InsJ K 0 i j (d.push i) dj ∧ RW w9 g9 0 (d.push i) dj wr) (fun jv _ => (intOf jv).toNat)
      case atStart => exact ⟨i, d.push i, Nat.le_refl _, rfl, I0.out, R0.out⟩
      case round =>
        clear I0 R0
        obtain ⟨j, dj, hji, rfl, hj, hw⟩ := hrel
        rename World => wz
        have HJ := Lib.hid hj
        have HZ : Hid (wz.cell? ⟨b0, off0 + dj[j]!, none⟩ = some (.float .f32 (fx dj[j]!)) ∧ (0 < j → wz.cell? ⟨b0, off0 + dj[j - 1]!, none⟩ = some (.float .f32 (fx dj[j - 1]!)))) := Lib.hid (by
          have hlow : Below w.heap.size w wz := GG.out.1.trans (hw.below GG.out.2.1)
          have hbd : ∀ p, 0 ≤ p → p < i + 1 → dj[p]! < n := hj.m.all (P := fun z => z < n) fun p _ hp => by
            rw [push_at]
            split
            · omega
            · have := HD.out.lt (p := p) (by have := HD.out.z; omega)
              omega
          exact ⟨(hlow.cell (p := ⟨b0, _, none⟩) hb0).trans (HC0.out _ (hbd j (Nat.zero_le _) (by omega))), fun hj0 => (hlow.cell (p := ⟨b0, _, none⟩) hb0).trans (HC0.out _ (hbd (j - 1) (Nat.zero_le _) (by omega)))⟩)
        by_cases hja : 0 < j
        · obtain ⟨jp, rfl⟩ : ∃ jp, j = jp + 1 := ⟨j - 1, by omega⟩
          have c1' := hw.cell (p := jp + 1) (by omega)
          have c2' := hw.cell (p := jp) (by omega)
          have f1 := hw.frozen (p := jp + 1) (by omega)
          have f2 := hw.frozen (p := jp) (by omega)
          rw [Nat.zero_add] at c1' c2' f1 f2
          have z1 := HZ.out.1
          have z2 := HZ.out.2 hja
          rw [Nat.add_sub_cancel] at z2
          have HPS : Hid (KeyOf K cf n) := HK
          have BD : Hid (dj[jp + 1]! < n ∧ dj[jp]! < dj[jp + 1]!) := Lib.hid (by
            have hbw : ∀ p, 0 ≤ p → p < i + 1 → dj[p]! < n := hj.m.all (P := fun z => z < n) fun p _ hp => by
              rw [push_at]
              split
              · omega
              · have := HD.out.lt (p := p) (by have := HD.out.z; omega)
                omega
            exact ⟨hbw _ (Nat.zero_le _) (by omega), hj.x jp (Nat.zero_le _) (by omega)⟩)
          have HKX := Lib.hid (HK.out dj[jp + 1]! dj[jp]! BD.out.1 BD.out.2)
          have HC2 := Lib.hid (HCF.out dj[jp + 1]! dj[jp]!)
          have SW := Lib.hid fun n => (hw.drewN n).swap0 (i := jp + 1) (j := jp) (by omega) (by omega) rfl rfl
          have HSZ := Lib.hid hw.s
          have HWN := Lib.hid fun n => hw.drewN n
          clear hj hw HPS HZ
          have hwp : IntKind.i64.wrap (((jp + 1 : Nat) : Int) - 1) = (jp : Int) := by rw [show ((jp + 1 : Nat) : Int) - 1 = (jp : Int) by omega]; exact IntWalk.i64_in _ (by omega)
          have jz : ((jp + 1 : Nat) : Int) < ((i + 1 : Nat) : Int) := by omega
          have jz1 : (jp : Int) < ((i + 1 : Nat) : Int) := by omega
          have hjaz : (0 : Int) < ((jp + 1 : Nat) : Int) := by omega
          have xn : ((dj[jp + 1]! : Nat) : Int) < (n : Int) := by have := BD.out; omega
          have yn : ((dj[jp]! : Nat) : Int) < (n : Int) := by have := BD.out; omega
          by_cases hlv : cf dj[jp + 1]! dj[jp]! < 0
          · have J9 := Lib.hid (HJ.out.step (Nat.zero_le _) hji (by rw [HSZ.out]; omega) (HKX.out.1 hlv))
            have hpq : jp + 1 ≠ jp := by omega
            have hqp : jp ≠ jp + 1 := by omega
            have hord := HC2.out
            rw [decide_eq_true hlv] at hord
            clear HKX BD HJ HWN HC2 hlv
            generalize dj[jp + 1]! = x at *
            generalize dj[jp]! = y at *
            generalize fx x = fxx at *
            generalize fx y = fxy at *
            generalize hp1 : jp + 1 = p1 at *
            generalize hi1 : i + 1 = i1 at *
            have HP1 := Lib.hid hp1
            have HI1 := Lib.hid hi1
            clear hp1 hi1
            go_wp2_with fail
            go_quiet (fail)
            have SW' := Lib.hid (SW.out nq)
            have c1q : (wz.drewN nq).cell? ⟨g9, p1, none⟩ = some (.int .i64 (x : Nat)) := c1'
            have c2q : (wz.drewN nq).cell? ⟨g9, jp, none⟩ = some (.int .i64 (y : Nat)) := c2'
            have f1q : (wz.drewN nq).frozen? ⟨g9, p1, none⟩ = false := f1
            have f2q : (wz.drewN nq).frozen? ⟨g9, jp, none⟩ = false := f2
            clear c1' c2' f1 f2 SW z1 z2
            generalize wz.drewN nq = wy at *
            rw [Nat.zero_add, Nat.zero_add] at SW'
            go_wp2_with fail
            go_roundw
            case rel => exact ⟨jp, _, by have := HP1.out; omega, by go_num, J9.out, SW'.out⟩
            case measure => have := HP1.out; simp [intOf]; omega
          · have O9 := Lib.hid (HD.out.next HJ.out (fun _ => by rw [Nat.add_sub_cancel]; exact HKX.out.2 hlv))
            have hord := HC2.out
            rw [decide_eq_false hlv] at hord
            clear HKX BD HJ SW f1 f2 HC2 hlv
            generalize dj[jp + 1]! = x at *
            generalize dj[jp]! = y at *
            generalize fx x = fxx at *
            generalize fx y = fxy at *
            generalize hp1 : jp + 1 = p1 at *
            have HP1 := Lib.hid hp1
            clear hp1
            go_wp2_with fail
            go_quiet (fail)
            have HW9 := Lib.hid (HWN.out nq)
            clear c1' c2' HWN z1 z2
            generalize wz.drewN nq = wy at *
            go_wp2_with fail
            go_roundw
            case rel => exact ⟨i + 1, _, by omega, by go_num, O9.out, GG.out.1.trans (HW9.out.below GG.out.2.1), _, _, rfl, HW9.out.own GG.out.2.2.2.2 hds⟩
            case measure => simp [intOf]; omega
        · obtain rfl : j = 0 := by omega
          have O9 := Lib.hid (HD.out.next HJ.out (fun h => absurd h (Nat.lt_irrefl _)))
          have HWN := Lib.hid fun n => hw.drewN n
          clear hj hw HJ HZ
          go_wp2_with fail
          go_quiet (fail)
          have HW9 := Lib.hid (HWN.out nq)
          clear HWN
          generalize wz.drewN nq = wy at *
          go_wp2_with fail
          go_roundw
          case rel => exact ⟨i + 1, _, by omega, by go_num, O9.out, GG.out.1.trans (HW9.out.below GG.out.2.1), _, _, rfl, HW9.out.own GG.out.2.2.2.2 hds⟩
          case measure => simp [intOf]; omega
    · obtain rfl : i = n := by omega
      go_wp2_with fail
      go_ret
      exact ⟨A1, c1, d, rfl, HD.out, HO.out, HB.out⟩
end Go.Proofs.Ytmpnfjajlmafgaa
