/-
  Lazy chains: impl.LazyChain.
-/
import Derived.Test.YtlhepgdheopgaaaStep
import Derived.Deep.RegionHeld3
import Derived.Deep.AppendLies
import Derived.Deep.RegionLaw
namespace Go.Proofs.Ytlhepgdheopgaaa
open Go Go.RowKit Ieee
attribute [local go_sem] run_store_float

def lazyOff (xs : List Nat) (n st i k : Nat) : Nat := fmul (fsub 1065353216 st) (stepOf xs n i k)
def lazyF (xs : List Nat) (n st i k : Nat) : Nat := if i = k then fadd (lazyOff xs n st i k) st else lazyOff xs n st i k
theorem lazy_runs {xs : List Nat} {n st i k : Nat} (hl : xs.length = n * n) (hp : xs.all partB = true) (hi : i < n) (hk : k < n) (hs : partB st = true) :
    floatBits .sub .f32 1065353216 st = some (fsub 1065353216 st) ∧ floatBits .mul .f32 (fsub 1065353216 st) (stepOf xs n i k) = some (lazyOff xs n st i k) ∧ floatBits .add .f32 (lazyOff xs n st i k) st = some (fadd (lazyOff xs n st i k) st) := by
  obtain ⟨-, k1, k2, f1⟩ := part_key hs
  obtain ⟨-, k3, k4, f2⟩ := part_key (stepOf_part hl hp hi hk)
  have h1 := fsub_run one_notNan f1
  have h2 := sub_nn one_fin f1 (by rw [key_one]; decide) k1 (by rw [key_one]; exact k2)
  have h3 := fmul_run h2.1 f2
  exact ⟨h1.1, h3.1, (fadd_run h3.2 f1).1⟩

set_option maxHeartbeats 1600000 in
theorem lazyClo (n i k b0 b1 st : Nat) (A : Option Addr) (xs : List Nat) (c : Nat) (w : World) (hn2 : n ≤ 12) (hi : i < n) (hk : k < n) (hl : xs.length = n * n) (hp : xs.all partB = true) (hs : partB st = true)
    (h0 : w.cell? ⟨b0, 0, none⟩ = some (.float .f32 st)) (h1 : w.cell? ⟨b1, 0, none⟩ = some (.int .i64 n)) (h2 : w.cell? ⟨b1, 1, none⟩ = some (.slice A xs.length c)) (h : Rd w w.heap.size A (fl xs)) :
    Calls Try.prog 61 #[.int .i64 i, .int .i64 k, .pointer (some ⟨b0, 0, none⟩), .pointer (some ⟨b1, 0, none⟩)] w (fun e w' => e = .returned (.float .f32 (lazyF xs n st i k)) ∧ Below w.heap.size w w') := by
  obtain ⟨r1, r2, r3⟩ := lazy_runs hl hp hi hk hs
  have e1 := fun w => run_float_arith (P := Try.prog) w .sub 31 .f32 _ _ _ r1
  have e2 := fun w => run_float_arith (P := Try.prog) w .mul 31 .f32 _ _ _ r2
  have e3 := fun w => run_float_arith (P := Try.prog) w .add 31 .f32 _ _ _ r3
  have HT : Hid (∀ W, Below w.heap.size w W → Calls Try.prog 35 #[.agg #[.int .i64 n, .slice A xs.length c], .int .i64 i, .int .i64 k] W (fun e w' => e = .returned (.float .f32 (stepOf xs n i k)) ∧ Below W.heap.size W w')) := fun W hW => step_any n i k A xs c W hn2 hi hk hl (h.at_ hW)
  have hMk : Hid (∀ W, Below w.heap.size w W → W.cell? ⟨b0, 0, none⟩ = some (.float .f32 st) ∧ W.cell? ⟨b1, 0, none⟩ = some (.int .i64 n) ∧ W.cell? ⟨b1, 1, none⟩ = some (.slice A xs.length c)) := fun W hW => ⟨keepC hW h0, keepC hW h1, keepC hW h2⟩
  have hF : Hid (lazyF xs n st i k = if i = k then fadd (lazyOff xs n st i k) st else lazyOff xs n st i k) := rfl
  clear h hl hp hs r1 r2 r3
  generalize stepOf xs n i k = x at *
  generalize lazyOff xs n st i k = y at *
  generalize fadd y st = z at *
  generalize lazyF xs n st i k = res at *
  have HH := And.intro h0 (And.intro h1 h2)
  go_enter Try.func61, Try.ntmps61
  go_wp2_with fail
  go_region_held3 (fun W => W.cell? ⟨b0, 0, none⟩ = some (.float .f32 st) ∧ W.cell? ⟨b1, 0, none⟩ = some (.int .i64 n) ∧ W.cell? ⟨b1, 1, none⟩ = some (.slice A xs.length c))
    (first | exact hMk.out _ ((Below.refl _ _).drew) | exact hMk.out _ (by assumption))
    (first | (go_at_call 35; refine (HT.out _ ((Below.refl _ _).drew)).mono ?_; rintro e w3 ⟨rfl, hb3⟩; have hk3 : Below w.heap.size w w3 := Below.trans (Below.refl _ _).drew hb3))
  all_goals
    obtain ⟨g0, g1, g2⟩ := hMk.out _ hk3
    have hR := hF.out
    by_cases hik : i = k
    · rw [if_pos hik] at hR
      subst hik
      go_wp2
      go_ret
      exact ⟨by first | rfl | (rw [hR]; rfl), hk3⟩
    · rw [if_neg hik] at hR
      have hik2 : ¬ ((i : Int) = (k : Int)) := by omega
      go_wp2
      go_ret
      exact ⟨by first | rfl | (rw [hR]; rfl), hk3⟩
set_option maxRecDepth 100000 in
set_option maxHeartbeats 3200000 in
theorem chainByLazy (n : Nat) (p0 p1 : Value) (f : Nat → Nat → Nat) (w : World) (hn : 1 ≤ n) (hn2 : n ≤ 12)
    (hg : ∀ W, Below w.heap.size w W → ∀ i k : Nat, i < n → k < n → Calls Try.prog 61 #[.int .i64 i, .int .i64 k, p0, p1] W (fun e W' => e = .returned (.float .f32 (f i k)) ∧ Below W.heap.size W W')) :
    Calls Try.prog 37 #[.int .i64 n, .func (.func 61) #[] #[p0, p1]] w (ChainRes w n (tab n f)) := by
  obtain ⟨i0, hi0, hz0, hz1, hz2⟩ := info_parts info_f32
  have HG := Lib.hid hg
  clear hg
  have HV := Lib.hid fun A xs c w (hx : xs.length ≤ c) (hc : c ≤ 9223372036854775807) h => ValidChain_any n A xs c w hx hc h
  have hnn : n * n ≤ 144 := Nat.mul_le_mul hn2 hn2
  go_enter Try.func37, Try.ntmps37
  go_wp2_with fail
  generalize hW1 : ((w.alloc (.cells #[.int .i64 0, .slice none 0 0] 26)).alloc (.cells #[.int .i64 n, .slice none 0 0] 26)) = W1
  have s1 : W1.heap.size = w.heap.size + 2 := by rw [← hW1]; simp
  have k0 : W1.cell? ⟨w.heap.size, 0, none⟩ = some (.int .i64 0) := by rw [← hW1]; simp [go_sem]
  have k1 : W1.cell? ⟨w.heap.size, 1, none⟩ = some (.slice none 0 0) := by rw [← hW1]; simp [go_sem]
  have k2 : W1.cell? ⟨w.heap.size + 1, 0, none⟩ = some (.int .i64 n) := by rw [← hW1]; simp [go_sem]
  have k3 : W1.cell? ⟨w.heap.size + 1, 1, none⟩ = some (.slice none 0 0) := by rw [← hW1]; simp [go_sem]
  have f0 : ∀ o, W1.frozen? ⟨w.heap.size, o, none⟩ = false := fun o => by rw [← hW1]; simp [go_sem]
  have f1 : ∀ o, W1.frozen? ⟨w.heap.size + 1, o, none⟩ = false := fun o => by rw [← hW1]; simp [go_sem]
  have B1 : Below w.heap.size w W1 := by rw [← hW1]; exact ((Below.refl _ _).alloc (Nat.le_refl _) _).alloc (by simp) _
  have S1 := Lib.hid s1
  have K0 := Lib.hid k0
  have K1 := Lib.hid k1
  have F0 := Lib.hid f0
  have HB1 := Lib.hid B1
  have START : Hid (CB W1 w.heap.size n f 0 W1) := ⟨none, 0, Below.refl _ _, by rw [s1]; exact Nat.le_refl _, k2, k3, f1, World.ownsRow_nil _ _ _ _⟩
  clear hW1 s1 k0 k1 k2 k3 f0 f1 B1
  go_loopw [7, 12] (fun _ i wr => ∃ k : Nat, k ≤ n ∧ i = .int .i64 k ∧ CB W1 w.heap.size n f (k * n) wr) (fun _ i _ => n - (intOf i).toNat)
  case atStart => exact ⟨0, Nat.zero_le _, rfl, by rw [Nat.zero_mul]; exact START.out⟩
  case round =>
    obtain ⟨k, hk, rfl, hcb⟩ := hrel
    have HCB := Lib.hid hcb
    clear hcb
    by_cases hlt : k < n
    · go_wp2_with fail
      go_loopw [8, 16] (fun _ i wr => ∃ j : Nat, j ≤ n ∧ i = .int .i64 j ∧ CB W1 w.heap.size n f (k * n + j) wr) (fun _ i _ => n - (intOf i).toNat)
      case atStart => exact ⟨0, Nat.zero_le _, rfl, HCB.out⟩
      case round =>
        obtain ⟨j, hj, rfl, hcj⟩ := hrel
        by_cases hjt : j < n
        · rename_i wr
          obtain ⟨A, c, hbw, hsz, c0, c1, hfr, hown⟩ := hcj
          have hp : k * n + j < n * n := idx_lt hlt hjt
          have hf := tab_succ n f (i := k) (k := j) hjt
          have HF := Lib.hid hf
          have HBW := Lib.hid hbw
          have hcall := HG.out
          clear hf hbw
          have hMk : Hid (∀ W, Below wr.heap.size wr W → W.cell? ⟨w.heap.size + 1, 0, none⟩ = some (.int .i64 n) ∧ W.cell? ⟨w.heap.size + 1, 1, none⟩ = some (.slice A (k * n + j) c)) := fun W hW => ⟨keepC hW c0, keepC hW c1⟩
          have HGC : Hid (∀ W, Below wr.heap.size wr W → Calls Try.prog 61 #[.int .i64 k, .int .i64 j, p0, p1] W (fun e W' => e = .returned (.float .f32 (f k j)) ∧ Below W.heap.size W W')) := fun W hW => HG.out W ((HB1.out.trans (HBW.out.mono (by omega))).trans (hW.mono (by have := HBW.out.size; have := S1.out; omega))) k j hlt hjt
          clear hcall
          generalize hpq : k * n + j = p at *
          have HPQ := Lib.hid hpq
          clear hpq
          go_wp2_with fail
          go_region_law (first
            | (have hkk := hk2
               refine step_append_lies _ (by rfl) _ _ _ (by rfl) (w.heap.size + 2) 31 i0 _ 1 4 Try.underlying24 hi0 hz0 hz1 hz2 rfl (by omega) (.slice A p c) p (fl (tabTo n f p)) (by rfl) ((own_below hown hk2).alloc _) ⟨w2.heap.size, 0, none⟩ 1 1 [.float .f32 (f k j)] (by rfl) (by rfl) (World.news_of_block (cs := #[.float .f32 (f k j)]) (t := 31) (fr := (0, 0)) (heap_alloc_new w2 _)) (by simp [Value.oneCell']) (by omega) (by unfold maxLen; omega) (by omega) (by simp; have := hk2.size; omega) (w2.heap.size + 1) (by simp) ?_
               intro g cap w3 hown3 hgrow hat hlt
               obtain ⟨c3, f3, hcb3⟩ := CB_step HBW.out hsz c0 c1 hfr hown hk2 hgrow hown3 HF.out
               have HX := Lib.hid hcb3
               clear hcb3)
            | (go_simp; go_at_call 61; refine (HGC.out _ (Below.refl _ _).drew).mono ?_; rintro e w2 ⟨rfl, hb2⟩; have hk2 : Below wr.heap.size wr w2 := Below.trans (Below.refl _ _).drew hb2; have cc1 : w2.cell? ⟨w.heap.size + 1, 1, none⟩ = some (.slice A p c) := keepC hk2 c1; have cc2 : (w2.alloc (.cells #[.float .f32 (f k j)] 31)).cell? ⟨w.heap.size + 1, 1, none⟩ = some (.slice A p c) := keepC (hk2.alloc hk2.size _) c1))
          all_goals
            go_wp2_with fail
            go_roundw
            case rel => exact ⟨j + 1, by omega, by go_num, by rw [← Nat.add_assoc, HPQ.out]; exact HX.out⟩
            case measure => simp [intOf]; omega
        · have hje : j = n := by omega
          subst hje
          have HCJ := Lib.hid hcj
          clear hcj
          go_wp2_with fail
          go_roundw
          case rel => exact ⟨k + 1, by omega, by go_num, by rw [Nat.add_mul, Nat.one_mul]; exact HCJ.out⟩
          case measure => simp [intOf]; omega
    · rename_i wr
      have hke : n = k := by omega
      subst hke
      obtain ⟨A, c, hbw, hsz, c0, c1, hfr, hown⟩ := HCB.out
      have HV : Hid (∀ W, Below wr.heap.size wr W → Calls Try.prog 20 #[.agg #[.int .i64 n, .slice A (n * n) c]] W (fun e w' => e = .returned (.bool (validB n (tab n f))) ∧ Below W.heap.size W w')) := fun W hW => by
        have h1 : (tab n f).length = n * n := tab_len n f
        have h2 := own_cap hown
        have h := ValidChain_any n A (tab n f) c W (by rw [h1]; exact h2.1) h2.2 ((Rd.of_own hown).next (Nat.le_refl _) hW)
        rw [h1] at h
        exact h
      have g0 : wr.cell? ⟨w.heap.size, 0, none⟩ = some (.int .i64 0) := (hbw.cell (show w.heap.size < w.heap.size + 1 by omega)).trans K0.out
      have g1 : wr.cell? ⟨w.heap.size, 1, none⟩ = some (.slice none 0 0) := (hbw.cell (show w.heap.size < w.heap.size + 1 by omega)).trans K1.out
      have gf : ∀ o, wr.frozen? ⟨w.heap.size, o, none⟩ = false := fun o => (hbw.frozen (show w.heap.size < w.heap.size + 1 by omega)).trans (F0.out o)
      have hbwr : Below w.heap.size w wr := HB1.out.trans (hbw.mono (by omega))
      have HBR := Lib.hid hbwr
      have HOWN := Lib.hid hown
      have HSZ := Lib.hid hsz
      clear hbwr hown hbw hsz
      cases hvb : validB n (tab n f)
      · have HVB := Lib.hid hvb
        rw [hvb] at HV
        clear hvb
        go_wp2_with (go_at_call 20; refine (HV.out _ (by first | exact Below.refl _ _ | exact (Below.refl _ _).drew)).mono ?_; rintro e w5 ⟨rfl, hb5⟩; have hk5 : Below wr.heap.size wr w5 := hb5; have z0 : w5.cell? ⟨w.heap.size, 0, none⟩ = some (.int .i64 0) := keepC hk5 g0; have z1 : w5.cell? ⟨w.heap.size, 1, none⟩ = some (.slice none 0 0) := keepC hk5 g1; have zf : ∀ o, w5.frozen? ⟨w.heap.size, o, none⟩ = false := fun o => (hk5.frozen (p := ⟨_, o, none⟩) (lt_of_cell (a := ⟨w.heap.size, 0, none⟩) g0)).trans (gf o); have y0 : w5.cell? ⟨w.heap.size + 1, 0, none⟩ = some (.int .i64 n) := keepC hk5 c0; have y1 : w5.cell? ⟨w.heap.size + 1, 1, none⟩ = some (.slice A (n * n) c) := keepC hk5 c1)
        have hB : Below w.heap.size w w5 := HBR.out.trans (hk5.mono (by have := HSZ.out; omega))
        refine bodyPost_ret (v := .tuple #[.agg #[.int .i64 0, .slice none 0 0], .bool false]) (by simp [results, Try.results37, go_sem, z0, z1]) rfl ⟨(hB.setCell (Nat.le_refl _) _).setCell (Nat.le_refl _) _, .inl ⟨HVB.out, rfl⟩⟩
      · have HVB := Lib.hid hvb
        rw [hvb] at HV
        clear hvb
        go_wp2_with (go_at_call 20; refine (HV.out _ (by first | exact Below.refl _ _ | exact (Below.refl _ _).drew)).mono ?_; rintro e w5 ⟨rfl, hb5⟩; have hk5 : Below wr.heap.size wr w5 := hb5; have z0 : w5.cell? ⟨w.heap.size, 0, none⟩ = some (.int .i64 0) := keepC hk5 g0; have z1 : w5.cell? ⟨w.heap.size, 1, none⟩ = some (.slice none 0 0) := keepC hk5 g1; have zf : ∀ o, w5.frozen? ⟨w.heap.size, o, none⟩ = false := fun o => (hk5.frozen (p := ⟨_, o, none⟩) (lt_of_cell (a := ⟨w.heap.size, 0, none⟩) g0)).trans (gf o); have y0 : w5.cell? ⟨w.heap.size + 1, 0, none⟩ = some (.int .i64 n) := keepC hk5 c0; have y1 : w5.cell? ⟨w.heap.size + 1, 1, none⟩ = some (.slice A (n * n) c) := keepC hk5 c1)
        have hB : Below w.heap.size w w5 := HBR.out.trans (hk5.mono (by have := HSZ.out; omega))
        have hO := ownsRow_setCell_below (ownsRow_setCell_below (own_below HOWN.out hk5) (a := ⟨w.heap.size, 0, none⟩) (show w.heap.size < w.heap.size + 2 by omega) (.int .i64 n)) (a := ⟨w.heap.size, 1, none⟩) (show w.heap.size < w.heap.size + 2 by omega) (.slice A (n * n) c)
        refine bodyPost_ret (v := .tuple #[.agg #[.int .i64 n, .slice A (n * n) c], .bool true]) (by simp [results, Try.results37, go_sem, z0, z1]) rfl ⟨(hB.setCell (Nat.le_refl _) _).setCell (Nat.le_refl _) _, .inr ⟨HVB.out, A, c, by rw [tab_len], ?_⟩⟩
        rw [tab_len]
        exact own_base hO (by omega)


theorem Rd_one (w : World) (s : Nat) (t : TypeId) (g : Nat) (hg : w.heap.size = g) : Rd (w.alloc (.cells #[.float .f32 s] t)) (w.alloc (.cells #[.float .f32 s] t)).heap.size (some ⟨g, 0, none⟩) (fl [s]) := fun _ => by
  subst hg
  refine ⟨_, _, rfl, by simp, fun k hk => ?_⟩
  rw [World.cell?_alloc_new]
  match k, hk with
  | 0, _ => rfl

set_option maxRecDepth 100000 in
set_option maxHeartbeats 3200000 in
theorem LazyChain_bad (n : Int) (A : Option Addr) (xs : List Nat) (c st : Nat) (w : World) (hx : xs.length ≤ c) (hc : c ≤ 9223372036854775807) (h : Rd w w.heap.size A (fl xs)) (hb : (validB n xs && partB st) = false) :
    Calls Try.prog 24 #[.agg #[.int .i64 n, .slice A xs.length c], .float .f32 st] w (chOut 0 [] false w) := by
  have HV : Hid (∀ W, Rd W W.heap.size A (fl xs) → Calls Try.prog 20 #[.agg #[.int .i64 n, .slice A xs.length c]] W (fun e w' => e = .returned (.bool (validB n xs)) ∧ Below W.heap.size W w')) := fun W h => ValidChain_any n A xs c W hx hc h
  have HP : Hid (∀ A w, Rd w w.heap.size A (fl [st]) → Calls Try.prog 54 #[.slice A 1 1] w (Quiet (.bool (([st] : List Nat).all partB)) w)) := fun A w h => areParts_any A [st] 1 w (by simp) h
  cases hv : validB n xs with
  | false =>
    rw [hv] at HV
    clear hb hv HP
    go_enter Try.func24, Try.ntmps24
    go_wp2_with (first
      | (go_at_call 20
         refine (HV.out _ (h.at_ (by repeat (first | exact Below.refl _ _ | refine Below.alloc ?_ (by first | (simp; done) | (simp; omega)) _)))).mono ?_
         rintro e w5 ⟨rfl, hb5⟩
         have z0 : w5.cell? ⟨w.heap.size, 0, none⟩ = some (.int .i64 n) := keepC hb5 (by simp [go_sem])
         have z1 : w5.cell? ⟨w.heap.size, 1, none⟩ = some (.slice A xs.length c) := keepC hb5 (by simp [go_sem])
         have z2 : w5.cell? ⟨w.heap.size + 1, 0, none⟩ = some (.float .f32 st) := keepC hb5 (by simp [go_sem])
         have z3 : w5.cell? ⟨w.heap.size + 1 + 1, 0, none⟩ = some (.int .i64 0) := keepC hb5 (by simp [go_sem])
         have z4 : w5.cell? ⟨w.heap.size + 1 + 1, 1, none⟩ = some (.slice none 0 0) := keepC hb5 (by simp [go_sem])
         have zf : ∀ o, w5.frozen? ⟨w.heap.size + 1 + 1, o, none⟩ = false := fun o => (hb5.frozen (p := ⟨_, o, none⟩) (by simp)).trans (by simp [go_sem])
         have zs : w.heap.size + 1 + 1 < w5.heap.size := by have := hb5.size; simp at this; omega
         have HB5 : Hid (Below w.heap.size w w5) := Below.trans (by repeat (first | exact Below.refl _ _ | refine Below.alloc ?_ (by first | (simp; done) | (simp; omega)) _)) (hb5.mono (by simp; omega))
         clear hb5))
    refine bodyPost_ret (v := .tuple #[.agg #[.int .i64 0, .slice none 0 0], .bool false]) (by simp [results, Try.results24, go_sem, z3, z4]) rfl (chOut_none rfl ?_)
    exact (HB5.out.setCell (by simp; omega) _).setCell (by simp; omega) _
  | true =>
    rw [hv] at HV hb
    have HP2 : Hid (([st] : List Nat).all partB = false) := by simpa [Hid] using hb
    rw [HP2.out] at HP
    clear hb hv HP2
    go_enter Try.func24, Try.ntmps24
    go_wp2_with (first
      | (go_at_call 20
         refine (HV.out _ (h.at_ (by repeat (first | exact Below.refl _ _ | refine Below.alloc ?_ (by first | (simp; done) | (simp; omega)) _)))).mono ?_
         rintro e w5 ⟨rfl, hb5⟩
         have z0 : w5.cell? ⟨w.heap.size, 0, none⟩ = some (.int .i64 n) := keepC hb5 (by simp [go_sem])
         have z1 : w5.cell? ⟨w.heap.size, 1, none⟩ = some (.slice A xs.length c) := keepC hb5 (by simp [go_sem])
         have z2 : w5.cell? ⟨w.heap.size + 1, 0, none⟩ = some (.float .f32 st) := keepC hb5 (by simp [go_sem])
         have z3 : w5.cell? ⟨w.heap.size + 1 + 1, 0, none⟩ = some (.int .i64 0) := keepC hb5 (by simp [go_sem])
         have z4 : w5.cell? ⟨w.heap.size + 1 + 1, 1, none⟩ = some (.slice none 0 0) := keepC hb5 (by simp [go_sem])
         have zf : ∀ o, w5.frozen? ⟨w.heap.size + 1 + 1, o, none⟩ = false := fun o => (hb5.frozen (p := ⟨_, o, none⟩) (by simp)).trans (by simp [go_sem])
         have zs : w.heap.size + 1 + 1 < w5.heap.size := by have := hb5.size; simp at this; omega
         have HB5 : Hid (Below w.heap.size w w5) := Below.trans (by repeat (first | exact Below.refl _ _ | refine Below.alloc ?_ (by first | (simp; done) | (simp; omega)) _)) (hb5.mono (by simp; omega))
         clear hb5)
      | (go_at_call 54
         refine (HP.out _ _ (Rd_one _ st _ _ (by simp))).mono ?_
         rintro e w6 hq
         have hA : Below w5.heap.size w5 w6 := Below.trans ((Below.refl _ _).alloc (Nat.le_refl _) _) (hq.below.2.mono (by simp))
         obtain ⟨rfl, m5, hw6⟩ := hq
         clear hw6
         have d0 := keepC hA z0
         have d1 := keepC hA z1
         have d2 := keepC hA z2
         have d3 := keepC hA z3
         have d4 := keepC hA z4
         have df : ∀ o, w6.frozen? ⟨w.heap.size + 1 + 1, o, none⟩ = false := fun o => (hA.frozen (p := ⟨_, o, none⟩) zs).trans (zf o)
         have ds : w.heap.size + 1 + 1 < w6.heap.size := by have := hA.size; omega
         have HB6 := Lib.hid (HB5.out.trans (hA.mono (by omega)))
         clear hA z0 z1 z2 z3 z4 zf))
    refine bodyPost_ret (v := .tuple #[.agg #[.int .i64 0, .slice none 0 0], .bool false]) (by simp [results, Try.results24, go_sem, d3, d4]) rfl (chOut_none rfl ?_)
    exact (HB6.out.setCell (by simp; omega) _).setCell (by simp; omega) _

set_option maxRecDepth 100000 in
set_option maxHeartbeats 3200000 in
theorem LazyChain_ok (n : Nat) (A : Option Addr) (xs : List Nat) (c st : Nat) (w : World) (hx : xs.length ≤ c) (hc : c ≤ 9223372036854775807) (h : Rd w w.heap.size A (fl xs)) (hv : validB n xs = true) (hs : partB st = true) :
    Calls Try.prog 24 #[.agg #[.int .i64 n, .slice A xs.length c], .float .f32 st] w (chGive n (tab n (lazyF xs n st)) w) := by
  have HV : Hid (∀ W, Rd W W.heap.size A (fl xs) → Calls Try.prog 20 #[.agg #[.int .i64 n, .slice A xs.length c]] W (fun e w' => e = .returned (.bool true) ∧ Below W.heap.size W w')) := fun W h => by have := ValidChain_any n A xs c W hx hc h; rwa [hv] at this
  have HP : Hid (∀ A w, Rd w w.heap.size A (fl [st]) → Calls Try.prog 54 #[.slice A 1 1] w (Quiet (.bool true) w)) := fun A w h => by have := areParts_any A [st] 1 w (by simp) h; rwa [show ([st] : List Nat).all partB = true by simpa using hs] at this
  obtain ⟨n', hn', hn1, hn2, hl, hp, -⟩ := validB_facts hv
  obtain rfl : n = n' := by omega
  have HCB : Hid (∀ W b0 b1, Below w.heap.size w W → W.cell? ⟨b0, 0, none⟩ = some (.float .f32 st) → W.cell? ⟨b1, 0, none⟩ = some (.int .i64 n) → W.cell? ⟨b1, 1, none⟩ = some (.slice A xs.length c) →
      Calls Try.prog 37 #[.int .i64 n, .func (.func 61) #[] #[.pointer (some ⟨b0, 0, none⟩), .pointer (some ⟨b1, 0, none⟩)]] W (chGive n (tab n (lazyF xs n st)) W)) := fun W b0 b1 hW h0 h1 h2 =>
    (chainByLazy n _ _ (lazyF xs n st) W hn1 hn2 fun W' hW' i k hi hk => lazyClo n i k b0 b1 st A xs c W' hn2 hi hk hl hp hs (keepC hW' h0) (keepC hW' h1) (keepC hW' h2) ((h.at_ hW).at_ hW')).mono fun e W2 h => h.out
  unfold chGive at HCB ⊢
  generalize sideOf n (tab n (lazyF xs n st)) = sd at *
  generalize stepsOf n (tab n (lazyF xs n st)) = ys at *
  generalize validB n (tab n (lazyF xs n st)) = ok at *
  clear hv hs hl hp hx hc hn'
  go_enter Try.func24, Try.ntmps24
  go_wp2_with (first
      | (go_at_call 20
         refine (HV.out _ (h.at_ (by repeat (first | exact Below.refl _ _ | refine Below.alloc ?_ (by first | (simp; done) | (simp; omega)) _)))).mono ?_
         rintro e w5 ⟨rfl, hb5⟩
         have z0 : w5.cell? ⟨w.heap.size, 0, none⟩ = some (.int .i64 n) := keepC hb5 (by simp [go_sem])
         have z1 : w5.cell? ⟨w.heap.size, 1, none⟩ = some (.slice A xs.length c) := keepC hb5 (by simp [go_sem])
         have z2 : w5.cell? ⟨w.heap.size + 1, 0, none⟩ = some (.float .f32 st) := keepC hb5 (by simp [go_sem])
         have z3 : w5.cell? ⟨w.heap.size + 1 + 1, 0, none⟩ = some (.int .i64 0) := keepC hb5 (by simp [go_sem])
         have z4 : w5.cell? ⟨w.heap.size + 1 + 1, 1, none⟩ = some (.slice none 0 0) := keepC hb5 (by simp [go_sem])
         have zf : ∀ o, w5.frozen? ⟨w.heap.size + 1 + 1, o, none⟩ = false := fun o => (hb5.frozen (p := ⟨_, o, none⟩) (by simp)).trans (by simp [go_sem])
         have zs : w.heap.size + 1 + 1 < w5.heap.size := by have := hb5.size; simp at this; omega
         have HB5 : Hid (Below w.heap.size w w5) := Below.trans (by repeat (first | exact Below.refl _ _ | refine Below.alloc ?_ (by first | (simp; done) | (simp; omega)) _)) (hb5.mono (by simp; omega))
         clear hb5)
      | (go_at_call 54
         refine (HP.out _ _ (Rd_one _ st _ _ (by simp))).mono ?_
         rintro e w6 hq
         have hA : Below w5.heap.size w5 w6 := Below.trans ((Below.refl _ _).alloc (Nat.le_refl _) _) (hq.below.2.mono (by simp))
         obtain ⟨rfl, m5, hw6⟩ := hq
         clear hw6
         have d0 := keepC hA z0
         have d1 := keepC hA z1
         have d2 := keepC hA z2
         have d3 := keepC hA z3
         have d4 := keepC hA z4
         have df : ∀ o, w6.frozen? ⟨w.heap.size + 1 + 1, o, none⟩ = false := fun o => (hA.frozen (p := ⟨_, o, none⟩) zs).trans (zf o)
         have ds : w.heap.size + 1 + 1 < w6.heap.size := by have := hA.size; omega
         have HB6 := Lib.hid (HB5.out.trans (hA.mono (by omega)))
         clear hA z0 z1 z2 z3 z4 zf)
      | (go_at_call 37
         refine (HCB.out _ _ _ HB6.out d2 d0 d1).mono ?_
         rintro e w7 ⟨A7, c7, rfl, hown, hb7⟩
         have f3 := keepC hb7 d3
         have f4 := keepC hb7 d4
         have f5 : ∀ o, w7.frozen? ⟨w.heap.size + 1 + 1, o, none⟩ = false := fun o => (hb7.frozen (p := ⟨_, o, none⟩) ds).trans (df o)
         skip))
  refine bodyPost_ret (v := .tuple #[.agg #[.int .i64 sd, .slice A7 ys.length c7], .bool ok]) (by simp [results, Try.results24, go_sem, f3, f4]) rfl ⟨A7, c7, rfl, ?_, ?_⟩
  · exact own_base (ownsRow_setCell_below (ownsRow_setCell_below hown (by simp; omega) _) (by simp; omega) _) (by omega)
  · exact ((HB6.out.trans (hb7.mono (by omega))).setCell (by simp; omega) _).setCell (by simp; omega) _
end Go.Proofs.Ytlhepgdheopgaaa

