/-
  slices.symMergeCmpFunc of float32 numbers, whole.
  slices.stableCmpFunc of float32 numbers.
  cmp.Compare of float32 and impl.DrawnMeans's comparison.
  slices.SortStableFunc of float32 numbers that are not NaN, by impl.DrawnMeans's comparison.
-/
import Derived.Test.YtfkjnaaplhcheaaTx
import Derived.Test.YtfkjnaaplhcheaaTi
import Derived.Test.YtfkjnaaplhcheaaMono
import Derived.Test.YtfkjnaaplhcheaaCm
namespace Go.Proofs.Ytfkjnaaplhcheaa.Fs
open Go Go.RowKit Go.Sort

theorem symMerge_any (K V : Nat → Nat) (cf : Nat → Nat → Int) (blk off cap : Nat) (d : Array Nat) (w : World) (hC : CmpAt K V cf w blk off d) (hsz : d.size ≤ 1048576) : ∀ N, MgIH K V w blk off cap N d
  | 0 => fun a m b d0 W h => absurd h (by omega)
  | N + 1 => fun a m b d0 W hN h h1 h2 h3 hm hbd => by
    have IH := symMerge_any K V cf blk off cap d w hC hsz N
    by_cases hl : m = a + 1
    · subst hl
      exact symMerge_left K V cf blk off cap a b d d0 w W hC hsz h hm h2 h3 hbd
    · by_cases hr : b = m + 1
      · subst hr
        exact symMerge_right K V cf blk off cap a m d d0 w W hC hsz h hm (by omega) h3 hbd
      · exact symMerge_gen K V cf blk off cap a m b d d0 w W hC hsz (fun a' m' b' d' W' g1 g2 g3 g4 g5 g6 g7 => IH a' m' b' d' W' (by omega) g2 g3 g4 g5 g6 g7) h hm (by omega) (by omega) h3 hbd

/-- a stretch that rises and holds the numbers of its own places -/
structure Blk (K : Nat → Nat) (d : Array Nat) (a b : Nat) : Prop where
  s : Srt K d a b
  i : ∀ p, a ≤ p → p < b → a ≤ d[p]! ∧ d[p]! < b
theorem Blk.merge {K : Nat → Nat} {d : Array Nat} {a m b : Nat} (h : Blk K d a m) (h' : Blk K d m b) : SM K a m b d := ⟨h.s, h'.s, fun p q h1 h2 h3 h4 => by
  have := h.i p h1 h2
  have := h'.i q h3 h4
  omega⟩
theorem Blk.of {K : Nat → Nat} {d e : Array Nat} {a m b : Nat} (h : Blk K d a m) (h' : Blk K d m b) (hs : Srt K e a b) (hm : Same a b d e) (ha : a ≤ m) (hb : m ≤ b) : Blk K e a b := ⟨hs, hm.all (P := fun z => a ≤ z ∧ z < b) fun p h1 h2 => by
  by_cases hp : p < m
  · have := h.i p h1 hp
    omega
  · have := h'.i p (by omega) h2
    omega⟩
theorem Blk.far {K : Nat → Nat} {d e : Array Nat} {a b a' b' : Nat} (h : Blk K d a b) (hm : Same a' b' d e) (hd : b ≤ a' ∨ b' ≤ a) : Blk K e a b :=
  ⟨h.s.congr fun p h1 h2 => hm.2.2 p (by omega), fun p h1 h2 => by rw [hm.2.2 p (by omega)]; exact h.i p h1 h2⟩
theorem Blk.none {K : Nat → Nat} {d : Array Nat} {a b : Nat} (h : b ≤ a) : Blk K d a b := ⟨fun p q h1 h2 h3 => by omega, fun p h1 h2 => by omega⟩
/-- two rows that rise by a key, with the same numbers, are one -/
theorem srt_unique {K : Nat → Nat} {d e : Array Nat} {n : Nat} (h : Srt K d 0 n) (h' : Srt K e 0 n) (h1 : ∀ p, p < n → ∃ q, q < n ∧ e[q]! = d[p]!) (h2 : ∀ p, p < n → ∃ q, q < n ∧ d[q]! = e[p]!) : ∀ p, p < n → d[p]! = e[p]! := by
  intro p
  induction p using Nat.strongRecOn with
  | ind p ih =>
    intro hp
    obtain ⟨q, hq, e1⟩ := h1 p hp
    obtain ⟨r, hr, e2⟩ := h2 p hp
    rcases Nat.lt_trichotomy q p with hqp | hqp | hqp
    · have := ih q hqp hq
      have h3 := h q p (by omega) hqp hp
      rw [this, e1] at h3
      omega
    · subst hqp
      exact e1.symm
    · rcases Nat.lt_trichotomy r p with hrp | hrp | hrp
      · have := ih r hrp hr
        have h3 := h' r p (by omega) hrp hp
        rw [← this, e2] at h3
        omega
      · subst hrp
        exact e2
      · have h3 := h' p q (by omega) hqp hq
        have h4 := h p r (by omega) hrp hr
        rw [e1] at h3
        rw [e2] at h4
        omega
theorem dvd_next {c x y : Nat} (h : c ∣ x) (h' : c ∣ y) (h1 : x ≤ y) (h2 : y < x + c) : y = x := by
  obtain ⟨i, rfl⟩ := h
  obtain ⟨j, rfl⟩ := h'
  have h3 : c * j < c * (i + 1) := by rw [Nat.mul_add, Nat.mul_one]; exact h2
  have h4 := Nat.lt_of_mul_lt_mul_left h3
  have h5 : i ≤ j := by
    rcases Nat.lt_or_ge j i with h | h
    · have h6 : c * (j + 1) ≤ c * i := Nat.mul_le_mul_left c h
      have h7 : c * (j + 1) = c * j + c := by rw [Nat.mul_add, Nat.mul_one]
      have h8 : c = 0 := by omega
      subst h8
      omega
    · exact h
  rw [show j = i by omega]
def BlkS (K : Nat → Nat) (d : Array Nat) (n bs : Nat) : Prop := ∀ x, bs ∣ x → x < n → Blk K d x (min (x + bs) n)
structure Ins (K : Nat → Nat) (d : Array Nat) (n a : Nat) : Prop where
  l : ∀ x, 20 ∣ x → x < a → Blk K d x (min (x + 20) n)
  r : ∀ p, a ≤ p → p < n → d[p]! = p
structure Mid (K : Nat → Nat) (d : Array Nat) (n bs a : Nat) : Prop where
  l : ∀ x, 2 * bs ∣ x → x < a → Blk K d x (min (x + 2 * bs) n)
  r : ∀ x, bs ∣ x → a ≤ x → x < n → Blk K d x (min (x + bs) n)
theorem Ins.blk {K : Nat → Nat} {d e : Array Nat} {n a b : Nat} (h : Ins K d n a) (hb : b ≤ n) (hs : Srt K e a b) (hm : Same a b d e) : Blk K e a b := ⟨hs, hm.all (P := fun z => a ≤ z ∧ z < b) fun p h1 h2 => by rw [h.r p h1 (by omega)]; omega⟩
theorem Ins.asc {K : Nat → Nat} {d : Array Nat} {n a b : Nat} (h : Ins K d n a) (hb : b ≤ n) : ∀ p q, a ≤ p → p < q → q < b → d[p]! < d[q]! := fun p q h1 h2 h3 => by rw [h.r p h1 (by omega), h.r q (by omega) (by omega)]; exact h2
theorem Ins.step {K : Nat → Nat} {d e : Array Nat} {n a : Nat} (h : Ins K d n a) (ha : 20 ∣ a) (hn : a + 20 ≤ n) (hs : Srt K e a (a + 20)) (hm : Same a (a + 20) d e) : Ins K e n (a + 20) := by
  refine ⟨fun x hx hxa => ?_, fun p h1 h2 => by rw [hm.2.2 p (by omega)]; exact h.r p (by omega) h2⟩
  rcases Nat.lt_or_ge x a with hlt | hge
  · have h3 : x + 20 ≤ a := by
      rcases Nat.lt_or_ge a (x + 20) with h4 | h4
      · have := dvd_next hx ha (by omega) h4
        omega
      · exact h4
    exact (h.l x hx hlt).far hm (.inl (by omega))
  · obtain rfl := dvd_next ha hx hge hxa
    rw [show min (x + 20) n = x + 20 by omega]
    exact h.blk (by omega) hs hm
theorem Ins.last {K : Nat → Nat} {d e : Array Nat} {n a : Nat} (h : Ins K d n a) (ha : 20 ∣ a) (hn : n < a + 20) (hs : Srt K e a n) (hm : Same a n d e) : BlkS K e n 20 := fun x hx hxn => by
  rcases Nat.lt_or_ge x a with hlt | hge
  · have h3 : x + 20 ≤ a := by
      rcases Nat.lt_or_ge a (x + 20) with h4 | h4
      · have := dvd_next hx ha (by omega) h4
        omega
      · exact h4
    exact (h.l x hx hlt).far hm (.inl (by omega))
  · obtain rfl := dvd_next ha hx hge (by omega)
    rw [show min (x + 20) n = n by omega]
    exact h.blk (Nat.le_refl _) hs hm
theorem Mid.step {K : Nat → Nat} {d e : Array Nat} {n bs a : Nat} (h : Mid K d n bs a) (ha : 2 * bs ∣ a) (hb : Blk K e a (a + 2 * bs)) (hn : a + 2 * bs ≤ n) (hm : Same a (a + 2 * bs) d e) : Mid K e n bs (a + 2 * bs) := by
  refine ⟨fun x hx hxa => ?_, fun x hx h1 h2 => (h.r x hx (by omega) h2).far hm (.inr h1)⟩
  rcases Nat.lt_or_ge x a with hlt | hge
  · have h3 : x + 2 * bs ≤ a := by
      rcases Nat.lt_or_ge a (x + 2 * bs) with h4 | h4
      · have := dvd_next hx ha (by omega) h4
        omega
      · exact h4
    exact (h.l x hx hlt).far hm (.inl (by omega))
  · obtain rfl := dvd_next ha hx hge hxa
    rw [show min (x + 2 * bs) n = x + 2 * bs by omega]
    exact hb
theorem Mid.last {K : Nat → Nat} {d e : Array Nat} {n bs a : Nat} (h : Mid K d n bs a) (ha : 2 * bs ∣ a) (hb : Blk K e a n) (hn : n < a + 2 * bs) (hm : Same a n d e) : BlkS K e n (bs * 2) := fun x hx hxn => by
  rw [Nat.mul_comm] at hx
  rw [Nat.mul_comm bs 2]
  rcases Nat.lt_or_ge x a with hlt | hge
  · have h3 : x + 2 * bs ≤ a := by
      rcases Nat.lt_or_ge a (x + 2 * bs) with h4 | h4
      · have := dvd_next hx ha (by omega) h4
        omega
      · exact h4
    exact (h.l x hx hlt).far hm (.inl (by omega))
  · obtain rfl := dvd_next ha hx hge (by omega)
    rw [show min (x + 2 * bs) n = n by omega]
    exact hb
theorem Mid.left {K : Nat → Nat} {d : Array Nat} {n bs a : Nat} (h : Mid K d n bs a) (ha : 2 * bs ∣ a) (hn : a + bs ≤ n) (h0 : 0 < bs) : Blk K d a (a + bs) := by
  have := h.r a (Nat.dvd_trans ⟨2, Nat.mul_comm 2 bs⟩ ha) (Nat.le_refl _) (by omega)
  rw [show min (a + bs) n = a + bs by omega] at this
  exact this
theorem Mid.right {K : Nat → Nat} {d : Array Nat} {n bs a b : Nat} (h : Mid K d n bs a) (ha : 2 * bs ∣ a) (hb : min (a + bs + bs) n = b) (h0 : a + bs < n) : Blk K d (a + bs) b := by
  have h1 : bs ∣ a := Nat.dvd_trans ⟨2, Nat.mul_comm 2 bs⟩ ha
  have := h.r (a + bs) ((Nat.dvd_add_right h1).2 (Nat.dvd_refl bs)) (by omega) h0
  rw [hb] at this
  exact this
theorem Mid.rest {K : Nat → Nat} {d : Array Nat} {n bs a : Nat} (h : Mid K d n bs a) (ha : 2 * bs ∣ a) (hn : n ≤ a + bs) : Blk K d a n := by
  rcases Nat.lt_or_ge a n with hlt | hge
  · have := h.r a (Nat.dvd_trans ⟨2, Nat.mul_comm 2 bs⟩ ha) (Nat.le_refl _) hlt
    rw [show min (a + bs) n = n by omega] at this
    exact this
  · exact Blk.none (by omega)
end Go.Proofs.Ytfkjnaaplhcheaa.Fs

namespace Go.Proofs.Ytfkjnaaplhcheaa.Fs
open Go Go.RowKit Go.Sort
attribute [local go_sem] run_store_float

theorem _root_.Go.Proofs.Ytfkjnaaplhcheaa.Same.bound {n : Nat} {d e : Array Nat} (h : Same 0 n d e) (h0 : ∀ p, p < n → d[p]! = p) : ∀ p, p < n → e[p]! < n := fun p hp => h.all (P := fun z => z < n) (fun p _ h2 => by rw [h0 p h2]; exact h2) p (Nat.zero_le _) hp
set_option maxRecDepth 100000 in
set_option maxHeartbeats 6400000 in
theorem stable_any (K V : Nat → Nat) (cf : Nat → Nat → Int) (blk off cap : Nat) (d d0 : Array Nat) (w W : World) (hC : ShCmp V w blk off d cf) (hK : KeyOf K cf d.size) (hsz : d.size ≤ 1024) (h : RW V w blk off d d0 W) (h0 : ∀ p, p < d.size → d0[p]! = p) :
    Calls Try.prog 106 #[.slice (some ⟨blk, off, none⟩) d.size cap, .int .i64 d.size, shF] W (fun e w' => e = .returned (.tuple #[]) ∧ ∃ d' : Array Nat, Blk K d' 0 d.size ∧ Same 0 d.size d0 d' ∧ RW V w blk off d d' w') := by
  have HIN : Hid (∀ a b dk W, RW V w blk off d dk W → a ≤ b → b ≤ d.size → (∀ p q, a ≤ p → p < q → q < b → dk[p]! < dk[q]!) → (∀ p, p < d.size → dk[p]! < d.size) → Calls Try.prog 123 #[.slice (some ⟨blk, off, none⟩) d.size cap, .int .i64 a, .int .i64 b, .func (.func 72) #[] #[]] W (fun e w' => e = .returned (.tuple #[]) ∧ ∃ d' : Array Nat, Srt K d' a b ∧ Same a b dk d' ∧ RW V w blk off d d' w')) := Lib.hid fun a b dk W h1 h2 h3 h4 h5 => insertion_any K V cf blk off cap a b d dk w W h1 hC hK h2 h3 (by omega) h4 fun p _ hp => h5 p (by omega)
  have HMG : Hid (∀ a m b dk W, RW V w blk off d dk W → a < m → m < b → b ≤ d.size → SM K a m b dk → (∀ p, p < d.size → dk[p]! < d.size) → Calls Try.prog 124 #[.slice (some ⟨blk, off, none⟩) d.size cap, .int .i64 a, .int .i64 m, .int .i64 b, .func (.func 72) #[] #[]] W (fun e w' => e = .returned (.tuple #[]) ∧ ∃ d' : Array Nat, Srt K d' a b ∧ Same a b dk d' ∧ RW V w blk off d d' w')) := Lib.hid fun a m b dk W h1 h2 h3 h4 h5 h6 => symMerge_any K V cf blk off cap d w (cmpAt_of hC hK) (by omega) (b - a + 1) a m b dk W (by omega) h1 h2 h3 h4 h5 fun p _ hp => h6 p (by omega)
  have START : Hid (Ins K d0 d.size 0 ∧ RW V w blk off d d0 W) := Lib.hid ⟨⟨fun x _ hx => by omega, fun p _ hp => h0 p hp⟩, h⟩
  have HBD : Hid (∀ dk, Same 0 d.size d0 dk → ∀ p, p < d.size → dk[p]! < d.size) := Lib.hid fun dk h => h.bound h0
  clear hC hK h h0
  generalize hn : d.size = n at *
  unfold shF
  go_enter Try.func106, Try.ntmps106
  go_wp2
  go_loopw [7, 8] (fun av bv wr => ∃ (a : Nat) (dk : Array Nat), a ≤ n ∧ 20 ∣ a ∧ av = .int .i64 a ∧ bv = .int .i64 ((a + 20 : Nat) : Int) ∧ Ins K dk n a ∧ Same 0 n d0 dk ∧ RW V w blk off d dk wr) (fun _ bv _ => n + 40 - (intOf bv).toNat)
  case atStart => exact ⟨0, d0, Nat.zero_le _, ⟨0, rfl⟩, rfl, rfl, START.out.1, Same.refl _ _ _, START.out.2⟩
  case round =>
    clear START
    obtain ⟨a, dk, han, h20, rfl, rfl, hi, hs, hw⟩ := hrel
    rename World => wq
    have H20 := Lib.hid h20
    have HI := Lib.hid hi
    have HS := Lib.hid hs
    have HW := Lib.hid hw
    clear h20 hi hs hw
    by_cases hlt : a + 20 ≤ n
    · have hz : ((a + 20 : Nat) : Int) ≤ (n : Int) := by omega
      have hw20 : IntKind.i64.wrap (((a + 20 : Nat) : Int) + 20) = ((a + 20 + 20 : Nat) : Int) := by rw [show ((a + 20 : Nat) : Int) + 20 = ((a + 20 + 20 : Nat) : Int) by push_cast; omega]; exact IntWalk.i64_in _ (by omega)
      have RC := Lib.hid (HIN.out a (a + 20) dk wq HW.out (by omega) hlt (HI.out.asc hlt) (HBD.out dk HS.out))
      have N9 : Hid (∀ e, Srt K e a (a + 20) → Same a (a + 20) dk e → Ins K e n (a + 20) ∧ Same 0 n d0 e ∧ 20 ∣ a + 20) := Lib.hid fun e h1 h2 => ⟨HI.out.step H20.out hlt h1 h2, HS.out.trans (h2.wide (Nat.zero_le _) hlt), (Nat.dvd_add_right H20.out).2 ⟨1, rfl⟩⟩
      clear HI HS HW H20
      generalize ha2 : a + 20 = a2 at *
      have HA2 := Lib.hid ha2
      clear ha2
      go_wp2_with (go_at_call 123; refine RC.out.mono ?_; rintro e' w1' ⟨rfl, d1, hs1, hm1, hw1⟩; have F9 := Lib.hid (N9.out d1 hs1 hm1); have WR := Lib.hid hw1; clear hs1 hm1 hw1)
      go_roundw
      case rel => exact ⟨a2, d1, by omega, F9.out.2.2, by go_num, by go_num, F9.out.1, F9.out.2.1, WR.out⟩
      case measure => have := HA2.out; simp [intOf]; omega
    · have hz : ¬ ((a + 20 : Nat) : Int) ≤ (n : Int) := by omega
      have RC := Lib.hid (HIN.out a n dk wq HW.out han (Nat.le_refl _) (HI.out.asc (Nat.le_refl _)) (HBD.out dk HS.out))
      have N9 : Hid (∀ e, Srt K e a n → Same a n dk e → BlkS K e n 20 ∧ Same 0 n d0 e) := Lib.hid fun e h1 h2 => ⟨HI.out.last H20.out (by omega) h1 h2, HS.out.trans (h2.wide (Nat.zero_le _) (Nat.le_refl _))⟩
      clear HI HS HW H20 HIN
      generalize a + 20 = a2 at *
      go_wp2_with (go_at_call 123; refine RC.out.mono ?_; rintro e' w1' ⟨rfl, d1, hs1, hm1, hw1⟩; have F9 := Lib.hid (N9.out d1 hs1 hm1); have WR := Lib.hid hw1; clear hs1 hm1 hw1)
      clear RC N9 hz
      go_loopw [6] (fun sv wr => ∃ (bs : Nat) (dk : Array Nat), 1 ≤ bs ∧ bs ≤ 2048 ∧ sv = .int .i64 bs ∧ BlkS K dk n bs ∧ Same 0 n d0 dk ∧ RW V w blk off d dk wr) (fun sv _ => n - (intOf sv).toNat)
      case atStart => exact ⟨20, d1, by omega, by omega, rfl, F9.out.1, F9.out.2, WR.out⟩
      case round =>
        clear F9 WR
        obtain ⟨bs, dk, hb1, hb2, rfl, hi, hs, hw⟩ := hrel
        rename World => wp
        have HI := Lib.hid hi
        have HS := Lib.hid hs
        have HW := Lib.hid hw
        clear hi hs hw
        by_cases hlt2 : bs < n
        · have hz : (bs : Int) < (n : Int) := by omega
          obtain ⟨b2, hb2e⟩ : ∃ b2, b2 = 2 * bs := ⟨_, rfl⟩
          have B2 := Lib.hid hb2e
          have hw2 : IntKind.i64.wrap (2 * (bs : Int)) = (b2 : Int) := by rw [show 2 * (bs : Int) = (b2 : Int) by omega]; exact IntWalk.i64_in _ (by omega)
          have hw3 : IntKind.i64.wrap ((bs : Int) * 2) = (b2 : Int) := by rw [show (bs : Int) * 2 = (b2 : Int) by omega]; exact IntWalk.i64_in _ (by omega)
          have M0 : Hid (Mid K dk n bs 0) := Lib.hid ⟨fun x _ hx => by omega, fun x hx _ hxn => HI.out x hx hxn⟩
          have hb2n : b2 ≤ 2048 := by omega
          clear hb2e HI
          go_wp2_with fail
          go_loopw [7, 8] (fun av bv wr => ∃ (a b : Nat) (dk : Array Nat), a ≤ n ∧ b2 ∣ a ∧ a + b2 = b ∧ av = .int .i64 a ∧ bv = .int .i64 b ∧ Mid K dk n bs a ∧ Same 0 n d0 dk ∧ RW V w blk off d dk wr) (fun _ bv _ => n + 5000 - (intOf bv).toNat)
          case atStart => exact ⟨0, b2, dk, Nat.zero_le _, ⟨0, rfl⟩, Nat.zero_add _, rfl, rfl, M0.out, HS.out, HW.out⟩
          case round =>
            clear M0 HS HW
            obtain ⟨a, b, dk, han, hdv, hab, rfl, rfl, hm, hs, hw⟩ := hrel
            rename World => wr
            have HDV : Hid (2 * bs ∣ a) := Lib.hid (B2.out ▸ hdv)
            have HM := Lib.hid hm
            have HS := Lib.hid hs
            have HW := Lib.hid hw
            have HAB := Lib.hid hab
            clear hm hs hw hdv
            have hmw : IntKind.i64.wrap ((a : Int) + (bs : Int)) = ((a + bs : Nat) : Int) := by rw [show (a : Int) + (bs : Int) = ((a + bs : Nat) : Int) by push_cast; rfl]; exact IntWalk.i64_in _ (by omega)
            have hbe := B2.out
            by_cases hbn : b ≤ n
            · have hz2 : (b : Int) ≤ (n : Int) := by omega
              have hbw : IntKind.i64.wrap ((b : Int) + (b2 : Int)) = ((b + b2 : Nat) : Int) := by rw [show (b : Int) + (b2 : Int) = ((b + b2 : Nat) : Int) by push_cast; rfl]; exact IntWalk.i64_in _ (by omega)
              have L1 := HM.out.left HDV.out (by omega) (by omega)
              have R1 := HM.out.right HDV.out (b := b) (by omega) (by omega)
              have RC := Lib.hid (HMG.out a (a + bs) b dk wr HW.out (by omega) (by omega) hbn (L1.merge R1) (HBD.out dk HS.out))
              have N9 : Hid (∀ e, Srt K e a b → Same a b dk e → Mid K e n bs b ∧ Same 0 n d0 e ∧ b2 ∣ b) := Lib.hid fun e h1 h2 => by
                have hb' : b = a + 2 * bs := by omega
                refine ⟨?_, HS.out.trans (h2.wide (Nat.zero_le _) hbn), ?_⟩
                · have g1 := L1.of R1 h1 h2 (by omega) (by omega)
                  subst hb'
                  exact HM.out.step HDV.out g1 hbn h2
                · rw [hb', hbe]
                  exact (Nat.dvd_add_right HDV.out).2 (Nat.dvd_refl _)
              clear L1 R1 HM HS HW hab hbe HDV
              generalize a + bs = m at *
              generalize hb4 : b + b2 = b4 at *
              have HB4 := Lib.hid hb4
              clear hb4
              go_wp2_with (go_at_call 124; refine RC.out.mono ?_; rintro e' w2' ⟨rfl, d2, hs2, hm2, hw2⟩; have F9 := Lib.hid (N9.out d2 hs2 hm2); have WR := Lib.hid hw2; clear hs2 hm2 hw2)
              go_roundw
              case rel => exact ⟨b, b4, d2, hbn, F9.out.2.2, HB4.out, rfl, by go_num, F9.out.1, F9.out.2.1, WR.out⟩
              case measure => have h1 := HB4.out; have h2 := HAB.out; have h3 := B2.out; simp [intOf]; omega
            · have hz2 : ¬ (b : Int) ≤ (n : Int) := by omega
              have N9 : Hid (∀ e, Blk K e a n → Same a n dk e → BlkS K e n b2 ∧ Same 0 n d0 e) := Lib.hid fun e h1 h2 => ⟨by have := HM.out.last HDV.out h1 (by omega) h2; rw [show bs * 2 = b2 by omega] at this; exact this, HS.out.trans (h2.wide (Nat.zero_le _) (Nat.le_refl _))⟩
              by_cases hmn : a + bs < n
              · have hz3 : ((a + bs : Nat) : Int) < (n : Int) := by omega
                have L1 := HM.out.left HDV.out (by omega) (by omega)
                have R1 := HM.out.right HDV.out (b := n) (by omega) (by omega)
                have RC := Lib.hid (HMG.out a (a + bs) n dk wr HW.out (by omega) (by omega) (Nat.le_refl _) (L1.merge R1) (HBD.out dk HS.out))
                have N8 : Hid (∀ e, Srt K e a n → Same a n dk e → BlkS K e n b2 ∧ Same 0 n d0 e) := Lib.hid fun e h1 h2 => N9.out e (L1.of R1 h1 h2 (by omega) (by omega)) h2
                clear L1 R1 HM HS HW hab hbe HDV N9
                generalize a + bs = m at *
                go_wp2_with (go_at_call 124; refine RC.out.mono ?_; rintro e' w2' ⟨rfl, d2, hs2, hm2, hw2⟩; have F9 := Lib.hid (N8.out d2 hs2 hm2); have WR := Lib.hid hw2; clear hs2 hm2 hw2)
                go_roundw
                case rel => exact ⟨b2, d2, by have := B2.out; omega, hb2n, by go_num, F9.out.1, F9.out.2, WR.out⟩
                case measure => have := B2.out; simp [intOf]; omega
              · have hz3 : ¬ ((a + bs : Nat) : Int) < (n : Int) := by omega
                have F9 := Lib.hid (N9.out dk (HM.out.rest HDV.out (by omega)) (Same.refl _ _ _))
                clear HM HS hab hbe HDV N9
                generalize a + bs = m at *
                go_wp2_with fail
                go_roundw
                case rel => exact ⟨b2, dk, by have := B2.out; omega, hb2n, by go_num, F9.out.1, F9.out.2, HW.out⟩
                case measure => have := B2.out; simp [intOf]; omega
        · have hz : ¬ (bs : Int) < (n : Int) := by omega
          have F9 : Hid (Blk K dk 0 n) := Lib.hid (by
            rcases Nat.eq_zero_or_pos n with h | h
            · exact Blk.none (by omega)
            · have := HI.out 0 ⟨0, rfl⟩ h
              rw [show min (0 + bs) n = n by omega] at this
              exact this)
          clear HI
          go_wp2_with fail
          go_end0
          exact ⟨rfl, dk, F9.out, HS.out, HW.out⟩
end Go.Proofs.Ytfkjnaaplhcheaa.Fs

namespace Go.Proofs.Ytfkjnaaplhcheaa
open Go Go.RowKit Ieee

theorem drawnMeans1_any (x y : Nat) (hx : isNan single x = false) (hy : isNan single y = false) (w : World) : Calls Try.prog 72 #[.float .f32 x, .float .f32 y] w (Quiet (.int .i64 (cmpI x y)) w) := by
  have HC := Lib.hid fun w => Compare_any x y hx hy w
  clear hx hy
  go_enter Try.func72, Try.ntmps72
  go_wp2_with (go_at_call 73; refine (HC.out _).mono ?_; rintro e w1 ⟨rfl, m, rfl⟩)
  go_ret
  exact ⟨rfl, _, rfl⟩
end Go.Proofs.Ytfkjnaaplhcheaa

namespace Go.Proofs.Ytfkjnaaplhcheaa.Fs
open Go Go.RowKit Go.Sort Ieee

def valF (xs : List Nat) (i : Nat) : Nat := xs.getD i 0
/-- the key by which the places of a list rise: the value, then the place -/
def keyF (xs : List Nat) (i : Nat) : Nat := (key single (valF xs i) + 4294967296).toNat * 1024 + i
def cfF (xs : List Nat) (x y : Nat) : Int := cmpI (valF xs x) (valF xs y)
theorem cmpI_neg {x y : Nat} (hx : isNan single x = false) (hy : isNan single y = false) : cmpI x y < 0 ↔ key single x < key single y := by
  have h1 := lt_key (f := single) (by decide) hx hy
  unfold cmpI
  by_cases h : single.order x y = some .lt
  · rw [if_pos h]
    rw [h] at h1
    have h2 := of_decide_eq_true h1.symm
    constructor
    · intro _; exact h2
    · intro _; omega
  · rw [if_neg h]
    have h2 : ¬ key single x < key single y := of_decide_eq_false (by rw [← h1]; simpa using h)
    constructor
    · intro h3
      exfalso
      split at h3 <;> omega
    · intro h3; omega
theorem keyOf_fl {xs : List Nat} (hp : ∀ x ∈ xs, isNan single x = false ∧ -4294967296 ≤ key single x) (hl : xs.length ≤ 1024) : KeyOf (keyF xs) (cfF xs) xs.length := fun x y hx hy => by
  have g : ∀ i, i < xs.length → isNan single (valF xs i) = false ∧ -4294967296 ≤ key single (valF xs i) := fun i hi => by
    unfold valF
    rw [List.getD_eq_getElem?_getD, List.getElem?_eq_getElem hi]
    exact hp _ (List.getElem_mem hi)
  have h := cmpI_neg (g x hx).1 (g y (by omega)).1
  have g1 := (g x hx).2
  have g2 := (g y (by omega)).2
  unfold keyF cfF
  constructor
  · intro h1
    have := h.1 h1
    omega
  · intro h1
    have : ¬ _ := fun h2 => h1 (h.2 h2)
    omega
set_option maxRecDepth 100000 in
theorem SortStable_any (xs : List Nat) (blk cap : Nat) (d : Array Nat) (w : World) (hp : ∀ x ∈ xs, isNan single x = false ∧ -4294967296 ≤ key single x) (hl : xs.length ≤ 1024) (hd : d.size = xs.length) (h0 : ∀ p, p < d.size → d[p]! = p) (hH : Holds (eV (valF xs)) w blk 0 d) :
    Calls Try.prog 71 #[.slice (some ⟨blk, 0, none⟩) d.size cap, shF] w (fun e w' => e = .returned (.tuple #[]) ∧ ∃ d' : Array Nat, Blk (keyF xs) d' 0 d.size ∧ Same 0 d.size d d' ∧ RW (valF xs) w blk 0 d d' w') := by
  have hC : ShCmp (valF xs) w blk 0 d (cfF xs) := fun dk W x y hW hx hy => by
    have g : ∀ i, i < xs.length → isNan single (valF xs i) = false := fun i hi => by
      unfold valF
      rw [List.getD_eq_getElem?_getD, List.getElem?_eq_getElem hi]
      exact (hp _ (List.getElem_mem hi)).1
    exact drawnMeans1_any _ _ (g x (by omega)) (g y (by omega)) W
  have HS := Lib.hid (stable_any (keyF xs) (valF xs) (cfF xs) blk 0 cap d d w w hC (by rw [hd]; exact keyOf_fl hp hl) (by omega) (RW.start hH) h0)
  clear hC hp h0 hH hd
  unfold shF at HS ⊢
  generalize hn : d.size = n at *
  generalize keyF xs = K at *
  generalize valF xs = V at *
  go_enter Try.func71, Try.ntmps71
  go_wp2_with (go_at_call 106; refine HS.out.mono ?_; rintro e w1 ⟨rfl, hx9⟩; have H9 := Lib.hid hx9; clear hx9)
  go_end0
  exact ⟨rfl, H9.out⟩
end Go.Proofs.Ytfkjnaaplhcheaa.Fs
