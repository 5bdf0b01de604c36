/-
  slices.symMergeCmpFunc of indices, whole.
-/
import Derived.Test.YtmpnfjajlmafgaaSx
namespace Go.Proofs.Ytmpnfjajlmafgaa
open Go Go.RowKit Go.Sort

theorem symMerge_any (K : Nat → Nat) (cf : Nat → Nat → Int) (blk off cap bx : Nat) (d : Array Nat) (w : World) (hC : CmpAt K cf w blk off bx d) (hsz : d.size ≤ 1048576) : ∀ N, MgIH K w blk off cap bx N d
  | 0 => fun a m b d0 W h => absurd h (by omega)
  | N + 1 => fun a m b d0 W hN h h1 h2 h3 hm hbd => by
    have IH := symMerge_any K cf blk off cap bx d w hC hsz N
    by_cases hl : m = a + 1
    · subst hl
      exact symMerge_left K cf blk off cap a b bx d d0 w W hC hsz h hm h2 h3 hbd
    · by_cases hr : b = m + 1
      · subst hr
        exact symMerge_right K cf blk off cap a m bx d d0 w W hC hsz h hm (by omega) h3 hbd
      · exact symMerge_gen K cf blk off cap a m b bx d d0 w W hC hsz (fun a' m' b' d' W' g1 g2 g3 g4 g5 g6 g7 => IH a' m' b' d' W' (by omega) g2 g3 g4 g5 g6 g7) h hm (by omega) (by omega) h3 hbd

/-- a stretch that rises and holds the numbers of its own places -/
structure Blk (K : Nat → Nat) (d : Array Nat) (a b : Nat) : Prop where
  s : Srt K d a b
  i : ∀ p, a ≤ p → p < b → a ≤ d[p]! ∧ d[p]! < b
theorem Blk.merge {K : Nat → Nat} {d : Array Nat} {a m b : Nat} (h : Blk K d a m) (h' : Blk K d m b) : SM K a m b d := ⟨h.s, h'.s, fun p q h1 h2 h3 h4 => by
  have := h.i p h1 h2
  have := h'.i q h3 h4
  omega⟩
theorem Blk.of {K : Nat → Nat} {d e : Array Nat} {a m b : Nat} (h : Blk K d a m) (h' : Blk K d m b) (hs : Srt K e a b) (hm : Same a b d e) (ha : a ≤ m) (hb : m ≤ b) : Blk K e a b := ⟨hs, hm.all (P := fun z => a ≤ z ∧ z < b) fun p h1 h2 => by
  by_cases hp : p < m
  · have := h.i p h1 hp
    omega
  · have := h'.i p (by omega) h2
    omega⟩
theorem Blk.far {K : Nat → Nat} {d e : Array Nat} {a b a' b' : Nat} (h : Blk K d a b) (hm : Same a' b' d e) (hd : b ≤ a' ∨ b' ≤ a) : Blk K e a b :=
  ⟨h.s.congr fun p h1 h2 => hm.2.2 p (by omega), fun p h1 h2 => by rw [hm.2.2 p (by omega)]; exact h.i p h1 h2⟩
theorem Blk.none {K : Nat → Nat} {d : Array Nat} {a b : Nat} (h : b ≤ a) : Blk K d a b := ⟨fun p q h1 h2 h3 => by omega, fun p h1 h2 => by omega⟩
/-- two rows that rise by a key, with the same numbers, are one -/
theorem srt_unique {K : Nat → Nat} {d e : Array Nat} {n : Nat} (h : Srt K d 0 n) (h' : Srt K e 0 n) (h1 : ∀ p, p < n → ∃ q, q < n ∧ e[q]! = d[p]!) (h2 : ∀ p, p < n → ∃ q, q < n ∧ d[q]! = e[p]!) : ∀ p, p < n → d[p]! = e[p]! := by
  intro p
  induction p using Nat.strongRecOn with
  | ind p ih =>
    intro hp
    obtain ⟨q, hq, e1⟩ := h1 p hp
    obtain ⟨r, hr, e2⟩ := h2 p hp
    rcases Nat.lt_trichotomy q p with hqp | hqp | hqp
    · have := ih q hqp hq
      have h3 := h q p (by omega) hqp hp
      rw [this, e1] at h3
      omega
    · subst hqp
      exact e1.symm
    · rcases Nat.lt_trichotomy r p with hrp | hrp | hrp
      · have := ih r hrp hr
        have h3 := h' r p (by omega) hrp hp
        rw [← this, e2] at h3
        omega
      · subst hrp
        exact e2
      · have h3 := h' p q (by omega) hqp hq
        have h4 := h p r (by omega) hrp hr
        rw [e1] at h3
        rw [e2] at h4
        omega
theorem dvd_next {c x y : Nat} (h : c ∣ x) (h' : c ∣ y) (h1 : x ≤ y) (h2 : y < x + c) : y = x := by
  obtain ⟨i, rfl⟩ := h
  obtain ⟨j, rfl⟩ := h'
  have h3 : c * j < c * (i + 1) := by rw [Nat.mul_add, Nat.mul_one]; exact h2
  have h4 := Nat.lt_of_mul_lt_mul_left h3
  have h5 : i ≤ j := by
    rcases Nat.lt_or_ge j i with h | h
    · have h6 : c * (j + 1) ≤ c * i := Nat.mul_le_mul_left c h
      have h7 : c * (j + 1) = c * j + c := by rw [Nat.mul_add, Nat.mul_one]
      have h8 : c = 0 := by omega
      subst h8
      omega
    · exact h
  rw [show j = i by omega]
def BlkS (K : Nat → Nat) (d : Array Nat) (n bs : Nat) : Prop := ∀ x, bs ∣ x → x < n → Blk K d x (min (x + bs) n)
structure Ins (K : Nat → Nat) (d : Array Nat) (n a : Nat) : Prop where
  l : ∀ x, 20 ∣ x → x < a → Blk K d x (min (x + 20) n)
  r : ∀ p, a ≤ p → p < n → d[p]! = p
structure Mid (K : Nat → Nat) (d : Array Nat) (n bs a : Nat) : Prop where
  l : ∀ x, 2 * bs ∣ x → x < a → Blk K d x (min (x + 2 * bs) n)
  r : ∀ x, bs ∣ x → a ≤ x → x < n → Blk K d x (min (x + bs) n)
theorem Ins.blk {K : Nat → Nat} {d e : Array Nat} {n a b : Nat} (h : Ins K d n a) (hb : b ≤ n) (hs : Srt K e a b) (hm : Same a b d e) : Blk K e a b := ⟨hs, hm.all (P := fun z => a ≤ z ∧ z < b) fun p h1 h2 => by rw [h.r p h1 (by omega)]; omega⟩
theorem Ins.asc {K : Nat → Nat} {d : Array Nat} {n a b : Nat} (h : Ins K d n a) (hb : b ≤ n) : ∀ p q, a ≤ p → p < q → q < b → d[p]! < d[q]! := fun p q h1 h2 h3 => by rw [h.r p h1 (by omega), h.r q (by omega) (by omega)]; exact h2
theorem Ins.step {K : Nat → Nat} {d e : Array Nat} {n a : Nat} (h : Ins K d n a) (ha : 20 ∣ a) (hn : a + 20 ≤ n) (hs : Srt K e a (a + 20)) (hm : Same a (a + 20) d e) : Ins K e n (a + 20) := by
  refine ⟨fun x hx hxa => ?_, fun p h1 h2 => by rw [hm.2.2 p (by omega)]; exact h.r p (by omega) h2⟩
  rcases Nat.lt_or_ge x a with hlt | hge
  · have h3 : x + 20 ≤ a := by
      rcases Nat.lt_or_ge a (x + 20) with h4 | h4
      · have := dvd_next hx ha (by omega) h4
        omega
      · exact h4
    exact (h.l x hx hlt).far hm (.inl (by omega))
  · obtain rfl := dvd_next ha hx hge hxa
    rw [show min (x + 20) n = x + 20 by omega]
    exact h.blk (by omega) hs hm
theorem Ins.last {K : Nat → Nat} {d e : Array Nat} {n a : Nat} (h : Ins K d n a) (ha : 20 ∣ a) (hn : n < a + 20) (hs : Srt K e a n) (hm : Same a n d e) : BlkS K e n 20 := fun x hx hxn => by
  rcases Nat.lt_or_ge x a with hlt | hge
  · have h3 : x + 20 ≤ a := by
      rcases Nat.lt_or_ge a (x + 20) with h4 | h4
      · have := dvd_next hx ha (by omega) h4
        omega
      · exact h4
    exact (h.l x hx hlt).far hm (.inl (by omega))
  · obtain rfl := dvd_next ha hx hge (by omega)
    rw [show min (x + 20) n = n by omega]
    exact h.blk (Nat.le_refl _) hs hm
theorem Mid.step {K : Nat → Nat} {d e : Array Nat} {n bs a : Nat} (h : Mid K d n bs a) (ha : 2 * bs ∣ a) (hb : Blk K e a (a + 2 * bs)) (hn : a + 2 * bs ≤ n) (hm : Same a (a + 2 * bs) d e) : Mid K e n bs (a + 2 * bs) := by
  refine ⟨fun x hx hxa => ?_, fun x hx h1 h2 => (h.r x hx (by omega) h2).far hm (.inr h1)⟩
  rcases Nat.lt_or_ge x a with hlt | hge
  · have h3 : x + 2 * bs ≤ a := by
      rcases Nat.lt_or_ge a (x + 2 * bs) with h4 | h4
      · have := dvd_next hx ha (by omega) h4
        omega
      · exact h4
    exact (h.l x hx hlt).far hm (.inl (by omega))
  · obtain rfl := dvd_next ha hx hge hxa
    rw [show min (x + 2 * bs) n = x + 2 * bs by omega]
    exact hb
theorem Mid.last {K : Nat → Nat} {d e : Array Nat} {n bs a : Nat} (h : Mid K d n bs a) (ha : 2 * bs ∣ a) (hb : Blk K e a n) (hn : n < a + 2 * bs) (hm : Same a n d e) : BlkS K e n (bs * 2) := fun x hx hxn => by
  rw [Nat.mul_comm] at hx
  rw [Nat.mul_comm bs 2]
  rcases Nat.lt_or_ge x a with hlt | hge
  · have h3 : x + 2 * bs ≤ a := by
      rcases Nat.lt_or_ge a (x + 2 * bs) with h4 | h4
      · have := dvd_next hx ha (by omega) h4
        omega
      · exact h4
    exact (h.l x hx hlt).far hm (.inl (by omega))
  · obtain rfl := dvd_next ha hx hge (by omega)
    rw [show min (x + 2 * bs) n = n by omega]
    exact hb
theorem Mid.left {K : Nat → Nat} {d : Array Nat} {n bs a : Nat} (h : Mid K d n bs a) (ha : 2 * bs ∣ a) (hn : a + bs ≤ n) (h0 : 0 < bs) : Blk K d a (a + bs) := by
  have := h.r a (Nat.dvd_trans ⟨2, Nat.mul_comm 2 bs⟩ ha) (Nat.le_refl _) (by omega)
  rw [show min (a + bs) n = a + bs by omega] at this
  exact this
theorem Mid.right {K : Nat → Nat} {d : Array Nat} {n bs a b : Nat} (h : Mid K d n bs a) (ha : 2 * bs ∣ a) (hb : min (a + bs + bs) n = b) (h0 : a + bs < n) : Blk K d (a + bs) b := by
  have h1 : bs ∣ a := Nat.dvd_trans ⟨2, Nat.mul_comm 2 bs⟩ ha
  have := h.r (a + bs) ((Nat.dvd_add_right h1).2 (Nat.dvd_refl bs)) (by omega) h0
  rw [hb] at this
  exact this
theorem Mid.rest {K : Nat → Nat} {d : Array Nat} {n bs a : Nat} (h : Mid K d n bs a) (ha : 2 * bs ∣ a) (hn : n ≤ a + bs) : Blk K d a n := by
  rcases Nat.lt_or_ge a n with hlt | hge
  · have := h.r a (Nat.dvd_trans ⟨2, Nat.mul_comm 2 bs⟩ ha) (Nat.le_refl _) hlt
    rw [show min (a + bs) n = n by omega] at this
    exact this
  · exact Blk.none (by omega)
end Go.Proofs.Ytmpnfjajlmafgaa
