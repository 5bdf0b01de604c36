/-
  Records as bytes: plain.
-/
import Derived.Lib.BufSteps
import Derived.Laws.IdiomStrings
namespace Go.Proofs.YtadkpmmbnenemaaGreatDoor
open Go Go.RowKit

def u8 (n : Int) : UInt8 := UInt8.ofNat (n % 256).toNat
theorem u8_nat (n : Int) : ((u8 n).toNat : Int) = n % 256 := by
  unfold u8
  have h : (UInt8.ofNat (n % 256).toNat).toNat = (n % 256).toNat % 256 := UInt8.toNat_ofNat'
  rw [h]
  omega
/-- the lowest k bytes of a number, the lowest one first -/
def le (n : Int) : Nat → List UInt8
  | 0 => []
  | k + 1 => le n k ++ [u8 (n / 256 ^ k)]
theorem le_len (n : Int) (k : Nat) : (le n k).length = k := by
  induction k with
  | zero => rfl
  | succ k ih => rw [le, List.length_append, ih]; rfl
theorem le_two (n : Int) : le n 2 = [u8 n, u8 (n / 256)] := by
  show ([] ++ [u8 (n / 256 ^ 0)]) ++ [u8 (n / 256 ^ 1)] = _
  rw [show (256 : Int) ^ 0 = 1 by decide, show (256 : Int) ^ 1 = 256 by decide, Int.ediv_one]
  rfl
/-- the check number -/
def chk (c : Int) (l : List UInt8) : Int := l.foldl (fun c b => (883 * c + (b.toNat : Int) + 167) % 65003) c
theorem chk_snoc (c : Int) (l : List UInt8) (b : UInt8) : chk c (l ++ [b]) = (883 * chk c l + (b.toNat : Int) + 167) % 65003 := by
  unfold chk
  rw [List.foldl_append]
  rfl
theorem chk_range : ∀ (l : List UInt8) (c : Int), 0 ≤ c ∧ c < 65003 → 0 ≤ chk c l ∧ chk c l < 65003 := by
  intro l
  induction l with
  | nil => exact fun c h => h
  | cons b l ih => exact fun c h => ih ((883 * c + (b.toNat : Int) + 167) % 65003) (by omega)
/-- the bytes of a record but for the check number, up to k numbers -/
def headL (nm : List UInt8) (k a b : Int) (m : Nat) : List UInt8 := [82, 69, 67, 49] ++ [u8 nm.length] ++ nm ++ [u8 k] ++ le a 8 ++ le b 8 ++ le m 2
def drawL : List Int → List UInt8
  | [] => []
  | n :: ds => le n 2 ++ drawL ds
theorem drawL_snoc (ds : List Int) (n : Int) : drawL (ds ++ [n]) = drawL ds ++ le n 2 := by
  induction ds with
  | nil => simp [drawL]
  | cons d ds ih => simp [drawL, ih]
theorem drawL_len (ds : List Int) : (drawL ds).length = 2 * ds.length := by
  induction ds with
  | nil => rfl
  | cons d ds ih => simp [drawL, ih, le_len]; try omega
def recL (nm : List UInt8) (k a b : Int) (ds : List Int) : List UInt8 := headL nm k a b ds.length ++ drawL ds
def storeL (nm : List UInt8) (k a b : Int) (ds : List Int) : List UInt8 := recL nm k a b ds ++ le (chk 0 (recL nm k a b ds)) 2
theorem headL_len (nm : List UInt8) (k a b : Int) (m : Nat) : (headL nm k a b m).length = nm.length + 24 := by
  simp [headL, le_len]; try omega
theorem recL_len (nm : List UInt8) (k a b : Int) (ds : List Int) : (recL nm k a b ds).length = nm.length + 24 + 2 * ds.length := by
  simp [recL, headL_len, drawL_len]
theorem storeL_len (nm : List UInt8) (k a b : Int) (ds : List Int) : (storeL nm k a b ds).length = nm.length + 26 + 2 * ds.length := by
  simp [storeL, recL_len, le_len]; try omega

/-- bytes as cells -/
def bc (l : List UInt8) : List Value := l.map fun b => Value.int .u8 b.toNat
theorem bc_len (l : List UInt8) : (bc l).length = l.length := by simp [bc]
theorem bc_app (l m : List UInt8) : bc (l ++ m) = bc l ++ bc m := by simp [bc]
theorem bc_str (s : ByteArray) : Lib.strCells s = bc s.data.toList := rfl
theorem bc_u8 (n : Int) : bc [u8 n] = [.int .u8 (n % 256)] := by
  show [Value.int .u8 ((u8 n).toNat : Int)] = _
  rw [u8_nat]
theorem bc_one (l : List UInt8) : ∀ u ∈ bc l, u.oneCell' = true := by
  intro u hu
  simp only [bc, List.mem_map] at hu
  obtain ⟨b, _, rfl⟩ := hu
  rfl

section
variable {P : Program}
/-- 'buf = append(buf, x, y)', 'buf = append(buf, xs...)': cells behind an address -/
theorem wpList_append_many {ops : Array Oper} {rest : List Oper} {o : Oper} {a : Act} {Q : Exit → Act → World → Prop} {w : World} (hgd : o.guard = none) (s x : Operand) (t : TypeId)
    (ho : o.op = .call { callee := .builtin .append, args := #[s, x], argTypes := #[t, t] })
    (B : Nat) (e : TypeId) (i : TypeInfo) (ht : P.underlying t = some (.slice e)) (hi : P.info? e = some i) (hz : i.zero = some (.int .u8 0)) (hsize : i.size = 1) (hby : i.bytes = 1)
    (v : Value) (n : Nat) (xs : List Value) (hs : a.eval s = v) (W0 : World) (hb : Lib.OwnBuf B e v n xs W0 w) (ad : Addr) (m c : Nat) (news : List Value)
    (hx : a.eval x = .slice (some ad) m c) (hl : news.length = m) (hnews : ∀ j u, news[j]? = some u → w.cell? (ad.add j) = some u) (h1 : ∀ u ∈ news, u.oneCell' = true) (hlen : n + m ≤ 140737488355328)
    (h : ∀ v' w', Lib.OwnBuf B e v' (n + m) (xs ++ news) W0 w' → wpList P ops Q rest (a.put o.dst v') w') : wpList P ops Q (o :: rest) a w := by
  refine wpList_append_ownF _ hgd s x t ho B e i (.int .u8 0) 1 1 ht hi hz hsize hby rfl (by decide) v n xs hs hb.1 ad m c news hx (by omega) hnews h1 (by unfold maxLen; omega) (by omega) hb.2.2 ?_
  intro v' w' ho' hg _
  exact h v' w' (hb.grown ho' hg)
end
section
variable {P : Program}
/-- at a step of a region that draws its order -/
theorem step_append_many {ops : Array Oper} {o : Oper} {a : Act} {K : Act → World → Prop} {Q : Exit → Act → World → Prop} {E : Prop} {w : World} (hgd : o.guard = none) (s x : Operand) (t : TypeId)
    (ho : o.op = .call { callee := .builtin .append, args := #[s, x], argTypes := #[t, t] })
    (B : Nat) (e : TypeId) (i : TypeInfo) (ht : P.underlying t = some (.slice e)) (hi : P.info? e = some i) (hz : i.zero = some (.int .u8 0)) (hsize : i.size = 1) (hby : i.bytes = 1)
    (v : Value) (n : Nat) (xs : List Value) (hs : a.eval s = v) (W0 : World) (hb : Lib.OwnBuf B e v n xs W0 w) (ad : Addr) (m c : Nat) (news : List Value)
    (hx : a.eval x = .slice (some ad) m c) (hl : news.length = m) (hnews : ∀ j u, news[j]? = some u → w.cell? (ad.add j) = some u) (h1 : ∀ u ∈ news, u.oneCell' = true) (hlen : n + m ≤ 140737488355328)
    (h : ∀ v' w', Lib.OwnBuf B e v' (n + m) (xs ++ news) W0 w' → K (a.put o.dst v') w') : if Region.wanted o (yielded ops a.tmps) = true then Oper.wp P o a w K Q else E := by
  have hw : Region.wanted o (yielded ops a.tmps) = true := by simp [Region.wanted, hgd]
  rw [if_pos hw]
  obtain ⟨v', w', hr, h2, h3, _⟩ := run_append_ownF (P := P) w B t o.type e i (.int .u8 0) 1 1 ht hi hz hsize hby rfl (by decide) v n xs hb.1 ad m c news (by omega) hnews h1 (by unfold maxLen; omega) (by omega) hb.2.2
  unfold Oper.wp execOp
  simp only [ho, resolve, invoke, builtin, Sem.run_bind, Sem.run_pure, Result.andThen_ok, List.map_toArray, List.map_cons, List.map_nil, hs, hx, hr]
  exact h v' w' (hb.grown h2 h3)
end
section
variable {B n : Nat} {e : TypeId} {v : Value} {W0 w : World}
theorem buf_form {l : List UInt8} (h : Lib.OwnBuf B e v l.length (bc l) W0 w) (hl : 0 < l.length) : ∃ g cap, v = .slice (some ⟨g, 0, none⟩) l.length cap := by
  rcases h.1.2 with ⟨rfl, h0⟩ | ⟨g, cap, _, _, rfl, _⟩
  · omega
  · exact ⟨g, cap, rfl⟩
theorem buf_cells {l : List UInt8} {g cap : Nat} (h : Lib.OwnBuf B e (.slice (some ⟨g, 0, none⟩) l.length cap) l.length (bc l) W0 w) : ∀ j (hj : j < l.length), w.cell? ((⟨g, 0, none⟩ : Addr).add j) = some (.int .u8 (l[j].toNat : Int)) := by
  intro j hj
  refine h.1.cells (g := g) rfl j _ ?_
  unfold bc
  rw [List.getElem?_map, List.getElem?_eq_getElem hj]
  rfl
end
end Go.Proofs.YtadkpmmbnenemaaGreatDoor

