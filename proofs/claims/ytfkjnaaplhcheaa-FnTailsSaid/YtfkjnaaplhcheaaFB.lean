/-
  Count seeds, words of the top 22: the sums whose first mixed step ends in five zeros, tile by tile (a tile: 2^12 lanes); what the tiles cover.
  Count seeds: whoever is behind a sum whose first mixed step ends in five zeros lies in a tile that has been looked at.
  Shift seeds, words of the top 22: states whose lowest bit goes from 0 to 1, tile by tile; what the tiles cover.
-/
import Derived.Test.YtfkjnaaplhcheaaFA
namespace SeedFact
namespace C22
def dsL : List Nat := [9224544597284051968, 13835644335496801792, 6917822167748400896, 12682283120728976256, 6341141560364488128, 4611411415391481088, 2305705707695740544, 1152852853847870272, 9799798463778710944, 16141033194873146496, 17293888634291349056, 17870316354000450336]
def vO : Nat := ones 12
def vM : Nat := Nat.mul (ones 12) 18446744073709551615
def vB : Nat := Nat.mul (ones 12) 18446744073709551616
def vR : Nat := rv dsL
def tst (cP cQ ub ic : Nat) : Bool :=
  and (Nat.ble (Nat.land (Nat.add ic 354008378) 1208925819614629174706175) 3354856640) (and (Nat.ble (Nat.land (Nat.add ub cP) 4294967295) 157437759) (Nat.ble (Nat.land (Nat.add ub cQ) 576460752303423487) 21032343193785279))
def body (cP cQ ub ic : Nat) : Bool := cond (tst cP cQ ub ic) (chkV vO vM vB 94489280512 (addm vO vM vR ub)) true
def loop1 (cP cQ : Nat) : Nat → Nat → Nat → Bool
  | 0, _, _ => true
  | n+1, ub, ic => and (body cP cQ ub ic) (loop1 cP cQ n (Nat.land (Nat.add ub 2345120858552320) 18446744073709551615) (Nat.land (Nat.add ic 1208925819614629125097664) 1208925819614629174706175))
def loop2 (cP cQ : Nat) : Nat → Nat → Nat → Bool
  | 0, _, _ => true
  | n+1, ub, ic => and (loop1 cP cQ 11 ub ic) (loop2 cP cQ n (Nat.land (Nat.add ub 9222822830782962176) 18446744073709551615) (Nat.land (Nat.add ic 194235152) 1208925819614629174706175))
def rhoL (l : Nat) : Nat := l * 21 % 32
def t00 (f g l : Nat) : Int := ((-1244002303470787887104) * ((f : Int) * 134217728 - ((14873627383544574269 * rhoL l % 4294967296 : Nat) : Int)) + 31391915966464 * ((g : Int) * 18014398509481984 - ((14873627383544574269 * rhoL l % 576460752303423488 : Nat) : Int)) + (-166967161554613361106231492608)) / 79228162514264337593543950336
def t01 (f g l : Nat) : Int := ((-1851015475646292819968) * ((f : Int) * 134217728 - ((14873627383544574269 * rhoL l % 4294967296 : Nat) : Int)) + (-2168958484480) * ((g : Int) * 18014398509481984 - ((14873627383544574269 * rhoL l % 576460752303423488 : Nat) : Int)) + (-287511572273014091030070296576)) / 39614081257132168796771975168
def t02 (f g l : Nat) : Int := (836444551592267481088 * ((f : Int) * 134217728 - ((14873627383544574269 * rhoL l % 4294967296 : Nat) : Int)) + 3053721747456 * ((g : Int) * 18014398509481984 - ((14873627383544574269 * rhoL l % 576460752303423488 : Nat) : Int)) + 0) / 19807040628566084398385987584
def ub0 (f g l : Nat) : Nat := ((2345120858552320 * t00 f g l + 9222822830782962176 * t01 f g l + 13835322316036741376 * t02 f g l + 14873627383544574269 * (rhoL l : Int)) % 18446744073709551616).toNat
def ic0 (f g l : Nat) : Nat := ((1208925819614629125097664 * t00 f g l + 194235152 * t01 f g l + 196471912 * t02 f g l) % 1208925819614629174706176).toNat
def cP0 (f : Nat) : Nat := 4294967296 - f * 134217728 + 5940704
def cQ0 (g : Nat) : Nat := 576460752303423488 - g * 18014398509481984 + 2503063991978016
def partF (f g l t : Nat) : Bool := loop2 (cP0 f) (cQ0 g) 14 (Nat.land (Nat.add (ub0 f g l) (Nat.mul t 13835322316036741376)) 18446744073709551615) (Nat.land (Nat.add (ic0 f g l) (Nat.mul t 196471912)) 1208925819614629174706175)
/-- one part of a field: number z: 32 times 32 fields, 20 parts each -/
def part (z : Nat) : Bool := partF (z / 20 / 32) (z / 20 % 32) (Nat.xor (z / 20 / 32) (z / 20 % 32)) (z % 20)
end C22
end SeedFact
namespace SeedFact
namespace C22
theorem vM_eq : vM = mk (2^12) := ones_mul 12 _
theorem vR_eq : vR = pack (rf dsL) (2^12) := rv_eq dsL (by decide)
theorem body_sound {cP cQ ub ic : Nat} (hu : ub < 2^64) (ht : tst cP cQ ub ic = true) (h : body cP cQ ub ic = true) {i : Nat} (hi : i < 2^12) :
    ¬ (hitL 94489280512 ((preL ((rf dsL i + ub) % 18446744073709551616) + 11400714819323198485) % 18446744073709551616) = 18446744073709551616 ∧ hitL 94489280512 ((preL ((rf dsL i + ub) % 18446744073709551616) + 4354685564936845354) % 18446744073709551616) = 18446744073709551616) := by
  rw [body, ht, cond_true, show vO = ones 12 from rfl, show vB = ones 12 * 18446744073709551616 from rfl, vM_eq, vR_eq, addm_eq (fun i => rf_lt dsL i) 12 ub hu] at h
  exact chkV_sound (f := fun i => (rf dsL i + ub) % 18446744073709551616) (fun i => mod64 _) (by decide) h hi
theorem m80 (x : Nat) : Nat.land x 1208925819614629174706175 = x % 1208925819614629174706176 := Nat.and_two_pow_sub_one_eq_mod x 80
theorem m64L (x : Nat) : Nat.land x 18446744073709551615 = x % 18446744073709551616 := m64 x
theorem loop1_sound (cP cQ : Nat) : ∀ n ub ic, ub < 18446744073709551616 → ic < 1208925819614629174706176 → loop1 cP cQ n ub ic = true → ∀ t, t < n → body cP cQ ((ub + t * 2345120858552320) % 18446744073709551616) ((ic + t * 1208925819614629125097664) % 1208925819614629174706176) = true
  | 0, _, _, _, _, _, t, ht => absurd ht (by omega)
  | n+1, ub, ic, hu, hi, h, t, ht => by
    rw [loop1, Bool.and_eq_true, m64L, m80] at h
    cases t with
    | zero =>
      rw [show (ub + 0 * 2345120858552320) % 18446744073709551616 = ub by omega, show (ic + 0 * 1208925819614629125097664) % 1208925819614629174706176 = ic by omega]
      exact h.1
    | succ t =>
      have h3 := loop1_sound cP cQ n _ _ (Nat.mod_lt _ (by decide)) (Nat.mod_lt _ (by decide)) h.2 t (by omega)
      have e1 : (Nat.add ub 2345120858552320 % 18446744073709551616 + t * 2345120858552320) % 18446744073709551616 = (ub + (t + 1) * 2345120858552320) % 18446744073709551616 := by
        show ((ub + 2345120858552320) % 18446744073709551616 + t * 2345120858552320) % 18446744073709551616 = _
        omega
      have e2 : (Nat.add ic 1208925819614629125097664 % 1208925819614629174706176 + t * 1208925819614629125097664) % 1208925819614629174706176 = (ic + (t + 1) * 1208925819614629125097664) % 1208925819614629174706176 := by
        show ((ic + 1208925819614629125097664) % 1208925819614629174706176 + t * 1208925819614629125097664) % 1208925819614629174706176 = _
        omega
      rw [e1, e2] at h3
      exact h3
theorem loop2_sound (cP cQ : Nat) : ∀ n ub ic, ub < 18446744073709551616 → ic < 1208925819614629174706176 → loop2 cP cQ n ub ic = true → ∀ t, t < n → loop1 cP cQ 11 ((ub + t * 9222822830782962176) % 18446744073709551616) ((ic + t * 194235152) % 1208925819614629174706176) = true
  | 0, _, _, _, _, _, t, ht => absurd ht (by omega)
  | n+1, ub, ic, hu, hi, h, t, ht => by
    rw [loop2, Bool.and_eq_true, m64L, m80] at h
    cases t with
    | zero =>
      rw [show (ub + 0 * 9222822830782962176) % 18446744073709551616 = ub by omega, show (ic + 0 * 194235152) % 1208925819614629174706176 = ic by omega]
      exact h.1
    | succ t =>
      have h3 := loop2_sound cP cQ n _ _ (Nat.mod_lt _ (by decide)) (Nat.mod_lt _ (by decide)) h.2 t (by omega)
      have e1 : (Nat.add ub 9222822830782962176 % 18446744073709551616 + t * 9222822830782962176) % 18446744073709551616 = (ub + (t + 1) * 9222822830782962176) % 18446744073709551616 := by
        show ((ub + 9222822830782962176) % 18446744073709551616 + t * 9222822830782962176) % 18446744073709551616 = _
        omega
      have e2 : (Nat.add ic 194235152 % 1208925819614629174706176 + t * 194235152) % 1208925819614629174706176 = (ic + (t + 1) * 194235152) % 1208925819614629174706176 := by
        show ((ic + 194235152) % 1208925819614629174706176 + t * 194235152) % 1208925819614629174706176 = _
        omega
      rw [e1, e2] at h3
      exact h3
/-- the lattice: a number and its two rests as three coordinates -/
theorem coords (i p q a b : Int) (hp : p = 475956076273426376608 * i - 4294967296 * a) (hq : q = 475956076273426376608 * i - 576460752303423488 * b) : ∃ c0 c1 c2 : Int,
    i = (-1550266) * c0 + 12139697 * c1 + 24558989 * c2 ∧ p = (-141888) * c0 + (-858720) * c1 + 848672 * c2 ∧ q = 73285026829760 * c0 + (-34325379488352) * c1 + 33032594322208 * c2 ∧
    2475880078570760549798248448 * c0 = 765239064772214784 * i + (-1244002303470787887104) * p + 31391915966464 * q ∧ 2475880078570760549798248448 * c1 = 66881879032855527424 * i + (-1851015475646292819968) * p + (-2168958484480) * q ∧ 2475880078570760549798248448 * c2 = 67801677684094795776 * i + 836444551592267481088 * p + 3053721747456 * q := by
  refine ⟨(-239143424359907) * i - (-2158) * a - 7309 * b, (-355833899859520) * i - (-3211) * a - (-505) * b, 160795699151711 * i - 1451 * a - 711 * b, ?_, ?_, ?_, ?_, ?_, ?_⟩ <;> omega
theorem rng0 (c x r : Int) (h : 2475880078570760549798248448 * c = x + r) (h0 : 0 ≤ r) (h1 : r ≤ 734733236020978679670074507264) : ∃ t : Nat, t < 11 ∧ ∃ e : Nat, e < 32 ∧ c = 32 * (x / 79228162514264337593543950336 + t) + e := by
  have hq : x / 79228162514264337593543950336 ≤ c / 32 := by omega
  have hq2 : c / 32 - x / 79228162514264337593543950336 < 11 := by omega
  refine ⟨(c / 32 - x / 79228162514264337593543950336).toNat, by omega, (c % 32).toNat, by omega, by omega⟩
/-- coordinate 0 lies in one of 11 tiles from the first -/
theorem range0 (c i f g dp dq kp kq t0 : Int) (hc : 2475880078570760549798248448 * c = 765239064772214784 * i + (-1244002303470787887104) * (f * 134217728 - kp + dp) + 31391915966464 * (g * 18014398509481984 - kq + dq)) (hi : 0 ≤ i) (hi2 : i ≤ 2952790016) (h1 : 0 ≤ dp) (h2 : dp ≤ 134217727) (h3 : 0 ≤ dq) (h4 : dq ≤ 18014398509481983)
    (ht : t0 = ((-1244002303470787887104) * (f * 134217728 - kp) + 31391915966464 * (g * 18014398509481984 - kq) + (-166967161554613361106231492608)) / 79228162514264337593543950336) : ∃ t : Nat, t < 11 ∧ ∃ e : Nat, e < 32 ∧ c = 32 * (t0 + t) + e := by
  subst ht
  exact rng0 c _ (765239064772214784 * i + (-1244002303470787887104) * dp + 31391915966464 * dq - (-166967161554613361106231492608)) (by
    rw [hc, Int.mul_add, Int.mul_add]
    generalize (-1244002303470787887104) * (f * 134217728 - kp) = A
    generalize 31391915966464 * (g * 18014398509481984 - kq) = B
    clear hc hi hi2 h1 h2 h3 h4
    omega) (by clear hc; omega) (by clear hc; omega)
theorem rng1 (c x r : Int) (h : 2475880078570760549798248448 * c = x + r) (h0 : 0 ≤ r) (h1 : r ≤ 484999716932549628378071695360) : ∃ t : Nat, t < 14 ∧ ∃ e : Nat, e < 16 ∧ c = 16 * (x / 39614081257132168796771975168 + t) + e := by
  have hq : x / 39614081257132168796771975168 ≤ c / 16 := by omega
  have hq2 : c / 16 - x / 39614081257132168796771975168 < 14 := by omega
  refine ⟨(c / 16 - x / 39614081257132168796771975168).toNat, by omega, (c % 16).toNat, by omega, by omega⟩
/-- coordinate 1 lies in one of 14 tiles from the first -/
theorem range1 (c i f g dp dq kp kq t0 : Int) (hc : 2475880078570760549798248448 * c = 66881879032855527424 * i + (-1851015475646292819968) * (f * 134217728 - kp + dp) + (-2168958484480) * (g * 18014398509481984 - kq + dq)) (hi : 0 ≤ i) (hi2 : i ≤ 2952790016) (h1 : 0 ≤ dp) (h2 : dp ≤ 134217727) (h3 : 0 ≤ dq) (h4 : dq ≤ 18014398509481983)
    (ht : t0 = ((-1851015475646292819968) * (f * 134217728 - kp) + (-2168958484480) * (g * 18014398509481984 - kq) + (-287511572273014091030070296576)) / 39614081257132168796771975168) : ∃ t : Nat, t < 14 ∧ ∃ e : Nat, e < 16 ∧ c = 16 * (t0 + t) + e := by
  subst ht
  exact rng1 c _ (66881879032855527424 * i + (-1851015475646292819968) * dp + (-2168958484480) * dq - (-287511572273014091030070296576)) (by
    rw [hc, Int.mul_add, Int.mul_add]
    generalize (-1851015475646292819968) * (f * 134217728 - kp) = A
    generalize (-2168958484480) * (g * 18014398509481984 - kq) = B
    clear hc hi hi2 h1 h2 h3 h4
    omega) (by clear hc; omega) (by clear hc; omega)
theorem rng2 (c x r : Int) (h : 2475880078570760549798248448 * c = x + r) (h0 : 0 ≤ r) (h1 : r ≤ 367480763905637569964686704640) : ∃ t : Nat, t < 20 ∧ ∃ e : Nat, e < 8 ∧ c = 8 * (x / 19807040628566084398385987584 + t) + e := by
  have hq : x / 19807040628566084398385987584 ≤ c / 8 := by omega
  have hq2 : c / 8 - x / 19807040628566084398385987584 < 20 := by omega
  refine ⟨(c / 8 - x / 19807040628566084398385987584).toNat, by omega, (c % 8).toNat, by omega, by omega⟩
/-- coordinate 2 lies in one of 20 tiles from the first -/
theorem range2 (c i f g dp dq kp kq t0 : Int) (hc : 2475880078570760549798248448 * c = 67801677684094795776 * i + 836444551592267481088 * (f * 134217728 - kp + dp) + 3053721747456 * (g * 18014398509481984 - kq + dq)) (hi : 0 ≤ i) (hi2 : i ≤ 2952790016) (h1 : 0 ≤ dp) (h2 : dp ≤ 134217727) (h3 : 0 ≤ dq) (h4 : dq ≤ 18014398509481983)
    (ht : t0 = (836444551592267481088 * (f * 134217728 - kp) + 3053721747456 * (g * 18014398509481984 - kq) + 0) / 19807040628566084398385987584) : ∃ t : Nat, t < 20 ∧ ∃ e : Nat, e < 8 ∧ c = 8 * (t0 + t) + e := by
  subst ht
  exact rng2 c _ (67801677684094795776 * i + 836444551592267481088 * dp + 3053721747456 * dq - 0) (by
    rw [hc, Int.mul_add, Int.mul_add]
    generalize 836444551592267481088 * (f * 134217728 - kp) = A
    generalize 3053721747456 * (g * 18014398509481984 - kq) = B
    clear hc hi hi2 h1 h2 h3 h4
    omega) (by clear hc; omega) (by clear hc; omega)
theorem pl0 (e : Nat) (h : e < 32) : ∃ m : Int, ((e / 1 % 2 * 6341141560364488128 + e / 2 % 2 * 12682283120728976256 + e / 4 % 2 * 6917822167748400896 + e / 8 % 2 * 13835644335496801792 + e / 16 % 2 * 9224544597284051968 : Nat) : Int) = 6341141560364488128 * (e : Int) + 18446744073709551616 * m := by
  have hd : e = 1 * (e / 1 % 2) + 2 * (e / 2 % 2) + 4 * (e / 4 % 2) + 8 * (e / 8 % 2) + 16 * (e / 16 % 2) := by omega
  refine ⟨-(0 * ((e / 1 % 2 : Nat) : Int) + 0 * ((e / 2 % 2 : Nat) : Int) + 1 * ((e / 4 % 2 : Nat) : Int) + 2 * ((e / 8 % 2 : Nat) : Int) + 5 * ((e / 16 % 2 : Nat) : Int)), ?_⟩
  generalize e / 1 % 2 = x0 at *
  generalize e / 2 % 2 = x1 at *
  generalize e / 4 % 2 = x2 at *
  generalize e / 8 % 2 = x3 at *
  generalize e / 16 % 2 = x4 at *
  subst hd
  omega
theorem pl1 (e : Nat) (h : e < 16) : ∃ m : Int, ((e / 1 % 2 * 9799798463778710944 + e / 2 % 2 * 1152852853847870272 + e / 4 % 2 * 2305705707695740544 + e / 8 % 2 * 4611411415391481088 : Nat) : Int) = 9799798463778710944 * (e : Int) + 18446744073709551616 * m := by
  have hd : e = 1 * (e / 1 % 2) + 2 * (e / 2 % 2) + 4 * (e / 4 % 2) + 8 * (e / 8 % 2) := by omega
  refine ⟨-(0 * ((e / 1 % 2 : Nat) : Int) + 1 * ((e / 2 % 2 : Nat) : Int) + 2 * ((e / 4 % 2 : Nat) : Int) + 4 * ((e / 8 % 2 : Nat) : Int)), ?_⟩
  generalize e / 1 % 2 = x0 at *
  generalize e / 2 % 2 = x1 at *
  generalize e / 4 % 2 = x2 at *
  generalize e / 8 % 2 = x3 at *
  subst hd
  omega
theorem pl2 (e : Nat) (h : e < 8) : ∃ m : Int, ((e / 1 % 2 * 17870316354000450336 + e / 2 % 2 * 17293888634291349056 + e / 4 % 2 * 16141033194873146496 : Nat) : Int) = 17870316354000450336 * (e : Int) + 18446744073709551616 * m := by
  have hd : e = 1 * (e / 1 % 2) + 2 * (e / 2 % 2) + 4 * (e / 4 % 2) := by omega
  refine ⟨-(0 * ((e / 1 % 2 : Nat) : Int) + 1 * ((e / 2 % 2 : Nat) : Int) + 3 * ((e / 4 % 2 : Nat) : Int)), ?_⟩
  generalize e / 1 % 2 = x0 at *
  generalize e / 2 % 2 = x1 at *
  generalize e / 4 % 2 = x2 at *
  subst hd
  omega
theorem glue {a b c t r : Nat} {A B C ma mb mc : Int} (ha : (a : Int) = A + 18446744073709551616 * ma) (hb : (b : Int) = B + 18446744073709551616 * mb) (hc : (c : Int) = C + 18446744073709551616 * mc) (hd : 18446744073709551616 * t + r = a + b + c) : (r : Int) = A + B + C + 18446744073709551616 * (ma + mb + mc - t) := by omega
set_option maxRecDepth 100000 in
/-- every place in a tile is a lane -/
theorem place (e0 e1 e2 : Nat) (h0 : e0 < 32) (h1 : e1 < 16) (h2 : e2 < 8) : ∃ i, i < 2^12 ∧ ∃ m : Int, (rf dsL i : Int) = 6341141560364488128 * (e0 : Int) + 9799798463778710944 * (e1 : Int) + 17870316354000450336 * (e2 : Int) + 18446744073709551616 * m := by
  obtain ⟨i, hi, e⟩ := rf_all dsL [e0 / 16 % 2, e0 / 8 % 2, e0 / 4 % 2, e0 / 2 % 2, e0 / 1 % 2, e1 / 8 % 2, e1 / 4 % 2, e1 / 2 % 2, e1 / 1 % 2, e2 / 4 % 2, e2 / 2 % 2, e2 / 1 % 2] rfl (by
    intro x hx
    simp only [List.mem_cons, List.not_mem_nil, or_false] at hx
    rcases hx with rfl | rfl | rfl | rfl | rfl | rfl | rfl | rfl | rfl | rfl | rfl | rfl <;> omega)
  refine ⟨i, hi, ?_⟩
  have hbs : bsum dsL [e0 / 16 % 2, e0 / 8 % 2, e0 / 4 % 2, e0 / 2 % 2, e0 / 1 % 2, e1 / 8 % 2, e1 / 4 % 2, e1 / 2 % 2, e1 / 1 % 2, e2 / 4 % 2, e2 / 2 % 2, e2 / 1 % 2] = 0 + e2 / 1 % 2 * 17870316354000450336 + e2 / 2 % 2 * 17293888634291349056 + e2 / 4 % 2 * 16141033194873146496 + e1 / 1 % 2 * 9799798463778710944 + e1 / 2 % 2 * 1152852853847870272 + e1 / 4 % 2 * 2305705707695740544 + e1 / 8 % 2 * 4611411415391481088 + e0 / 1 % 2 * 6341141560364488128 + e0 / 2 % 2 * 12682283120728976256 + e0 / 4 % 2 * 6917822167748400896 + e0 / 8 % 2 * 13835644335496801792 + e0 / 16 % 2 * 9224544597284051968 := rfl
  obtain ⟨ma, ha⟩ := pl0 e0 h0
  obtain ⟨mb, hb⟩ := pl1 e1 h1
  obtain ⟨mc, hc⟩ := pl2 e2 h2
  have hs : (0 + e2 / 1 % 2 * 17870316354000450336 + e2 / 2 % 2 * 17293888634291349056 + e2 / 4 % 2 * 16141033194873146496 + e1 / 1 % 2 * 9799798463778710944 + e1 / 2 % 2 * 1152852853847870272 + e1 / 4 % 2 * 2305705707695740544 + e1 / 8 % 2 * 4611411415391481088 + e0 / 1 % 2 * 6341141560364488128 + e0 / 2 % 2 * 12682283120728976256 + e0 / 4 % 2 * 6917822167748400896 + e0 / 8 % 2 * 13835644335496801792 + e0 / 16 % 2 * 9224544597284051968 : Nat) = (e0 / 1 % 2 * 6341141560364488128 + e0 / 2 % 2 * 12682283120728976256 + e0 / 4 % 2 * 6917822167748400896 + e0 / 8 % 2 * 13835644335496801792 + e0 / 16 % 2 * 9224544597284051968) + (e1 / 1 % 2 * 9799798463778710944 + e1 / 2 % 2 * 1152852853847870272 + e1 / 4 % 2 * 2305705707695740544 + e1 / 8 % 2 * 4611411415391481088) + (e2 / 1 % 2 * 17870316354000450336 + e2 / 2 % 2 * 17293888634291349056 + e2 / 4 % 2 * 16141033194873146496) := by
    simp only [Nat.zero_add]
    ac_rfl
  rw [e, hbs, hs]
  exact ⟨_, glue ha hb hc (Nat.div_add_mod _ 18446744073709551616)⟩
theorem eqU {u v i rho k1 e0 e1 e2 D0 D1 D2 ub r m m2 : Int} (hu : u = 14873627383544574269 * v - 18446744073709551616 * k1) (hv : v = 32 * i + rho) (hi : i = (-1550266) * (32 * D0 + e0) + 12139697 * (16 * D1 + e1) + 24558989 * (8 * D2 + e2))
    (hub : ub = 2345120858552320 * D0 + 9222822830782962176 * D1 + 13835322316036741376 * D2 + 14873627383544574269 * rho + 18446744073709551616 * m) (hr : r = 6341141560364488128 * e0 + 9799798463778710944 * e1 + 17870316354000450336 * e2 + 18446744073709551616 * m2) : r + ub = u + 18446744073709551616 * (39999391 * e0 + (-313223977) * e1 + (-633661961) * e2 + 1279980501 * D0 + (-5011583640) * D1 + (-5069295695) * D2 + m + m2 + k1) := by
  subst hr hub hi hv hu
  omega
theorem tstPl {ub u f r e0 e1 e2 m2 K : Int} (h : r + ub = u + 18446744073709551616 * K) (hr : r = 6341141560364488128 * e0 + 9799798463778710944 * e1 + 17870316354000450336 * e2 + 18446744073709551616 * m2) (h0 : 0 ≤ e0) (h1 : 0 ≤ e1) (h2 : 0 ≤ e2) (g0 : e0 ≤ 31) (g1 : e1 ≤ 15) (g2 : e2 ≤ 7)
    (hf : f = u % 4294967296 / 134217728) : (ub + (4294967296 - f * 134217728 + 5940704)) % 4294967296 ≤ 157437759 := by
  have hk : ub + (4294967296 - f * 134217728 + 5940704) = (u % 4294967296 - f * 134217728 + (5940704 - ((-141888) * e0 + (-858720) * e1 + 848672 * e2))) + 4294967296 * (1 + u / 4294967296 - (1476412071 * e0 + 2281693384 * e1 + 4160757259 * e2) + 4294967296 * (K - m2)) := by
    clear hf h0 h1 h2 g0 g1 g2
    omega
  have b1 : 0 ≤ u % 4294967296 - f * 134217728 ∧ u % 4294967296 - f * 134217728 ≤ 134217727 := by
    clear hk h hr
    omega
  have b2 : 0 ≤ 5940704 - ((-141888) * e0 + (-858720) * e1 + 848672 * e2) ∧ 5940704 - ((-141888) * e0 + (-858720) * e1 + 848672 * e2) ≤ 23220032 := by
    clear hk h hr hf b1
    omega
  rw [hk, Int.add_mul_emod_self_left]
  generalize u % 4294967296 - f * 134217728 = x at *
  generalize 5940704 - ((-141888) * e0 + (-858720) * e1 + 848672 * e2) = y at *
  clear hk h hr hf
  omega
theorem tstQl {ub u f r e0 e1 e2 m2 K : Int} (h : r + ub = u + 18446744073709551616 * K) (hr : r = 6341141560364488128 * e0 + 9799798463778710944 * e1 + 17870316354000450336 * e2 + 18446744073709551616 * m2) (h0 : 0 ≤ e0) (h1 : 0 ≤ e1) (h2 : 0 ≤ e2) (g0 : e0 ≤ 31) (g1 : e1 ≤ 15) (g2 : e2 ≤ 7)
    (hf : f = u % 576460752303423488 / 18014398509481984) : (ub + (576460752303423488 - f * 18014398509481984 + 2503063991978016)) % 576460752303423488 ≤ 21032343193785279 := by
  have hk : ub + (576460752303423488 - f * 18014398509481984 + 2503063991978016) = (u % 576460752303423488 - f * 18014398509481984 + (2503063991978016 - (73285026829760 * e0 + (-34325379488352) * e1 + 33032594322208 * e2))) + 576460752303423488 * (1 + u / 576460752303423488 - (11 * e0 + 17 * e1 + 31 * e2) + 32 * (K - m2)) := by
    clear hf h0 h1 h2 g0 g1 g2
    omega
  have b1 : 0 ≤ u % 576460752303423488 - f * 18014398509481984 ∧ u % 576460752303423488 - f * 18014398509481984 ≤ 18014398509481983 := by
    clear hk h hr
    omega
  have b2 : 0 ≤ 2503063991978016 - (73285026829760 * e0 + (-34325379488352) * e1 + 33032594322208 * e2) ∧ 2503063991978016 - (73285026829760 * e0 + (-34325379488352) * e1 + 33032594322208 * e2) ≤ 3017944684303296 := by
    clear hk h hr hf b1
    omega
  rw [hk, Int.add_mul_emod_self_left]
  generalize u % 576460752303423488 - f * 18014398509481984 = x at *
  generalize 2503063991978016 - (73285026829760 * e0 + (-34325379488352) * e1 + 33032594322208 * e2) = y at *
  clear hk h hr hf
  omega
theorem tstIl {ic i e0 e1 e2 D0 D1 D2 m : Int} (hi : i = (-1550266) * (32 * D0 + e0) + 12139697 * (16 * D1 + e1) + 24558989 * (8 * D2 + e2)) (hic : ic = 1208925819614629125097664 * D0 + 194235152 * D1 + 196471912 * D2 + 1208925819614629174706176 * m) (h0 : 0 ≤ e0) (h1 : 0 ≤ e1) (h2 : 0 ≤ e2) (g0 : e0 ≤ 31) (g1 : e1 ≤ 15) (g2 : e2 ≤ 7) (i0 : 0 ≤ i) (i1 : i ≤ 2952790016) :
    (ic + 354008378) % 1208925819614629174706176 ≤ 3354856640 := by
  have hk : ic + 354008378 = (i + (354008378 - ((-1550266) * e0 + 12139697 * e1 + 24558989 * e2))) + 1208925819614629174706176 * (m + 1 * D0 + 0 * D1 + 0 * D2) := by
    clear i0 i1 h0 h1 h2 g0 g1 g2
    omega
  have b2 : 0 ≤ 354008378 - ((-1550266) * e0 + 12139697 * e1 + 24558989 * e2) ∧ 354008378 - ((-1550266) * e0 + 12139697 * e1 + 24558989 * e2) ≤ 402066624 := by
    clear hk hi hic
    omega
  rw [hk, Int.add_mul_emod_self_left]
  generalize 354008378 - ((-1550266) * e0 + 12139697 * e1 + 24558989 * e2) = y at *
  clear hk hi hic
  omega
theorem modsum64 {a x y z : Nat} {X : Int} (h : (a : Int) = X % 18446744073709551616) : ∃ m : Int, ((((((a + x) % 18446744073709551616 + y) % 18446744073709551616 + z) % 18446744073709551616 : Nat)) : Int) = X + x + y + z + 18446744073709551616 * m :=
  ⟨(((((((a + x) % 18446744073709551616 + y) % 18446744073709551616 + z) % 18446744073709551616 : Nat)) : Int) - (X + x + y + z)) / 18446744073709551616, by omega⟩
theorem modsum80 {a x y z : Nat} {X : Int} (h : (a : Int) = X % 1208925819614629174706176) : ∃ m : Int, ((((((a + x) % 1208925819614629174706176 + y) % 1208925819614629174706176 + z) % 1208925819614629174706176 : Nat)) : Int) = X + x + y + z + 1208925819614629174706176 * m :=
  ⟨(((((((a + x) % 1208925819614629174706176 + y) % 1208925819614629174706176 + z) % 1208925819614629174706176 : Nat)) : Int) - (X + x + y + z)) / 1208925819614629174706176, by omega⟩
theorem mkRest (u v i rho k1 : Int) (hu : u = 14873627383544574269 * v - 18446744073709551616 * k1) (hv : v = 32 * i + rho) :
    u % 4294967296 - 14873627383544574269 * rho % 4294967296 = 475956076273426376608 * i - 4294967296 * (4294967296 * k1 + u / 4294967296 - 14873627383544574269 * rho / 4294967296) ∧ u % 576460752303423488 - 14873627383544574269 * rho % 576460752303423488 = 475956076273426376608 * i - 576460752303423488 * (32 * k1 + u / 576460752303423488 - 14873627383544574269 * rho / 576460752303423488) := by
  have h1 := Int.emod_add_mul_ediv u 4294967296
  have h2 := Int.emod_add_mul_ediv u 576460752303423488
  have h3 := Int.emod_add_mul_ediv (14873627383544574269 * rho) 4294967296
  have h4 := Int.emod_add_mul_ediv (14873627383544574269 * rho) 576460752303423488
  generalize u % 4294967296 = a at *
  generalize u % 576460752303423488 = b at *
  generalize u / 4294967296 = a2 at *
  generalize u / 576460752303423488 = b2 at *
  generalize 14873627383544574269 * rho % 4294967296 = c at *
  generalize 14873627383544574269 * rho % 576460752303423488 = d at *
  generalize 14873627383544574269 * rho / 4294967296 = c2 at *
  generalize 14873627383544574269 * rho / 576460752303423488 = d2 at *
  omega
theorem rg0 {e : Nat} (h : e < 32) : 0 ≤ (e : Int) ∧ (e : Int) ≤ 31 := by omega
theorem rg1 {e : Nat} (h : e < 16) : 0 ≤ (e : Int) ∧ (e : Int) ≤ 15 := by omega
theorem rg2 {e : Nat} (h : e < 8) : 0 ≤ (e : Int) ∧ (e : Int) ≤ 7 := by omega
theorem ubI {ub T0 T1 T2 m rho : Int} {t0 t1 t2 : Nat} (h : ub = 2345120858552320 * T0 + 9222822830782962176 * T1 + 13835322316036741376 * T2 + 14873627383544574269 * rho + ((t2 * 13835322316036741376 : Nat) : Int) + ((t1 * 9222822830782962176 : Nat) : Int) + ((t0 * 2345120858552320 : Nat) : Int) + 18446744073709551616 * m) : ub = 2345120858552320 * (T0 + t0) + 9222822830782962176 * (T1 + t1) + 13835322316036741376 * (T2 + t2) + 14873627383544574269 * rho + 18446744073709551616 * m := by
  rw [h, Int.natCast_mul, Int.natCast_mul, Int.natCast_mul]
  omega
theorem icI {ic T0 T1 T2 m : Int} {t0 t1 t2 : Nat} (h : ic = 1208925819614629125097664 * T0 + 194235152 * T1 + 196471912 * T2 + ((t2 * 196471912 : Nat) : Int) + ((t1 * 194235152 : Nat) : Int) + ((t0 * 1208925819614629125097664 : Nat) : Int) + 1208925819614629174706176 * m) : ic = 1208925819614629125097664 * (T0 + t0) + 194235152 * (T1 + t1) + 196471912 * (T2 + t2) + 1208925819614629174706176 * m := by
  rw [h, Int.natCast_mul, Int.natCast_mul, Int.natCast_mul]
  omega
theorem bleI {ic : Nat} (h : ((ic : Int) + 354008378) % 1208925819614629174706176 ≤ 3354856640) : Nat.ble (Nat.land (Nat.add ic 354008378) 1208925819614629174706175) 3354856640 = true := by
  refine Nat.ble_eq_true_of_le ?_
  rw [m80]
  show (ic + 354008378) % 1208925819614629174706176 ≤ 3354856640
  omega
theorem bleP {ub f : Nat} (hf : f < 32) (h : ((ub : Int) + (4294967296 - (f : Int) * 134217728 + 5940704)) % 4294967296 ≤ 157437759) : Nat.ble (Nat.land (Nat.add ub (cP0 f)) 4294967295) 157437759 = true := by
  refine Nat.ble_eq_true_of_le ?_
  rw [show Nat.land (Nat.add ub (cP0 f)) 4294967295 = (ub + cP0 f) % 4294967296 from Nat.and_two_pow_sub_one_eq_mod _ 32]
  have e1 : ((ub + cP0 f : Nat) : Int) = (ub : Int) + (4294967296 - (f : Int) * 134217728 + 5940704) := by rw [cP0]; clear h; omega
  rw [← e1] at h
  generalize ub + cP0 f = x at *
  clear e1
  omega
theorem bleQ {ub f : Nat} (hf : f < 32) (h : ((ub : Int) + (576460752303423488 - (f : Int) * 18014398509481984 + 2503063991978016)) % 576460752303423488 ≤ 21032343193785279) : Nat.ble (Nat.land (Nat.add ub (cQ0 f)) 576460752303423487) 21032343193785279 = true := by
  refine Nat.ble_eq_true_of_le ?_
  rw [show Nat.land (Nat.add ub (cQ0 f)) 576460752303423487 = (ub + cQ0 f) % 576460752303423488 from Nat.and_two_pow_sub_one_eq_mod _ 59]
  have e1 : ((ub + cQ0 f : Nat) : Int) = (ub : Int) + (576460752303423488 - (f : Int) * 18014398509481984 + 2503063991978016) := by rw [cQ0]; clear h; omega
  rw [← e1] at h
  generalize ub + cQ0 f = x at *
  clear e1
  omega
theorem laneU {r ub u : Nat} {K : Int} (hu : u < 18446744073709551616) (h : (r : Int) + (ub : Int) = (u : Int) + 18446744073709551616 * K) : (r + ub) % 18446744073709551616 = u := by omega
theorem partIx {f g t : Nat} (hf : f < 32) (hg : g < 32) (ht : t < 20) : (f * 32 + g) * 20 + t < 20480 ∧ ((f * 32 + g) * 20 + t) / 20 / 32 = f ∧ ((f * 32 + g) * 20 + t) / 20 % 32 = g ∧ ((f * 32 + g) * 20 + t) % 20 = t := by omega
set_option maxHeartbeats 1000000 in
/-- whoever is in the window and has five zeros has been looked at -/
theorem covered (hall : ∀ z, z < 20480 → part z = true) {v u : Nat} (hN : v ≤ 94489280512) (hu : u = 14873627383544574269 * v % 18446744073709551616) (hx : u % 32 = Nat.xor (u / 134217728 % 32) (u / 18014398509481984 % 32)) :
    ¬ (hitL 94489280512 ((preL u + 11400714819323198485) % 18446744073709551616) = 18446744073709551616 ∧ hitL 94489280512 ((preL u + 4354685564936845354) % 18446744073709551616) = 18446744073709551616) := by
  have hul : u < 18446744073709551616 := by rw [hu]; exact Nat.mod_lt _ (by decide)
  obtain ⟨f, hf⟩ : ∃ f, f = u / 134217728 % 32 := ⟨_, rfl⟩
  obtain ⟨g, hg⟩ : ∃ g, g = u / 18014398509481984 % 32 := ⟨_, rfl⟩
  obtain ⟨l, hl⟩ : ∃ l, l = u % 32 := ⟨_, rfl⟩
  rw [← hf, ← hg, ← hl] at hx
  have hfl : f < 32 := by clear hu hN; omega
  have hgl : g < 32 := by clear hu hN; omega
  have hi0 : (0 : Int) ≤ ((v / 32 : Nat) : Int) := Int.natCast_nonneg _
  have hi1 : ((v / 32 : Nat) : Int) ≤ 2952790016 := by clear hu hx hf hg hl; omega
  obtain ⟨rho, hrho⟩ : ∃ rho, rho = rhoL l := ⟨_, rfl⟩
  have hv : v = 32 * (v / 32) + rho := by
    have h1 : v % 32 = rho := by
      rw [hrho, rhoL, hl, hu]
      omega
    omega
  have hvI : (v : Int) = 32 * ((v / 32 : Nat) : Int) + (rho : Int) := by clear hu hx hf hg hl hN hul hrho; omega
  obtain ⟨k1, hk1⟩ : ∃ k1 : Nat, (u : Int) = 14873627383544574269 * (v : Int) - 18446744073709551616 * (k1 : Int) := ⟨14873627383544574269 * v / 18446744073709551616, by rw [hu]; omega⟩
  obtain ⟨hp, hq⟩ := mkRest u v (v / 32 : Nat) rho k1 hk1 hvI
  obtain ⟨kp, hkp⟩ : ∃ kp : Int, kp = ((14873627383544574269 * rhoL l % 4294967296 : Nat) : Int) := ⟨_, rfl⟩
  obtain ⟨kq, hkq⟩ : ∃ kq : Int, kq = ((14873627383544574269 * rhoL l % 576460752303423488 : Nat) : Int) := ⟨_, rfl⟩
  have ekp : (14873627383544574269 : Int) * (rho : Int) % 4294967296 = kp := by rw [hkp, ← hrho, Int.natCast_emod, Int.natCast_mul]; rfl
  have ekq : (14873627383544574269 : Int) * (rho : Int) % 576460752303423488 = kq := by rw [hkq, ← hrho, Int.natCast_emod, Int.natCast_mul]; rfl
  rw [ekp] at hp
  rw [ekq] at hq
  obtain ⟨dp, hdp⟩ : ∃ dp : Int, dp = (u : Int) % 4294967296 - (f : Int) * 134217728 := ⟨_, rfl⟩
  obtain ⟨dq, hdq⟩ : ∃ dq : Int, dq = (u : Int) % 576460752303423488 - (g : Int) * 18014398509481984 := ⟨_, rfl⟩
  have hfi : (f : Int) = (u : Int) % 4294967296 / 134217728 := by clear hp hq hk1 hv hu; omega
  have hgi : (g : Int) = (u : Int) % 576460752303423488 / 18014398509481984 := by clear hp hq hk1 hv hu; omega
  have bp : 0 ≤ dp ∧ dp ≤ 134217727 := by clear hp hq hk1 hv hu hgi hdq; omega
  have bq : 0 ≤ dq ∧ dq ≤ 18014398509481983 := by clear hp hq hk1 hv hu hfi hdp bp; omega
  rw [show (u : Int) % 4294967296 - kp = (f : Int) * 134217728 - kp + dp by rw [hdp]; omega] at hp
  rw [show (u : Int) % 576460752303423488 - kq = (g : Int) * 18014398509481984 - kq + dq by rw [hdq]; omega] at hq
  obtain ⟨c0, c1, c2, hi, -, -, hc0, hc1, hc2⟩ := coords _ _ _ _ _ hp hq
  obtain ⟨t0, ht0, e0, he0, hd0⟩ := range0 c0 _ f g dp dq kp kq (t00 f g l) hc0 hi0 hi1 bp.1 bp.2 bq.1 bq.2 (by rw [t00, hkp, hkq])
  obtain ⟨t1, ht1, e1, he1, hd1⟩ := range1 c1 _ f g dp dq kp kq (t01 f g l) hc1 hi0 hi1 bp.1 bp.2 bq.1 bq.2 (by rw [t01, hkp, hkq])
  obtain ⟨t2, ht2, e2, he2, hd2⟩ := range2 c2 _ f g dp dq kp kq (t02 f g l) hc2 hi0 hi1 bp.1 bp.2 bq.1 bq.2 (by rw [t02, hkp, hkq])
  obtain ⟨x0, x1, x2, x3⟩ := partIx hfl hgl ht2
  have hz := hall ((f * 32 + g) * 20 + t2) x0
  have hz2 : partF f g l t2 = true := by
    rw [part, x1, x2, x3, ← hx] at hz
    exact hz
  rw [partF, m64L, m80] at hz2
  have hb2 := loop2_sound (cP0 f) (cQ0 g) 14 _ _ (Nat.mod_lt _ (by decide)) (Nat.mod_lt _ (by decide)) hz2 t1 ht1
  have hb1 := loop1_sound (cP0 f) (cQ0 g) 11 _ _ (Nat.mod_lt _ (by decide)) (Nat.mod_lt _ (by decide)) hb2 t0 ht0
  obtain ⟨m, hm⟩ := modsum64 (a := ub0 f g l) (x := t2 * 13835322316036741376) (y := t1 * 9222822830782962176) (z := t0 * 2345120858552320) (X := 2345120858552320 * t00 f g l + 9222822830782962176 * t01 f g l + 13835322316036741376 * t02 f g l + 14873627383544574269 * (rhoL l : Int)) (Int.toNat_of_nonneg (Int.emod_nonneg _ (by decide)))
  obtain ⟨n, hn⟩ := modsum80 (a := ic0 f g l) (x := t2 * 196471912) (y := t1 * 194235152) (z := t0 * 1208925819614629125097664) (X := 1208925819614629125097664 * t00 f g l + 194235152 * t01 f g l + 196471912 * t02 f g l) (Int.toNat_of_nonneg (Int.emod_nonneg _ (by decide)))
  have hb : body (cP0 f) (cQ0 g) ((((ub0 f g l + t2 * 13835322316036741376) % 18446744073709551616 + t1 * 9222822830782962176) % 18446744073709551616 + t0 * 2345120858552320) % 18446744073709551616) ((((ic0 f g l + t2 * 196471912) % 1208925819614629174706176 + t1 * 194235152) % 1208925819614629174706176 + t0 * 1208925819614629125097664) % 1208925819614629174706176) = true := hb1
  have hubl := Nat.mod_lt (((ub0 f g l + t2 * 13835322316036741376) % 18446744073709551616 + t1 * 9222822830782962176) % 18446744073709551616 + t0 * 2345120858552320) (show 18446744073709551616 > 0 by decide)
  generalize (((ub0 f g l + t2 * 13835322316036741376) % 18446744073709551616 + t1 * 9222822830782962176) % 18446744073709551616 + t0 * 2345120858552320) % 18446744073709551616 = ub at hm hb hubl
  generalize (((ic0 f g l + t2 * 196471912) % 1208925819614629174706176 + t1 * 194235152) % 1208925819614629174706176 + t0 * 1208925819614629125097664) % 1208925819614629174706176 = ic at hn hb
  clear hb1 hb2 hz hz2 hall hc0 hc1 hc2 hp hq ekp ekq
  rw [← hrho] at hm
  generalize t00 f g l = T0 at *
  generalize t01 f g l = T1 at *
  generalize t02 f g l = T2 at *
  rw [hd0, hd1, hd2] at hi
  obtain ⟨idx, hidx, m2, hr⟩ := place e0 e1 e2 he0 he1 he2
  have hU := eqU (D0 := T0 + t0) (D1 := T1 + t1) (D2 := T2 + t2) hk1 hvI hi (ubI hm) hr
  have tp := tstPl hU hr (rg0 he0).1 (rg1 he1).1 (rg2 he2).1 (rg0 he0).2 (rg1 he1).2 (rg2 he2).2 hfi
  have tq := tstQl hU hr (rg0 he0).1 (rg1 he1).1 (rg2 he2).1 (rg0 he0).2 (rg1 he1).2 (rg2 he2).2 hgi
  have ti := tstIl (ic := ic) hi (icI hn) (rg0 he0).1 (rg1 he1).1 (rg2 he2).1 (rg0 he0).2 (rg1 he1).2 (rg2 he2).2 hi0 hi1
  have htst : tst (cP0 f) (cQ0 g) ub ic = true := by
    rw [tst, Bool.and_eq_true, Bool.and_eq_true]
    exact ⟨bleI ti, bleP hfl tp, bleQ hgl tq⟩
  have hfin := body_sound hubl htst hb hidx
  rw [laneU hul hU] at hfin
  exact hfin
end C22
end SeedFact
namespace SeedFact
namespace S22
def dsL : List Nat := [1389711270430113792, 9918227672069832704, 14182485872889692160, 16314614973299621888, 8157307486649810944, 4078653743324905472, 2039326871662452736, 10243035472686002176, 14344889773197776896, 16395816923453664256, 17421280498581607936, 17934012286145579776]
def vO : Nat := ones 12
def vM : Nat := Nat.mul (ones 12) 18446744073709551615
def vB : Nat := Nat.mul (ones 12) 18446744073709551616
def vR : Nat := rv dsL
def body (ub : Nat) : Bool := chkS vO vM vB 94489280512 (addm vO vM vR ub)
def loop : Nat → Nat → Bool
  | 0, _ => true
  | n+1, ub => and (body ub) (loop n (Nat.land (Nat.add ub 2779422540860227584) 18446744073709551615))
/-- what is left of 256 for a state that ends in 128 + 2 r -/
def rest (r : Nat) : Nat := (227 * (128 + 2 * r) + 255) % 256 + 1
def part (z : Nat) : Bool := loop 32 (12031615345788793547 * (256 * (z % 2816 * 131072) + rest (z / 2816)) % 18446744073709551616)
theorem vM_eq : vM = mk (2^12) := ones_mul 12 _
theorem vR_eq : vR = pack (rf dsL) (2^12) := rv_eq dsL (by decide)
theorem body_sound {ub : Nat} (hu : ub < 2^64) (h : body ub = true) {i : Nat} (hi : i < 2^12) :
    ¬ (hitS 94489280512 (stL ((rf dsL i + ub) % 18446744073709551616)) = 18446744073709551616 ∧ hitS 94489280512 (stL (stL ((rf dsL i + ub) % 18446744073709551616))) = 18446744073709551616) := by
  rw [body, show vO = ones 12 from rfl, show vB = ones 12 * 18446744073709551616 from rfl, vM_eq, vR_eq, addm_eq (fun i => rf_lt dsL i) 12 ub hu] at h
  exact chkS_sound (f := fun i => (rf dsL i + ub) % 18446744073709551616) (fun i => mod64 _) (by decide) h hi
theorem loop_sound : ∀ n ub, ub < 18446744073709551616 → loop n ub = true → ∀ t, t < n → body ((ub + t * 2779422540860227584) % 18446744073709551616) = true
  | 0, _, _, _, t, ht => absurd ht (by omega)
  | n+1, ub, hu, h, t, ht => by
    rw [loop, Bool.and_eq_true, show Nat.land (Nat.add ub 2779422540860227584) 18446744073709551615 = (ub + 2779422540860227584) % 18446744073709551616 from m64 _] at h
    cases t with
    | zero =>
      rw [show (ub + 0 * 2779422540860227584) % 18446744073709551616 = ub by omega]
      exact h.1
    | succ t =>
      have h3 := loop_sound n _ (Nat.mod_lt _ (by decide)) h.2 t (by omega)
      rw [show ((ub + 2779422540860227584) % 18446744073709551616 + t * 2779422540860227584) % 18446744073709551616 = (ub + (t + 1) * 2779422540860227584) % 18446744073709551616 by omega] at h3
      exact h3
theorem pl (l : Nat) (h : l < 4096) : ∃ m : Int, ((l / 1 % 2 * 17934012286145579776 + l / 2 % 2 * 17421280498581607936 + l / 4 % 2 * 16395816923453664256 + l / 8 % 2 * 14344889773197776896 + l / 16 % 2 * 10243035472686002176 + l / 32 % 2 * 2039326871662452736 + l / 64 % 2 * 4078653743324905472 + l / 128 % 2 * 8157307486649810944 + l / 256 % 2 * 16314614973299621888 + l / 512 % 2 * 14182485872889692160 + l / 1024 % 2 * 9918227672069832704 + l / 2048 % 2 * 1389711270430113792 : Nat) : Int) = 3080093528521931148032 * (l : Int) + 18446744073709551616 * m := by
  have hd : l = 1 * (l / 1 % 2) + 2 * (l / 2 % 2) + 4 * (l / 4 % 2) + 8 * (l / 8 % 2) + 16 * (l / 16 % 2) + 32 * (l / 32 % 2) + 64 * (l / 64 % 2) + 128 * (l / 128 % 2) + 256 * (l / 256 % 2) + 512 * (l / 512 % 2) + 1024 * (l / 1024 % 2) + 2048 * (l / 2048 % 2) := by omega
  refine ⟨-(166 * ((l / 1 % 2 : Nat) : Int) + 333 * ((l / 2 % 2 : Nat) : Int) + 667 * ((l / 4 % 2 : Nat) : Int) + 1335 * ((l / 8 % 2 : Nat) : Int) + 2671 * ((l / 16 % 2 : Nat) : Int) + 5343 * ((l / 32 % 2 : Nat) : Int) + 10686 * ((l / 64 % 2 : Nat) : Int) + 21372 * ((l / 128 % 2 : Nat) : Int) + 42744 * ((l / 256 % 2 : Nat) : Int) + 85489 * ((l / 512 % 2 : Nat) : Int) + 170979 * ((l / 1024 % 2 : Nat) : Int) + 341959 * ((l / 2048 % 2 : Nat) : Int)), ?_⟩
  generalize l / 1 % 2 = x0 at *
  generalize l / 2 % 2 = x1 at *
  generalize l / 4 % 2 = x2 at *
  generalize l / 8 % 2 = x3 at *
  generalize l / 16 % 2 = x4 at *
  generalize l / 32 % 2 = x5 at *
  generalize l / 64 % 2 = x6 at *
  generalize l / 128 % 2 = x7 at *
  generalize l / 256 % 2 = x8 at *
  generalize l / 512 % 2 = x9 at *
  generalize l / 1024 % 2 = x10 at *
  generalize l / 2048 % 2 = x11 at *
  subst hd
  omega
theorem gl {a t r : Nat} {B m : Int} (ha : (a : Int) = B + 18446744073709551616 * m) (hd : 18446744073709551616 * t + r = a) : (r : Int) = B + 18446744073709551616 * (m - t) := by omega
set_option maxRecDepth 100000 in
theorem place (l : Nat) (h : l < 4096) : ∃ i, i < 2^12 ∧ ∃ m : Int, (rf dsL i : Int) = 3080093528521931148032 * (l : Int) + 18446744073709551616 * m := by
  obtain ⟨i, hi, e⟩ := rf_all dsL [l / 2048 % 2, l / 1024 % 2, l / 512 % 2, l / 256 % 2, l / 128 % 2, l / 64 % 2, l / 32 % 2, l / 16 % 2, l / 8 % 2, l / 4 % 2, l / 2 % 2, l / 1 % 2] rfl (by
    intro x hx
    simp only [List.mem_cons, List.not_mem_nil, or_false] at hx
    rcases hx with rfl | rfl | rfl | rfl | rfl | rfl | rfl | rfl | rfl | rfl | rfl | rfl <;> omega)
  refine ⟨i, hi, ?_⟩
  have hbs : bsum dsL [l / 2048 % 2, l / 1024 % 2, l / 512 % 2, l / 256 % 2, l / 128 % 2, l / 64 % 2, l / 32 % 2, l / 16 % 2, l / 8 % 2, l / 4 % 2, l / 2 % 2, l / 1 % 2] = 0 + l / 1 % 2 * 17934012286145579776 + l / 2 % 2 * 17421280498581607936 + l / 4 % 2 * 16395816923453664256 + l / 8 % 2 * 14344889773197776896 + l / 16 % 2 * 10243035472686002176 + l / 32 % 2 * 2039326871662452736 + l / 64 % 2 * 4078653743324905472 + l / 128 % 2 * 8157307486649810944 + l / 256 % 2 * 16314614973299621888 + l / 512 % 2 * 14182485872889692160 + l / 1024 % 2 * 9918227672069832704 + l / 2048 % 2 * 1389711270430113792 := rfl
  obtain ⟨ma, ha⟩ := pl l h
  have hs : (0 + l / 1 % 2 * 17934012286145579776 + l / 2 % 2 * 17421280498581607936 + l / 4 % 2 * 16395816923453664256 + l / 8 % 2 * 14344889773197776896 + l / 16 % 2 * 10243035472686002176 + l / 32 % 2 * 2039326871662452736 + l / 64 % 2 * 4078653743324905472 + l / 128 % 2 * 8157307486649810944 + l / 256 % 2 * 16314614973299621888 + l / 512 % 2 * 14182485872889692160 + l / 1024 % 2 * 9918227672069832704 + l / 2048 % 2 * 1389711270430113792 : Nat) = (l / 1 % 2 * 17934012286145579776 + l / 2 % 2 * 17421280498581607936 + l / 4 % 2 * 16395816923453664256 + l / 8 % 2 * 14344889773197776896 + l / 16 % 2 * 10243035472686002176 + l / 32 % 2 * 2039326871662452736 + l / 64 % 2 * 4078653743324905472 + l / 128 % 2 * 8157307486649810944 + l / 256 % 2 * 16314614973299621888 + l / 512 % 2 * 14182485872889692160 + l / 1024 % 2 * 9918227672069832704 + l / 2048 % 2 * 1389711270430113792) := by
    simp only [Nat.zero_add]
  rw [e, hbs, hs]
  exact ⟨_, gl ha (Nat.div_add_mod _ 18446744073709551616)⟩
theorem modl {a b c : Nat} (h : a = 12031615345788793547 * (256 * b + c) % 18446744073709551616) (m2 : Int) (l t : Nat) {r : Nat} (hr : (r : Int) = 3080093528521931148032 * (l : Int) + 18446744073709551616 * m2) :
    (r + (a + t * 2779422540860227584) % 18446744073709551616) % 18446744073709551616 = 12031615345788793547 * (256 * (b + t * 4096 + l) + c) % 18446744073709551616 := by
  omega
theorem digits {i : Nat} : i = i / 131072 * 131072 + i / 4096 % 32 * 4096 + i % 4096 := by omega
theorem rest0 {x a t : Nat} (h : 18446744073709551616 * t + x = 12031615345788793547 * a) : ∃ w : Int, (x : Int) = 203 * (a : Int) + 256 * w := ⟨46998497444487474 * (a : Int) - 72057594037927936 * (t : Int), by omega⟩
theorem rest1 {x a r : Nat} {w : Int} (h : (x : Int) = 203 * (a : Int) + 256 * w) (h1 : 1 ≤ a) (h2 : x % 256 = 128 + 2 * r) : (227 * (128 + 2 * r) + 255) % 256 = (a - 1) % 256 := by omega
theorem restl {x a r : Nat} (h : x = 12031615345788793547 * a % 18446744073709551616) (h1 : 1 ≤ a) (h0 : x % 2 = 0) (h7 : x / 128 % 2 = 1) (hr : r = x % 128 / 2) : a = 256 * ((a - 1) / 256) + rest r := by
  have h2 : x % 256 = 128 + 2 * r := by clear h; omega
  have hd := Nat.div_add_mod (12031615345788793547 * a) 18446744073709551616
  rw [← h] at hd
  obtain ⟨w, hw⟩ := rest0 hd
  have h3 := rest1 hw h1 h2
  rw [rest, h3]
  clear h hd hw h3 h2 h0 h7 hr
  omega
theorem partIx {r s : Nat} (hs : s < 2816) (hr : r < 64) : r * 2816 + s < 180224 ∧ (r * 2816 + s) % 2816 = s ∧ (r * 2816 + s) / 2816 = r := by omega
/-- whoever is in the window and goes from 0 to 1 has been looked at -/
theorem covered (hall : ∀ z, z < 180224 → part z = true) {x a : Nat} (h1 : 1 ≤ a) (hN : a ≤ 94489280512) (hx : x = 12031615345788793547 * a % 18446744073709551616) (h0 : x % 2 = 0) (h7 : x / 128 % 2 = 1) :
    ¬ (hitS 94489280512 (stL x) = 18446744073709551616 ∧ hitS 94489280512 (stL (stL x)) = 18446744073709551616) := by
  obtain ⟨r, hr⟩ : ∃ r, r = x % 128 / 2 := ⟨_, rfl⟩
  have ha := restl hx h1 h0 h7 hr
  have hr64 : r < 64 := by clear hx ha; omega
  obtain ⟨i, hi⟩ : ∃ i, i = (a - 1) / 256 := ⟨_, rfl⟩
  have hib : i < 369098752 := by clear hx ha; omega
  have hs : i / 131072 < 2816 := by clear hx ha; omega
  obtain ⟨y0, y1, y2⟩ := partIx hs hr64
  have hz := hall (r * 2816 + i / 131072) y0
  have hz2 : loop 32 (12031615345788793547 * (256 * (i / 131072 * 131072) + rest r) % 18446744073709551616) = true := by
    rw [part, y1, y2] at hz
    exact hz
  have hb := loop_sound 32 _ (Nat.mod_lt _ (by decide)) hz2 (i / 4096 % 32) (Nat.mod_lt _ (by decide))
  obtain ⟨idx, hidx, m2, hm2⟩ := place (i % 4096) (Nat.mod_lt _ (by decide))
  have hfin := body_sound (Nat.mod_lt _ (by decide)) hb hidx
  rw [modl rfl m2 (i % 4096) (i / 4096 % 32) hm2, ← digits, hi, ← ha, ← hx] at hfin
  exact hfin
end S22
end SeedFact
