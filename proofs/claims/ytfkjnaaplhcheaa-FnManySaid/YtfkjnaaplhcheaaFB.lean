/-
  Count seeds, words of the top 6: the sums whose first mixed step ends in five zeros, tile by tile (a tile: 2^12 lanes); what the tiles cover.
  Count seeds: whoever is behind a sum whose first mixed step ends in five zeros lies in a tile that has been looked at.
  Shift seeds, words of the top 6: states whose lowest bit goes from 0 to 1, tile by tile; what the tiles cover.
-/
import Derived.Test.YtfkjnaaplhcheaaFA
namespace SeedFact
namespace C6
def dsL : List Nat := [9224544597284051968, 13835644335496801792, 6917822167748400896, 12682283120728976256, 6341141560364488128, 311677178731264, 9223527875444141440, 13835135974576846528, 16140940024143199072, 2306405581216255232, 10376574827462903424, 14411659450586227520]
def vO : Nat := ones 12
def vM : Nat := Nat.mul (ones 12) 18446744073709551615
def vB : Nat := Nat.mul (ones 12) 18446744073709551616
def vR : Nat := rv dsL
def tst (cP cQ ub ic : Nat) : Bool :=
  and (Nat.ble (Nat.land (Nat.add ic 234924647) 1208925819614629174706175) 1088289261) (and (Nat.ble (Nat.land (Nat.add ub cP) 4294967295) 164583903) (Nat.ble (Nat.land (Nat.add ub cQ) 576460752303423487) 21855130055807903))
def body (cP cQ ub ic : Nat) : Bool := cond (tst cP cQ ub ic) (chkV vO vM vB 25769803776 (addm vO vM vR ub)) true
def loop1 (cP cQ : Nat) : Nat → Nat → Nat → Bool
  | 0, _, _ => true
  | n+1, ub, ic => and (body cP cQ ub ic) (loop1 cP cQ n (Nat.land (Nat.add ub 2345120858552320) 18446744073709551615) (Nat.land (Nat.add ic 1208925819614629125097664) 1208925819614629174706175))
def loop2 (cP cQ : Nat) : Nat → Nat → Nat → Bool
  | 0, _, _ => true
  | n+1, ub, ic => and (loop1 cP cQ 12 ub ic) (loop2 cP cQ n (Nat.land (Nat.add ub 623354357462528) 18446744073709551615) (Nat.land (Nat.add ic 169430896) 1208925819614629174706175))
def rhoL (l : Nat) : Nat := l * 21 % 32
def t00 (f g l : Nat) : Int := ((-1065875931009030029312) * ((f : Int) * 134217728 - ((14873627383544574269 * rhoL l % 4294967296 : Nat) : Int)) + 27453430956032 * ((g : Int) * 18014398509481984 - ((14873627383544574269 * rhoL l % 576460752303423488 : Nat) : Int)) + (-305505841521271698140671508480)) / 79228162514264337593543950336
def t01 (f g l : Nat) : Int := ((-1014570924054025338880) * ((f : Int) * 134217728 - ((14873627383544574269 * rhoL l % 4294967296 : Nat) : Int)) + 884763262976 * ((g : Int) * 18014398509481984 - ((14873627383544574269 * rhoL l % 576460752303423488 : Nat) : Int)) + (-136173403306820906184878325760)) / 39614081257132168796771975168
def t02 (f g l : Nat) : Int := (836444551592267481088 * ((f : Int) * 134217728 - ((14873627383544574269 * rhoL l % 4294967296 : Nat) : Int)) + 3053721747456 * ((g : Int) * 18014398509481984 - ((14873627383544574269 * rhoL l % 576460752303423488 : Nat) : Int)) + 0) / 19807040628566084398385987584
def ub0 (f g l : Nat) : Nat := ((2345120858552320 * t00 f g l + 623354357462528 * t01 f g l + 4612811162432510464 * t02 f g l + 14873627383544574269 * (rhoL l : Int)) % 18446744073709551616).toNat
def ic0 (f g l : Nat) : Nat := ((1208925819614629125097664 * t00 f g l + 169430896 * t01 f g l + 86952208 * t02 f g l) % 1208925819614629174706176).toNat
def cP0 (f : Nat) : Nat := 4294967296 - f * 134217728 + 10958528
def cQ0 (g : Nat) : Nat := 576460752303423488 - g * 18014398509481984 + 3840731546325920
def partF (f g l t : Nat) : Bool := loop2 (cP0 f) (cQ0 g) 8 (Nat.land (Nat.add (ub0 f g l) (Nat.mul t 4612811162432510464)) 18446744073709551615) (Nat.land (Nat.add (ic0 f g l) (Nat.mul t 86952208)) 1208925819614629174706175)
/-- one part of a field: number z: 32 times 32 fields, 13 parts each -/
def part (z : Nat) : Bool := partF (z / 13 / 32) (z / 13 % 32) (Nat.xor (z / 13 / 32) (z / 13 % 32)) (z % 13)
end C6
end SeedFact
namespace SeedFact
namespace C6
theorem vM_eq : vM = mk (2^12) := ones_mul 12 _
theorem vR_eq : vR = pack (rf dsL) (2^12) := rv_eq dsL (by decide)
theorem body_sound {cP cQ ub ic : Nat} (hu : ub < 2^64) (ht : tst cP cQ ub ic = true) (h : body cP cQ ub ic = true) {i : Nat} (hi : i < 2^12) :
    ¬ (hitL 25769803776 ((preL ((rf dsL i + ub) % 18446744073709551616) + 11400714819323198485) % 18446744073709551616) = 18446744073709551616 ∧ hitL 25769803776 ((preL ((rf dsL i + ub) % 18446744073709551616) + 4354685564936845354) % 18446744073709551616) = 18446744073709551616) := by
  rw [body, ht, cond_true, show vO = ones 12 from rfl, show vB = ones 12 * 18446744073709551616 from rfl, vM_eq, vR_eq, addm_eq (fun i => rf_lt dsL i) 12 ub hu] at h
  exact chkV_sound (f := fun i => (rf dsL i + ub) % 18446744073709551616) (fun i => mod64 _) (by decide) h hi
theorem m80 (x : Nat) : Nat.land x 1208925819614629174706175 = x % 1208925819614629174706176 := Nat.and_two_pow_sub_one_eq_mod x 80
theorem m64L (x : Nat) : Nat.land x 18446744073709551615 = x % 18446744073709551616 := m64 x
theorem loop1_sound (cP cQ : Nat) : ∀ n ub ic, ub < 18446744073709551616 → ic < 1208925819614629174706176 → loop1 cP cQ n ub ic = true → ∀ t, t < n → body cP cQ ((ub + t * 2345120858552320) % 18446744073709551616) ((ic + t * 1208925819614629125097664) % 1208925819614629174706176) = true
  | 0, _, _, _, _, _, t, ht => absurd ht (by omega)
  | n+1, ub, ic, hu, hi, h, t, ht => by
    rw [loop1, Bool.and_eq_true, m64L, m80] at h
    cases t with
    | zero =>
      rw [show (ub + 0 * 2345120858552320) % 18446744073709551616 = ub by omega, show (ic + 0 * 1208925819614629125097664) % 1208925819614629174706176 = ic by omega]
      exact h.1
    | succ t =>
      have h3 := loop1_sound cP cQ n _ _ (Nat.mod_lt _ (by decide)) (Nat.mod_lt _ (by decide)) h.2 t (by omega)
      have e1 : (Nat.add ub 2345120858552320 % 18446744073709551616 + t * 2345120858552320) % 18446744073709551616 = (ub + (t + 1) * 2345120858552320) % 18446744073709551616 := by
        show ((ub + 2345120858552320) % 18446744073709551616 + t * 2345120858552320) % 18446744073709551616 = _
        omega
      have e2 : (Nat.add ic 1208925819614629125097664 % 1208925819614629174706176 + t * 1208925819614629125097664) % 1208925819614629174706176 = (ic + (t + 1) * 1208925819614629125097664) % 1208925819614629174706176 := by
        show ((ic + 1208925819614629125097664) % 1208925819614629174706176 + t * 1208925819614629125097664) % 1208925819614629174706176 = _
        omega
      rw [e1, e2] at h3
      exact h3
theorem loop2_sound (cP cQ : Nat) : ∀ n ub ic, ub < 18446744073709551616 → ic < 1208925819614629174706176 → loop2 cP cQ n ub ic = true → ∀ t, t < n → loop1 cP cQ 12 ((ub + t * 623354357462528) % 18446744073709551616) ((ic + t * 169430896) % 1208925819614629174706176) = true
  | 0, _, _, _, _, _, t, ht => absurd ht (by omega)
  | n+1, ub, ic, hu, hi, h, t, ht => by
    rw [loop2, Bool.and_eq_true, m64L, m80] at h
    cases t with
    | zero =>
      rw [show (ub + 0 * 623354357462528) % 18446744073709551616 = ub by omega, show (ic + 0 * 169430896) % 1208925819614629174706176 = ic by omega]
      exact h.1
    | succ t =>
      have h3 := loop2_sound cP cQ n _ _ (Nat.mod_lt _ (by decide)) (Nat.mod_lt _ (by decide)) h.2 t (by omega)
      have e1 : (Nat.add ub 623354357462528 % 18446744073709551616 + t * 623354357462528) % 18446744073709551616 = (ub + (t + 1) * 623354357462528) % 18446744073709551616 := by
        show ((ub + 623354357462528) % 18446744073709551616 + t * 623354357462528) % 18446744073709551616 = _
        omega
      have e2 : (Nat.add ic 169430896 % 1208925819614629174706176 + t * 169430896) % 1208925819614629174706176 = (ic + (t + 1) * 169430896) % 1208925819614629174706176 := by
        show ((ic + 169430896) % 1208925819614629174706176 + t * 169430896) % 1208925819614629174706176 = _
        omega
      rw [e1, e2] at h3
      exact h3
/-- the lattice: a number and its two rests as three coordinates -/
theorem coords (i p q a b : Int) (hp : p = 475956076273426376608 * i - 4294967296 * a) (hq : q = 475956076273426376608 * i - 576460752303423488 * b) : ∃ c0 c1 c2 : Int,
    i = (-1550266) * c0 + 10589431 * c1 + 10869026 * c2 ∧ p = (-141888) * c0 + (-1000608) * c1 + 1565504 * c2 ∧ q = 73285026829760 * c0 + 38959647341408 * c1 + 140643000640320 * c2 ∧
    2475880078570760549798248448 * c0 = (-201719995336272904192) * i + (-1065875931009030029312) * p + 27453430956032 * q ∧ 2475880078570760549798248448 * c1 = 134683556716950323200 * i + (-1014570924054025338880) * p + 884763262976 * q ∧ 2475880078570760549798248448 * c2 = 67801677684094795776 * i + 836444551592267481088 * p + 3053721747456 * q := by
  refine ⟨(-204900922803809) * i - (-1849) * a - 6392 * b, (-195038200707809) * i - (-1760) * a - 206 * b, 160795699151711 * i - 1451 * a - 711 * b, ?_, ?_, ?_, ?_, ?_, ?_⟩ <;> omega
theorem rng0 (c x r : Int) (h : 2475880078570760549798248448 * c = x + r) (h0 : 0 ≤ r) (h1 : r ≤ 800062887215781090509440679936) : ∃ t : Nat, t < 12 ∧ ∃ e : Nat, e < 32 ∧ c = 32 * (x / 79228162514264337593543950336 + t) + e := by
  have hq : x / 79228162514264337593543950336 ≤ c / 32 := by omega
  have hq2 : c / 32 - x / 79228162514264337593543950336 < 12 := by omega
  refine ⟨(c / 32 - x / 79228162514264337593543950336).toNat, by omega, (c % 32).toNat, by omega, by omega⟩
/-- coordinate 0 lies in one of 12 tiles from the first -/
theorem range0 (c i f g dp dq kp kq t0 : Int) (hc : 2475880078570760549798248448 * c = (-201719995336272904192) * i + (-1065875931009030029312) * (f * 134217728 - kp + dp) + 27453430956032 * (g * 18014398509481984 - kq + dq)) (hi : 0 ≤ i) (hi2 : i ≤ 805306368) (h1 : 0 ≤ dp) (h2 : dp ≤ 134217727) (h3 : 0 ≤ dq) (h4 : dq ≤ 18014398509481983)
    (ht : t0 = ((-1065875931009030029312) * (f * 134217728 - kp) + 27453430956032 * (g * 18014398509481984 - kq) + (-305505841521271698140671508480)) / 79228162514264337593543950336) : ∃ t : Nat, t < 12 ∧ ∃ e : Nat, e < 32 ∧ c = 32 * (t0 + t) + e := by
  subst ht
  exact rng0 c _ ((-201719995336272904192) * i + (-1065875931009030029312) * dp + 27453430956032 * dq - (-305505841521271698140671508480)) (by
    rw [hc, Int.mul_add, Int.mul_add]
    generalize (-1065875931009030029312) * (f * 134217728 - kp) = A
    generalize 27453430956032 * (g * 18014398509481984 - kq) = B
    clear hc hi hi2 h1 h2 h3 h4
    omega) (by clear hc; omega) (by clear hc; omega)
theorem rng1 (c x r : Int) (h : 2475880078570760549798248448 * c = x + r) (h0 : 0 ≤ r) (h1 : r ≤ 260573407201669445152059424768) : ∃ t : Nat, t < 8 ∧ ∃ e : Nat, e < 16 ∧ c = 16 * (x / 39614081257132168796771975168 + t) + e := by
  have hq : x / 39614081257132168796771975168 ≤ c / 16 := by omega
  have hq2 : c / 16 - x / 39614081257132168796771975168 < 8 := by omega
  refine ⟨(c / 16 - x / 39614081257132168796771975168).toNat, by omega, (c % 16).toNat, by omega, by omega⟩
/-- coordinate 1 lies in one of 8 tiles from the first -/
theorem range1 (c i f g dp dq kp kq t0 : Int) (hc : 2475880078570760549798248448 * c = 134683556716950323200 * i + (-1014570924054025338880) * (f * 134217728 - kp + dp) + 884763262976 * (g * 18014398509481984 - kq + dq)) (hi : 0 ≤ i) (hi2 : i ≤ 805306368) (h1 : 0 ≤ dp) (h2 : dp ≤ 134217727) (h3 : 0 ≤ dq) (h4 : dq ≤ 18014398509481983)
    (ht : t0 = ((-1014570924054025338880) * (f * 134217728 - kp) + 884763262976 * (g * 18014398509481984 - kq) + (-136173403306820906184878325760)) / 39614081257132168796771975168) : ∃ t : Nat, t < 8 ∧ ∃ e : Nat, e < 16 ∧ c = 16 * (t0 + t) + e := by
  subst ht
  exact rng1 c _ (134683556716950323200 * i + (-1014570924054025338880) * dp + 884763262976 * dq - (-136173403306820906184878325760)) (by
    rw [hc, Int.mul_add, Int.mul_add]
    generalize (-1014570924054025338880) * (f * 134217728 - kp) = A
    generalize 884763262976 * (g * 18014398509481984 - kq) = B
    clear hc hi hi2 h1 h2 h3 h4
    omega) (by clear hc; omega) (by clear hc; omega)
theorem rng2 (c x r : Int) (h : 2475880078570760549798248448 * c = x + r) (h0 : 0 ≤ r) (h1 : r ≤ 221877769772077486353827233792) : ∃ t : Nat, t < 13 ∧ ∃ e : Nat, e < 8 ∧ c = 8 * (x / 19807040628566084398385987584 + t) + e := by
  have hq : x / 19807040628566084398385987584 ≤ c / 8 := by omega
  have hq2 : c / 8 - x / 19807040628566084398385987584 < 13 := by omega
  refine ⟨(c / 8 - x / 19807040628566084398385987584).toNat, by omega, (c % 8).toNat, by omega, by omega⟩
/-- coordinate 2 lies in one of 13 tiles from the first -/
theorem range2 (c i f g dp dq kp kq t0 : Int) (hc : 2475880078570760549798248448 * c = 67801677684094795776 * i + 836444551592267481088 * (f * 134217728 - kp + dp) + 3053721747456 * (g * 18014398509481984 - kq + dq)) (hi : 0 ≤ i) (hi2 : i ≤ 805306368) (h1 : 0 ≤ dp) (h2 : dp ≤ 134217727) (h3 : 0 ≤ dq) (h4 : dq ≤ 18014398509481983)
    (ht : t0 = (836444551592267481088 * (f * 134217728 - kp) + 3053721747456 * (g * 18014398509481984 - kq) + 0) / 19807040628566084398385987584) : ∃ t : Nat, t < 13 ∧ ∃ e : Nat, e < 8 ∧ c = 8 * (t0 + t) + e := by
  subst ht
  exact rng2 c _ (67801677684094795776 * i + 836444551592267481088 * dp + 3053721747456 * dq - 0) (by
    rw [hc, Int.mul_add, Int.mul_add]
    generalize 836444551592267481088 * (f * 134217728 - kp) = A
    generalize 3053721747456 * (g * 18014398509481984 - kq) = B
    clear hc hi hi2 h1 h2 h3 h4
    omega) (by clear hc; omega) (by clear hc; omega)
theorem pl0 (e : Nat) (h : e < 32) : ∃ m : Int, ((e / 1 % 2 * 6341141560364488128 + e / 2 % 2 * 12682283120728976256 + e / 4 % 2 * 6917822167748400896 + e / 8 % 2 * 13835644335496801792 + e / 16 % 2 * 9224544597284051968 : Nat) : Int) = 6341141560364488128 * (e : Int) + 18446744073709551616 * m := by
  have hd : e = 1 * (e / 1 % 2) + 2 * (e / 2 % 2) + 4 * (e / 4 % 2) + 8 * (e / 8 % 2) + 16 * (e / 16 % 2) := by omega
  refine ⟨-(0 * ((e / 1 % 2 : Nat) : Int) + 0 * ((e / 2 % 2 : Nat) : Int) + 1 * ((e / 4 % 2 : Nat) : Int) + 2 * ((e / 8 % 2 : Nat) : Int) + 5 * ((e / 16 % 2 : Nat) : Int)), ?_⟩
  generalize e / 1 % 2 = x0 at *
  generalize e / 2 % 2 = x1 at *
  generalize e / 4 % 2 = x2 at *
  generalize e / 8 % 2 = x3 at *
  generalize e / 16 % 2 = x4 at *
  subst hd
  omega
theorem pl1 (e : Nat) (h : e < 16) : ∃ m : Int, ((e / 1 % 2 * 16140940024143199072 + e / 2 % 2 * 13835135974576846528 + e / 4 % 2 * 9223527875444141440 + e / 8 % 2 * 311677178731264 : Nat) : Int) = 16140940024143199072 * (e : Int) + 18446744073709551616 * m := by
  have hd : e = 1 * (e / 1 % 2) + 2 * (e / 2 % 2) + 4 * (e / 4 % 2) + 8 * (e / 8 % 2) := by omega
  refine ⟨-(0 * ((e / 1 % 2 : Nat) : Int) + 1 * ((e / 2 % 2 : Nat) : Int) + 3 * ((e / 4 % 2 : Nat) : Int) + 7 * ((e / 8 % 2 : Nat) : Int)), ?_⟩
  generalize e / 1 % 2 = x0 at *
  generalize e / 2 % 2 = x1 at *
  generalize e / 4 % 2 = x2 at *
  generalize e / 8 % 2 = x3 at *
  subst hd
  omega
theorem pl2 (e : Nat) (h : e < 8) : ∃ m : Int, ((e / 1 % 2 * 14411659450586227520 + e / 2 % 2 * 10376574827462903424 + e / 4 % 2 * 2306405581216255232 : Nat) : Int) = 14411659450586227520 * (e : Int) + 18446744073709551616 * m := by
  have hd : e = 1 * (e / 1 % 2) + 2 * (e / 2 % 2) + 4 * (e / 4 % 2) := by omega
  refine ⟨-(0 * ((e / 1 % 2 : Nat) : Int) + 1 * ((e / 2 % 2 : Nat) : Int) + 3 * ((e / 4 % 2 : Nat) : Int)), ?_⟩
  generalize e / 1 % 2 = x0 at *
  generalize e / 2 % 2 = x1 at *
  generalize e / 4 % 2 = x2 at *
  subst hd
  omega
theorem glue {a b c t r : Nat} {A B C ma mb mc : Int} (ha : (a : Int) = A + 18446744073709551616 * ma) (hb : (b : Int) = B + 18446744073709551616 * mb) (hc : (c : Int) = C + 18446744073709551616 * mc) (hd : 18446744073709551616 * t + r = a + b + c) : (r : Int) = A + B + C + 18446744073709551616 * (ma + mb + mc - t) := by omega
set_option maxRecDepth 100000 in
/-- every place in a tile is a lane -/
theorem place (e0 e1 e2 : Nat) (h0 : e0 < 32) (h1 : e1 < 16) (h2 : e2 < 8) : ∃ i, i < 2^12 ∧ ∃ m : Int, (rf dsL i : Int) = 6341141560364488128 * (e0 : Int) + 16140940024143199072 * (e1 : Int) + 14411659450586227520 * (e2 : Int) + 18446744073709551616 * m := by
  obtain ⟨i, hi, e⟩ := rf_all dsL [e0 / 16 % 2, e0 / 8 % 2, e0 / 4 % 2, e0 / 2 % 2, e0 / 1 % 2, e1 / 8 % 2, e1 / 4 % 2, e1 / 2 % 2, e1 / 1 % 2, e2 / 4 % 2, e2 / 2 % 2, e2 / 1 % 2] rfl (by
    intro x hx
    simp only [List.mem_cons, List.not_mem_nil, or_false] at hx
    rcases hx with rfl | rfl | rfl | rfl | rfl | rfl | rfl | rfl | rfl | rfl | rfl | rfl <;> omega)
  refine ⟨i, hi, ?_⟩
  have hbs : bsum dsL [e0 / 16 % 2, e0 / 8 % 2, e0 / 4 % 2, e0 / 2 % 2, e0 / 1 % 2, e1 / 8 % 2, e1 / 4 % 2, e1 / 2 % 2, e1 / 1 % 2, e2 / 4 % 2, e2 / 2 % 2, e2 / 1 % 2] = 0 + e2 / 1 % 2 * 14411659450586227520 + e2 / 2 % 2 * 10376574827462903424 + e2 / 4 % 2 * 2306405581216255232 + e1 / 1 % 2 * 16140940024143199072 + e1 / 2 % 2 * 13835135974576846528 + e1 / 4 % 2 * 9223527875444141440 + e1 / 8 % 2 * 311677178731264 + e0 / 1 % 2 * 6341141560364488128 + e0 / 2 % 2 * 12682283120728976256 + e0 / 4 % 2 * 6917822167748400896 + e0 / 8 % 2 * 13835644335496801792 + e0 / 16 % 2 * 9224544597284051968 := rfl
  obtain ⟨ma, ha⟩ := pl0 e0 h0
  obtain ⟨mb, hb⟩ := pl1 e1 h1
  obtain ⟨mc, hc⟩ := pl2 e2 h2
  have hs : (0 + e2 / 1 % 2 * 14411659450586227520 + e2 / 2 % 2 * 10376574827462903424 + e2 / 4 % 2 * 2306405581216255232 + e1 / 1 % 2 * 16140940024143199072 + e1 / 2 % 2 * 13835135974576846528 + e1 / 4 % 2 * 9223527875444141440 + e1 / 8 % 2 * 311677178731264 + e0 / 1 % 2 * 6341141560364488128 + e0 / 2 % 2 * 12682283120728976256 + e0 / 4 % 2 * 6917822167748400896 + e0 / 8 % 2 * 13835644335496801792 + e0 / 16 % 2 * 9224544597284051968 : Nat) = (e0 / 1 % 2 * 6341141560364488128 + e0 / 2 % 2 * 12682283120728976256 + e0 / 4 % 2 * 6917822167748400896 + e0 / 8 % 2 * 13835644335496801792 + e0 / 16 % 2 * 9224544597284051968) + (e1 / 1 % 2 * 16140940024143199072 + e1 / 2 % 2 * 13835135974576846528 + e1 / 4 % 2 * 9223527875444141440 + e1 / 8 % 2 * 311677178731264) + (e2 / 1 % 2 * 14411659450586227520 + e2 / 2 % 2 * 10376574827462903424 + e2 / 4 % 2 * 2306405581216255232) := by
    simp only [Nat.zero_add]
    ac_rfl
  rw [e, hbs, hs]
  exact ⟨_, glue ha hb hc (Nat.div_add_mod _ 18446744073709551616)⟩
theorem eqU {u v i rho k1 e0 e1 e2 D0 D1 D2 ub r m m2 : Int} (hu : u = 14873627383544574269 * v - 18446744073709551616 * k1) (hv : v = 32 * i + rho) (hi : i = (-1550266) * (32 * D0 + e0) + 10589431 * (16 * D1 + e1) + 10869026 * (8 * D2 + e2))
    (hub : ub = 2345120858552320 * D0 + 623354357462528 * D1 + 4612811162432510464 * D2 + 14873627383544574269 * rho + 18446744073709551616 * m) (hr : r = 6341141560364488128 * e0 + 16140940024143199072 * e1 + 14411659450586227520 * e2 + 18446744073709551616 * m2) : r + ub = u + 18446744073709551616 * (39999391 * e0 + (-273224586) * e1 + (-280438593) * e2 + 1279980501 * D0 + (-4371593390) * D1 + (-2243508750) * D2 + m + m2 + k1) := by
  subst hr hub hi hv hu
  omega
theorem tstPl {ub u f r e0 e1 e2 m2 K : Int} (h : r + ub = u + 18446744073709551616 * K) (hr : r = 6341141560364488128 * e0 + 16140940024143199072 * e1 + 14411659450586227520 * e2 + 18446744073709551616 * m2) (h0 : 0 ≤ e0) (h1 : 0 ≤ e1) (h2 : 0 ≤ e2) (g0 : e0 ≤ 31) (g1 : e1 ≤ 15) (g2 : e2 ≤ 7)
    (hf : f = u % 4294967296 / 134217728) : (ub + (4294967296 - f * 134217728 + 10958528)) % 4294967296 ≤ 164583903 := by
  have hk : ub + (4294967296 - f * 134217728 + 10958528) = (u % 4294967296 - f * 134217728 + (10958528 - ((-141888) * e0 + (-1000608) * e1 + 1565504 * e2))) + 4294967296 * (1 + u / 4294967296 - (1476412071 * e0 + 3758105455 * e1 + 3355475946 * e2) + 4294967296 * (K - m2)) := by
    clear hf h0 h1 h2 g0 g1 g2
    omega
  have b1 : 0 ≤ u % 4294967296 - f * 134217728 ∧ u % 4294967296 - f * 134217728 ≤ 134217727 := by
    clear hk h hr
    omega
  have b2 : 0 ≤ 10958528 - ((-141888) * e0 + (-1000608) * e1 + 1565504 * e2) ∧ 10958528 - ((-141888) * e0 + (-1000608) * e1 + 1565504 * e2) ≤ 30366176 := by
    clear hk h hr hf b1
    omega
  rw [hk, Int.add_mul_emod_self_left]
  generalize u % 4294967296 - f * 134217728 = x at *
  generalize 10958528 - ((-141888) * e0 + (-1000608) * e1 + 1565504 * e2) = y at *
  clear hk h hr hf
  omega
theorem tstQl {ub u f r e0 e1 e2 m2 K : Int} (h : r + ub = u + 18446744073709551616 * K) (hr : r = 6341141560364488128 * e0 + 16140940024143199072 * e1 + 14411659450586227520 * e2 + 18446744073709551616 * m2) (h0 : 0 ≤ e0) (h1 : 0 ≤ e1) (h2 : 0 ≤ e2) (g0 : e0 ≤ 31) (g1 : e1 ≤ 15) (g2 : e2 ≤ 7)
    (hf : f = u % 576460752303423488 / 18014398509481984) : (ub + (576460752303423488 - f * 18014398509481984 + 3840731546325920)) % 576460752303423488 ≤ 21855130055807903 := by
  have hk : ub + (576460752303423488 - f * 18014398509481984 + 3840731546325920) = (u % 576460752303423488 - f * 18014398509481984 + (3840731546325920 - (73285026829760 * e0 + 38959647341408 * e1 + 140643000640320 * e2))) + 576460752303423488 * (1 + u / 576460752303423488 - (11 * e0 + 28 * e1 + 25 * e2) + 32 * (K - m2)) := by
    clear hf h0 h1 h2 g0 g1 g2
    omega
  have b1 : 0 ≤ u % 576460752303423488 - f * 18014398509481984 ∧ u % 576460752303423488 - f * 18014398509481984 ≤ 18014398509481983 := by
    clear hk h hr
    omega
  have b2 : 0 ≤ 3840731546325920 - (73285026829760 * e0 + 38959647341408 * e1 + 140643000640320 * e2) ∧ 3840731546325920 - (73285026829760 * e0 + 38959647341408 * e1 + 140643000640320 * e2) ≤ 3840731546325920 := by
    clear hk h hr hf b1
    omega
  rw [hk, Int.add_mul_emod_self_left]
  generalize u % 576460752303423488 - f * 18014398509481984 = x at *
  generalize 3840731546325920 - (73285026829760 * e0 + 38959647341408 * e1 + 140643000640320 * e2) = y at *
  clear hk h hr hf
  omega
theorem tstIl {ic i e0 e1 e2 D0 D1 D2 m : Int} (hi : i = (-1550266) * (32 * D0 + e0) + 10589431 * (16 * D1 + e1) + 10869026 * (8 * D2 + e2)) (hic : ic = 1208925819614629125097664 * D0 + 169430896 * D1 + 86952208 * D2 + 1208925819614629174706176 * m) (h0 : 0 ≤ e0) (h1 : 0 ≤ e1) (h2 : 0 ≤ e2) (g0 : e0 ≤ 31) (g1 : e1 ≤ 15) (g2 : e2 ≤ 7) (i0 : 0 ≤ i) (i1 : i ≤ 805306368) :
    (ic + 234924647) % 1208925819614629174706176 ≤ 1088289261 := by
  have hk : ic + 234924647 = (i + (234924647 - ((-1550266) * e0 + 10589431 * e1 + 10869026 * e2))) + 1208925819614629174706176 * (m + 1 * D0 + 0 * D1 + 0 * D2) := by
    clear i0 i1 h0 h1 h2 g0 g1 g2
    omega
  have b2 : 0 ≤ 234924647 - ((-1550266) * e0 + 10589431 * e1 + 10869026 * e2) ∧ 234924647 - ((-1550266) * e0 + 10589431 * e1 + 10869026 * e2) ≤ 282982893 := by
    clear hk hi hic
    omega
  rw [hk, Int.add_mul_emod_self_left]
  generalize 234924647 - ((-1550266) * e0 + 10589431 * e1 + 10869026 * e2) = y at *
  clear hk hi hic
  omega
theorem modsum64 {a x y z : Nat} {X : Int} (h : (a : Int) = X % 18446744073709551616) : ∃ m : Int, ((((((a + x) % 18446744073709551616 + y) % 18446744073709551616 + z) % 18446744073709551616 : Nat)) : Int) = X + x + y + z + 18446744073709551616 * m :=
  ⟨(((((((a + x) % 18446744073709551616 + y) % 18446744073709551616 + z) % 18446744073709551616 : Nat)) : Int) - (X + x + y + z)) / 18446744073709551616, by omega⟩
theorem modsum80 {a x y z : Nat} {X : Int} (h : (a : Int) = X % 1208925819614629174706176) : ∃ m : Int, ((((((a + x) % 1208925819614629174706176 + y) % 1208925819614629174706176 + z) % 1208925819614629174706176 : Nat)) : Int) = X + x + y + z + 1208925819614629174706176 * m :=
  ⟨(((((((a + x) % 1208925819614629174706176 + y) % 1208925819614629174706176 + z) % 1208925819614629174706176 : Nat)) : Int) - (X + x + y + z)) / 1208925819614629174706176, by omega⟩
theorem mkRest (u v i rho k1 : Int) (hu : u = 14873627383544574269 * v - 18446744073709551616 * k1) (hv : v = 32 * i + rho) :
    u % 4294967296 - 14873627383544574269 * rho % 4294967296 = 475956076273426376608 * i - 4294967296 * (4294967296 * k1 + u / 4294967296 - 14873627383544574269 * rho / 4294967296) ∧ u % 576460752303423488 - 14873627383544574269 * rho % 576460752303423488 = 475956076273426376608 * i - 576460752303423488 * (32 * k1 + u / 576460752303423488 - 14873627383544574269 * rho / 576460752303423488) := by
  have h1 := Int.emod_add_mul_ediv u 4294967296
  have h2 := Int.emod_add_mul_ediv u 576460752303423488
  have h3 := Int.emod_add_mul_ediv (14873627383544574269 * rho) 4294967296
  have h4 := Int.emod_add_mul_ediv (14873627383544574269 * rho) 576460752303423488
  generalize u % 4294967296 = a at *
  generalize u % 576460752303423488 = b at *
  generalize u / 4294967296 = a2 at *
  generalize u / 576460752303423488 = b2 at *
  generalize 14873627383544574269 * rho % 4294967296 = c at *
  generalize 14873627383544574269 * rho % 576460752303423488 = d at *
  generalize 14873627383544574269 * rho / 4294967296 = c2 at *
  generalize 14873627383544574269 * rho / 576460752303423488 = d2 at *
  omega
theorem rg0 {e : Nat} (h : e < 32) : 0 ≤ (e : Int) ∧ (e : Int) ≤ 31 := by omega
theorem rg1 {e : Nat} (h : e < 16) : 0 ≤ (e : Int) ∧ (e : Int) ≤ 15 := by omega
theorem rg2 {e : Nat} (h : e < 8) : 0 ≤ (e : Int) ∧ (e : Int) ≤ 7 := by omega
theorem ubI {ub T0 T1 T2 m rho : Int} {t0 t1 t2 : Nat} (h : ub = 2345120858552320 * T0 + 623354357462528 * T1 + 4612811162432510464 * T2 + 14873627383544574269 * rho + ((t2 * 4612811162432510464 : Nat) : Int) + ((t1 * 623354357462528 : Nat) : Int) + ((t0 * 2345120858552320 : Nat) : Int) + 18446744073709551616 * m) : ub = 2345120858552320 * (T0 + t0) + 623354357462528 * (T1 + t1) + 4612811162432510464 * (T2 + t2) + 14873627383544574269 * rho + 18446744073709551616 * m := by
  rw [h, Int.natCast_mul, Int.natCast_mul, Int.natCast_mul]
  omega
theorem icI {ic T0 T1 T2 m : Int} {t0 t1 t2 : Nat} (h : ic = 1208925819614629125097664 * T0 + 169430896 * T1 + 86952208 * T2 + ((t2 * 86952208 : Nat) : Int) + ((t1 * 169430896 : Nat) : Int) + ((t0 * 1208925819614629125097664 : Nat) : Int) + 1208925819614629174706176 * m) : ic = 1208925819614629125097664 * (T0 + t0) + 169430896 * (T1 + t1) + 86952208 * (T2 + t2) + 1208925819614629174706176 * m := by
  rw [h, Int.natCast_mul, Int.natCast_mul, Int.natCast_mul]
  omega
theorem bleI {ic : Nat} (h : ((ic : Int) + 234924647) % 1208925819614629174706176 ≤ 1088289261) : Nat.ble (Nat.land (Nat.add ic 234924647) 1208925819614629174706175) 1088289261 = true := by
  refine Nat.ble_eq_true_of_le ?_
  rw [m80]
  show (ic + 234924647) % 1208925819614629174706176 ≤ 1088289261
  omega
theorem bleP {ub f : Nat} (hf : f < 32) (h : ((ub : Int) + (4294967296 - (f : Int) * 134217728 + 10958528)) % 4294967296 ≤ 164583903) : Nat.ble (Nat.land (Nat.add ub (cP0 f)) 4294967295) 164583903 = true := by
  refine Nat.ble_eq_true_of_le ?_
  rw [show Nat.land (Nat.add ub (cP0 f)) 4294967295 = (ub + cP0 f) % 4294967296 from Nat.and_two_pow_sub_one_eq_mod _ 32]
  have e1 : ((ub + cP0 f : Nat) : Int) = (ub : Int) + (4294967296 - (f : Int) * 134217728 + 10958528) := by rw [cP0]; clear h; omega
  rw [← e1] at h
  generalize ub + cP0 f = x at *
  clear e1
  omega
theorem bleQ {ub f : Nat} (hf : f < 32) (h : ((ub : Int) + (576460752303423488 - (f : Int) * 18014398509481984 + 3840731546325920)) % 576460752303423488 ≤ 21855130055807903) : Nat.ble (Nat.land (Nat.add ub (cQ0 f)) 576460752303423487) 21855130055807903 = true := by
  refine Nat.ble_eq_true_of_le ?_
  rw [show Nat.land (Nat.add ub (cQ0 f)) 576460752303423487 = (ub + cQ0 f) % 576460752303423488 from Nat.and_two_pow_sub_one_eq_mod _ 59]
  have e1 : ((ub + cQ0 f : Nat) : Int) = (ub : Int) + (576460752303423488 - (f : Int) * 18014398509481984 + 3840731546325920) := by rw [cQ0]; clear h; omega
  rw [← e1] at h
  generalize ub + cQ0 f = x at *
  clear e1
  omega
theorem laneU {r ub u : Nat} {K : Int} (hu : u < 18446744073709551616) (h : (r : Int) + (ub : Int) = (u : Int) + 18446744073709551616 * K) : (r + ub) % 18446744073709551616 = u := by omega
theorem partIx {f g t : Nat} (hf : f < 32) (hg : g < 32) (ht : t < 13) : (f * 32 + g) * 13 + t < 13312 ∧ ((f * 32 + g) * 13 + t) / 13 / 32 = f ∧ ((f * 32 + g) * 13 + t) / 13 % 32 = g ∧ ((f * 32 + g) * 13 + t) % 13 = t := by omega
set_option maxHeartbeats 1000000 in
/-- whoever is in the window and has five zeros has been looked at -/
theorem covered (hall : ∀ z, z < 13312 → part z = true) {v u : Nat} (hN : v ≤ 25769803776) (hu : u = 14873627383544574269 * v % 18446744073709551616) (hx : u % 32 = Nat.xor (u / 134217728 % 32) (u / 18014398509481984 % 32)) :
    ¬ (hitL 25769803776 ((preL u + 11400714819323198485) % 18446744073709551616) = 18446744073709551616 ∧ hitL 25769803776 ((preL u + 4354685564936845354) % 18446744073709551616) = 18446744073709551616) := by
  have hul : u < 18446744073709551616 := by rw [hu]; exact Nat.mod_lt _ (by decide)
  obtain ⟨f, hf⟩ : ∃ f, f = u / 134217728 % 32 := ⟨_, rfl⟩
  obtain ⟨g, hg⟩ : ∃ g, g = u / 18014398509481984 % 32 := ⟨_, rfl⟩
  obtain ⟨l, hl⟩ : ∃ l, l = u % 32 := ⟨_, rfl⟩
  rw [← hf, ← hg, ← hl] at hx
  have hfl : f < 32 := by clear hu hN; omega
  have hgl : g < 32 := by clear hu hN; omega
  have hi0 : (0 : Int) ≤ ((v / 32 : Nat) : Int) := Int.natCast_nonneg _
  have hi1 : ((v / 32 : Nat) : Int) ≤ 805306368 := by clear hu hx hf hg hl; omega
  obtain ⟨rho, hrho⟩ : ∃ rho, rho = rhoL l := ⟨_, rfl⟩
  have hv : v = 32 * (v / 32) + rho := by
    have h1 : v % 32 = rho := by
      rw [hrho, rhoL, hl, hu]
      omega
    omega
  have hvI : (v : Int) = 32 * ((v / 32 : Nat) : Int) + (rho : Int) := by clear hu hx hf hg hl hN hul hrho; omega
  obtain ⟨k1, hk1⟩ : ∃ k1 : Nat, (u : Int) = 14873627383544574269 * (v : Int) - 18446744073709551616 * (k1 : Int) := ⟨14873627383544574269 * v / 18446744073709551616, by rw [hu]; omega⟩
  obtain ⟨hp, hq⟩ := mkRest u v (v / 32 : Nat) rho k1 hk1 hvI
  obtain ⟨kp, hkp⟩ : ∃ kp : Int, kp = ((14873627383544574269 * rhoL l % 4294967296 : Nat) : Int) := ⟨_, rfl⟩
  obtain ⟨kq, hkq⟩ : ∃ kq : Int, kq = ((14873627383544574269 * rhoL l % 576460752303423488 : Nat) : Int) := ⟨_, rfl⟩
  have ekp : (14873627383544574269 : Int) * (rho : Int) % 4294967296 = kp := by rw [hkp, ← hrho, Int.natCast_emod, Int.natCast_mul]; rfl
  have ekq : (14873627383544574269 : Int) * (rho : Int) % 576460752303423488 = kq := by rw [hkq, ← hrho, Int.natCast_emod, Int.natCast_mul]; rfl
  rw [ekp] at hp
  rw [ekq] at hq
  obtain ⟨dp, hdp⟩ : ∃ dp : Int, dp = (u : Int) % 4294967296 - (f : Int) * 134217728 := ⟨_, rfl⟩
  obtain ⟨dq, hdq⟩ : ∃ dq : Int, dq = (u : Int) % 576460752303423488 - (g : Int) * 18014398509481984 := ⟨_, rfl⟩
  have hfi : (f : Int) = (u : Int) % 4294967296 / 134217728 := by clear hp hq hk1 hv hu; omega
  have hgi : (g : Int) = (u : Int) % 576460752303423488 / 18014398509481984 := by clear hp hq hk1 hv hu; omega
  have bp : 0 ≤ dp ∧ dp ≤ 134217727 := by clear hp hq hk1 hv hu hgi hdq; omega
  have bq : 0 ≤ dq ∧ dq ≤ 18014398509481983 := by clear hp hq hk1 hv hu hfi hdp bp; omega
  rw [show (u : Int) % 4294967296 - kp = (f : Int) * 134217728 - kp + dp by rw [hdp]; omega] at hp
  rw [show (u : Int) % 576460752303423488 - kq = (g : Int) * 18014398509481984 - kq + dq by rw [hdq]; omega] at hq
  obtain ⟨c0, c1, c2, hi, -, -, hc0, hc1, hc2⟩ := coords _ _ _ _ _ hp hq
  obtain ⟨t0, ht0, e0, he0, hd0⟩ := range0 c0 _ f g dp dq kp kq (t00 f g l) hc0 hi0 hi1 bp.1 bp.2 bq.1 bq.2 (by rw [t00, hkp, hkq])
  obtain ⟨t1, ht1, e1, he1, hd1⟩ := range1 c1 _ f g dp dq kp kq (t01 f g l) hc1 hi0 hi1 bp.1 bp.2 bq.1 bq.2 (by rw [t01, hkp, hkq])
  obtain ⟨t2, ht2, e2, he2, hd2⟩ := range2 c2 _ f g dp dq kp kq (t02 f g l) hc2 hi0 hi1 bp.1 bp.2 bq.1 bq.2 (by rw [t02, hkp, hkq])
  obtain ⟨x0, x1, x2, x3⟩ := partIx hfl hgl ht2
  have hz := hall ((f * 32 + g) * 13 + t2) x0
  have hz2 : partF f g l t2 = true := by
    rw [part, x1, x2, x3, ← hx] at hz
    exact hz
  rw [partF, m64L, m80] at hz2
  have hb2 := loop2_sound (cP0 f) (cQ0 g) 8 _ _ (Nat.mod_lt _ (by decide)) (Nat.mod_lt _ (by decide)) hz2 t1 ht1
  have hb1 := loop1_sound (cP0 f) (cQ0 g) 12 _ _ (Nat.mod_lt _ (by decide)) (Nat.mod_lt _ (by decide)) hb2 t0 ht0
  obtain ⟨m, hm⟩ := modsum64 (a := ub0 f g l) (x := t2 * 4612811162432510464) (y := t1 * 623354357462528) (z := t0 * 2345120858552320) (X := 2345120858552320 * t00 f g l + 623354357462528 * t01 f g l + 4612811162432510464 * t02 f g l + 14873627383544574269 * (rhoL l : Int)) (Int.toNat_of_nonneg (Int.emod_nonneg _ (by decide)))
  obtain ⟨n, hn⟩ := modsum80 (a := ic0 f g l) (x := t2 * 86952208) (y := t1 * 169430896) (z := t0 * 1208925819614629125097664) (X := 1208925819614629125097664 * t00 f g l + 169430896 * t01 f g l + 86952208 * t02 f g l) (Int.toNat_of_nonneg (Int.emod_nonneg _ (by decide)))
  have hb : body (cP0 f) (cQ0 g) ((((ub0 f g l + t2 * 4612811162432510464) % 18446744073709551616 + t1 * 623354357462528) % 18446744073709551616 + t0 * 2345120858552320) % 18446744073709551616) ((((ic0 f g l + t2 * 86952208) % 1208925819614629174706176 + t1 * 169430896) % 1208925819614629174706176 + t0 * 1208925819614629125097664) % 1208925819614629174706176) = true := hb1
  have hubl := Nat.mod_lt (((ub0 f g l + t2 * 4612811162432510464) % 18446744073709551616 + t1 * 623354357462528) % 18446744073709551616 + t0 * 2345120858552320) (show 18446744073709551616 > 0 by decide)
  generalize (((ub0 f g l + t2 * 4612811162432510464) % 18446744073709551616 + t1 * 623354357462528) % 18446744073709551616 + t0 * 2345120858552320) % 18446744073709551616 = ub at hm hb hubl
  generalize (((ic0 f g l + t2 * 86952208) % 1208925819614629174706176 + t1 * 169430896) % 1208925819614629174706176 + t0 * 1208925819614629125097664) % 1208925819614629174706176 = ic at hn hb
  clear hb1 hb2 hz hz2 hall hc0 hc1 hc2 hp hq ekp ekq
  rw [← hrho] at hm
  generalize t00 f g l = T0 at *
  generalize t01 f g l = T1 at *
  generalize t02 f g l = T2 at *
  rw [hd0, hd1, hd2] at hi
  obtain ⟨idx, hidx, m2, hr⟩ := place e0 e1 e2 he0 he1 he2
  have hU := eqU (D0 := T0 + t0) (D1 := T1 + t1) (D2 := T2 + t2) hk1 hvI hi (ubI hm) hr
  have tp := tstPl hU hr (rg0 he0).1 (rg1 he1).1 (rg2 he2).1 (rg0 he0).2 (rg1 he1).2 (rg2 he2).2 hfi
  have tq := tstQl hU hr (rg0 he0).1 (rg1 he1).1 (rg2 he2).1 (rg0 he0).2 (rg1 he1).2 (rg2 he2).2 hgi
  have ti := tstIl (ic := ic) hi (icI hn) (rg0 he0).1 (rg1 he1).1 (rg2 he2).1 (rg0 he0).2 (rg1 he1).2 (rg2 he2).2 hi0 hi1
  have htst : tst (cP0 f) (cQ0 g) ub ic = true := by
    rw [tst, Bool.and_eq_true, Bool.and_eq_true]
    exact ⟨bleI ti, bleP hfl tp, bleQ hgl tq⟩
  have hfin := body_sound hubl htst hb hidx
  rw [laneU hul hU] at hfin
  exact hfin
end C6
end SeedFact
namespace SeedFact
namespace S6
def dsL : List Nat := [1389711270430113792, 9918227672069832704, 14182485872889692160, 16314614973299621888, 8157307486649810944, 4078653743324905472, 2039326871662452736, 10243035472686002176, 14344889773197776896, 16395816923453664256, 17421280498581607936, 17934012286145579776]
def vO : Nat := ones 12
def vM : Nat := Nat.mul (ones 12) 18446744073709551615
def vB : Nat := Nat.mul (ones 12) 18446744073709551616
def vR : Nat := rv dsL
def body (ub : Nat) : Bool := chkS vO vM vB 25769803776 (addm vO vM vR ub)
def loop : Nat → Nat → Bool
  | 0, _ => true
  | n+1, ub => and (body ub) (loop n (Nat.land (Nat.add ub 2779422540860227584) 18446744073709551615))
/-- what is left of 256 for a state that ends in 128 + 2 r -/
def rest (r : Nat) : Nat := (227 * (128 + 2 * r) + 255) % 256 + 1
def part (z : Nat) : Bool := loop 32 (12031615345788793547 * (256 * (z % 768 * 131072) + rest (z / 768)) % 18446744073709551616)
theorem vM_eq : vM = mk (2^12) := ones_mul 12 _
theorem vR_eq : vR = pack (rf dsL) (2^12) := rv_eq dsL (by decide)
theorem body_sound {ub : Nat} (hu : ub < 2^64) (h : body ub = true) {i : Nat} (hi : i < 2^12) :
    ¬ (hitS 25769803776 (stL ((rf dsL i + ub) % 18446744073709551616)) = 18446744073709551616 ∧ hitS 25769803776 (stL (stL ((rf dsL i + ub) % 18446744073709551616))) = 18446744073709551616) := by
  rw [body, show vO = ones 12 from rfl, show vB = ones 12 * 18446744073709551616 from rfl, vM_eq, vR_eq, addm_eq (fun i => rf_lt dsL i) 12 ub hu] at h
  exact chkS_sound (f := fun i => (rf dsL i + ub) % 18446744073709551616) (fun i => mod64 _) (by decide) h hi
theorem loop_sound : ∀ n ub, ub < 18446744073709551616 → loop n ub = true → ∀ t, t < n → body ((ub + t * 2779422540860227584) % 18446744073709551616) = true
  | 0, _, _, _, t, ht => absurd ht (by omega)
  | n+1, ub, hu, h, t, ht => by
    rw [loop, Bool.and_eq_true, show Nat.land (Nat.add ub 2779422540860227584) 18446744073709551615 = (ub + 2779422540860227584) % 18446744073709551616 from m64 _] at h
    cases t with
    | zero =>
      rw [show (ub + 0 * 2779422540860227584) % 18446744073709551616 = ub by omega]
      exact h.1
    | succ t =>
      have h3 := loop_sound n _ (Nat.mod_lt _ (by decide)) h.2 t (by omega)
      rw [show ((ub + 2779422540860227584) % 18446744073709551616 + t * 2779422540860227584) % 18446744073709551616 = (ub + (t + 1) * 2779422540860227584) % 18446744073709551616 by omega] at h3
      exact h3
theorem pl (l : Nat) (h : l < 4096) : ∃ m : Int, ((l / 1 % 2 * 17934012286145579776 + l / 2 % 2 * 17421280498581607936 + l / 4 % 2 * 16395816923453664256 + l / 8 % 2 * 14344889773197776896 + l / 16 % 2 * 10243035472686002176 + l / 32 % 2 * 2039326871662452736 + l / 64 % 2 * 4078653743324905472 + l / 128 % 2 * 8157307486649810944 + l / 256 % 2 * 16314614973299621888 + l / 512 % 2 * 14182485872889692160 + l / 1024 % 2 * 9918227672069832704 + l / 2048 % 2 * 1389711270430113792 : Nat) : Int) = 3080093528521931148032 * (l : Int) + 18446744073709551616 * m := by
  have hd : l = 1 * (l / 1 % 2) + 2 * (l / 2 % 2) + 4 * (l / 4 % 2) + 8 * (l / 8 % 2) + 16 * (l / 16 % 2) + 32 * (l / 32 % 2) + 64 * (l / 64 % 2) + 128 * (l / 128 % 2) + 256 * (l / 256 % 2) + 512 * (l / 512 % 2) + 1024 * (l / 1024 % 2) + 2048 * (l / 2048 % 2) := by omega
  refine ⟨-(166 * ((l / 1 % 2 : Nat) : Int) + 333 * ((l / 2 % 2 : Nat) : Int) + 667 * ((l / 4 % 2 : Nat) : Int) + 1335 * ((l / 8 % 2 : Nat) : Int) + 2671 * ((l / 16 % 2 : Nat) : Int) + 5343 * ((l / 32 % 2 : Nat) : Int) + 10686 * ((l / 64 % 2 : Nat) : Int) + 21372 * ((l / 128 % 2 : Nat) : Int) + 42744 * ((l / 256 % 2 : Nat) : Int) + 85489 * ((l / 512 % 2 : Nat) : Int) + 170979 * ((l / 1024 % 2 : Nat) : Int) + 341959 * ((l / 2048 % 2 : Nat) : Int)), ?_⟩
  generalize l / 1 % 2 = x0 at *
  generalize l / 2 % 2 = x1 at *
  generalize l / 4 % 2 = x2 at *
  generalize l / 8 % 2 = x3 at *
  generalize l / 16 % 2 = x4 at *
  generalize l / 32 % 2 = x5 at *
  generalize l / 64 % 2 = x6 at *
  generalize l / 128 % 2 = x7 at *
  generalize l / 256 % 2 = x8 at *
  generalize l / 512 % 2 = x9 at *
  generalize l / 1024 % 2 = x10 at *
  generalize l / 2048 % 2 = x11 at *
  subst hd
  omega
theorem gl {a t r : Nat} {B m : Int} (ha : (a : Int) = B + 18446744073709551616 * m) (hd : 18446744073709551616 * t + r = a) : (r : Int) = B + 18446744073709551616 * (m - t) := by omega
set_option maxRecDepth 100000 in
theorem place (l : Nat) (h : l < 4096) : ∃ i, i < 2^12 ∧ ∃ m : Int, (rf dsL i : Int) = 3080093528521931148032 * (l : Int) + 18446744073709551616 * m := by
  obtain ⟨i, hi, e⟩ := rf_all dsL [l / 2048 % 2, l / 1024 % 2, l / 512 % 2, l / 256 % 2, l / 128 % 2, l / 64 % 2, l / 32 % 2, l / 16 % 2, l / 8 % 2, l / 4 % 2, l / 2 % 2, l / 1 % 2] rfl (by
    intro x hx
    simp only [List.mem_cons, List.not_mem_nil, or_false] at hx
    rcases hx with rfl | rfl | rfl | rfl | rfl | rfl | rfl | rfl | rfl | rfl | rfl | rfl <;> omega)
  refine ⟨i, hi, ?_⟩
  have hbs : bsum dsL [l / 2048 % 2, l / 1024 % 2, l / 512 % 2, l / 256 % 2, l / 128 % 2, l / 64 % 2, l / 32 % 2, l / 16 % 2, l / 8 % 2, l / 4 % 2, l / 2 % 2, l / 1 % 2] = 0 + l / 1 % 2 * 17934012286145579776 + l / 2 % 2 * 17421280498581607936 + l / 4 % 2 * 16395816923453664256 + l / 8 % 2 * 14344889773197776896 + l / 16 % 2 * 10243035472686002176 + l / 32 % 2 * 2039326871662452736 + l / 64 % 2 * 4078653743324905472 + l / 128 % 2 * 8157307486649810944 + l / 256 % 2 * 16314614973299621888 + l / 512 % 2 * 14182485872889692160 + l / 1024 % 2 * 9918227672069832704 + l / 2048 % 2 * 1389711270430113792 := rfl
  obtain ⟨ma, ha⟩ := pl l h
  have hs : (0 + l / 1 % 2 * 17934012286145579776 + l / 2 % 2 * 17421280498581607936 + l / 4 % 2 * 16395816923453664256 + l / 8 % 2 * 14344889773197776896 + l / 16 % 2 * 10243035472686002176 + l / 32 % 2 * 2039326871662452736 + l / 64 % 2 * 4078653743324905472 + l / 128 % 2 * 8157307486649810944 + l / 256 % 2 * 16314614973299621888 + l / 512 % 2 * 14182485872889692160 + l / 1024 % 2 * 9918227672069832704 + l / 2048 % 2 * 1389711270430113792 : Nat) = (l / 1 % 2 * 17934012286145579776 + l / 2 % 2 * 17421280498581607936 + l / 4 % 2 * 16395816923453664256 + l / 8 % 2 * 14344889773197776896 + l / 16 % 2 * 10243035472686002176 + l / 32 % 2 * 2039326871662452736 + l / 64 % 2 * 4078653743324905472 + l / 128 % 2 * 8157307486649810944 + l / 256 % 2 * 16314614973299621888 + l / 512 % 2 * 14182485872889692160 + l / 1024 % 2 * 9918227672069832704 + l / 2048 % 2 * 1389711270430113792) := by
    simp only [Nat.zero_add]
  rw [e, hbs, hs]
  exact ⟨_, gl ha (Nat.div_add_mod _ 18446744073709551616)⟩
theorem modl {a b c : Nat} (h : a = 12031615345788793547 * (256 * b + c) % 18446744073709551616) (m2 : Int) (l t : Nat) {r : Nat} (hr : (r : Int) = 3080093528521931148032 * (l : Int) + 18446744073709551616 * m2) :
    (r + (a + t * 2779422540860227584) % 18446744073709551616) % 18446744073709551616 = 12031615345788793547 * (256 * (b + t * 4096 + l) + c) % 18446744073709551616 := by
  omega
theorem digits {i : Nat} : i = i / 131072 * 131072 + i / 4096 % 32 * 4096 + i % 4096 := by omega
theorem rest0 {x a t : Nat} (h : 18446744073709551616 * t + x = 12031615345788793547 * a) : ∃ w : Int, (x : Int) = 203 * (a : Int) + 256 * w := ⟨46998497444487474 * (a : Int) - 72057594037927936 * (t : Int), by omega⟩
theorem rest1 {x a r : Nat} {w : Int} (h : (x : Int) = 203 * (a : Int) + 256 * w) (h1 : 1 ≤ a) (h2 : x % 256 = 128 + 2 * r) : (227 * (128 + 2 * r) + 255) % 256 = (a - 1) % 256 := by omega
theorem restl {x a r : Nat} (h : x = 12031615345788793547 * a % 18446744073709551616) (h1 : 1 ≤ a) (h0 : x % 2 = 0) (h7 : x / 128 % 2 = 1) (hr : r = x % 128 / 2) : a = 256 * ((a - 1) / 256) + rest r := by
  have h2 : x % 256 = 128 + 2 * r := by clear h; omega
  have hd := Nat.div_add_mod (12031615345788793547 * a) 18446744073709551616
  rw [← h] at hd
  obtain ⟨w, hw⟩ := rest0 hd
  have h3 := rest1 hw h1 h2
  rw [rest, h3]
  clear h hd hw h3 h2 h0 h7 hr
  omega
theorem partIx {r s : Nat} (hs : s < 768) (hr : r < 64) : r * 768 + s < 49152 ∧ (r * 768 + s) % 768 = s ∧ (r * 768 + s) / 768 = r := by omega
/-- whoever is in the window and goes from 0 to 1 has been looked at -/
theorem covered (hall : ∀ z, z < 49152 → part z = true) {x a : Nat} (h1 : 1 ≤ a) (hN : a ≤ 25769803776) (hx : x = 12031615345788793547 * a % 18446744073709551616) (h0 : x % 2 = 0) (h7 : x / 128 % 2 = 1) :
    ¬ (hitS 25769803776 (stL x) = 18446744073709551616 ∧ hitS 25769803776 (stL (stL x)) = 18446744073709551616) := by
  obtain ⟨r, hr⟩ : ∃ r, r = x % 128 / 2 := ⟨_, rfl⟩
  have ha := restl hx h1 h0 h7 hr
  have hr64 : r < 64 := by clear hx ha; omega
  obtain ⟨i, hi⟩ : ∃ i, i = (a - 1) / 256 := ⟨_, rfl⟩
  have hib : i < 100663296 := by clear hx ha; omega
  have hs : i / 131072 < 768 := by clear hx ha; omega
  obtain ⟨y0, y1, y2⟩ := partIx hs hr64
  have hz := hall (r * 768 + i / 131072) y0
  have hz2 : loop 32 (12031615345788793547 * (256 * (i / 131072 * 131072) + rest r) % 18446744073709551616) = true := by
    rw [part, y1, y2] at hz
    exact hz
  have hb := loop_sound 32 _ (Nat.mod_lt _ (by decide)) hz2 (i / 4096 % 32) (Nat.mod_lt _ (by decide))
  obtain ⟨idx, hidx, m2, hm2⟩ := place (i % 4096) (Nat.mod_lt _ (by decide))
  have hfin := body_sound (Nat.mod_lt _ (by decide)) hb hidx
  rw [modl rfl m2 (i % 4096) (i / 4096 % 32) hm2, ← digits, hi, ← ha, ← hx] at hfin
  exact hfin
end S6
end SeedFact
