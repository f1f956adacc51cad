/- Plain facts about numbers of 32 and 64 bits and their bitwise operations, bit by bit. No program in sight. -/
import Derived.Laws.Bits64
import Derived.IntWalk
namespace Go.Proofs.Ytodmkjeankbieab

/-- the bitwise operation that is meant -/
def bw (an : Bool) (a b : Nat) : Nat := if an then a &&& b else a ^^^ b

/-- one bit of it -/
def bw1 (an : Bool) (x y : Nat) : Bool := if an then x == 1 && y == 1 else x != y

def pw (k : Nat) : Nat := 2 ^ k % 18446744073709551616
def bwk (an : Bool) (a b k : Nat) : Nat := bw an a b % 2 ^ k

theorem bw_lt (an : Bool) (a b j : Nat) (ha : a < 2 ^ j) (hb : b < 2 ^ j) : bw an a b < 2 ^ j := by
  unfold bw; split
  · exact Nat.and_lt_two_pow _ hb
  · exact Nat.xor_lt_two_pow ha hb

theorem testBit_bw (an : Bool) (a b k : Nat) : (bw an a b).testBit k = bw1 an (a / 2 ^ k % 2) (b / 2 ^ k % 2) := by
  have h1 : ∀ x : Nat, x.testBit k = decide (x / 2 ^ k % 2 = 1) := fun x => Nat.testBit_eq_decide_div_mod_eq
  have ha : a / 2 ^ k % 2 < 2 := Nat.mod_lt _ (by decide)
  have hb : b / 2 ^ k % 2 < 2 := Nat.mod_lt _ (by decide)
  unfold bw bw1
  cases an
  · rw [if_neg (by simp), if_neg (by simp), Nat.testBit_xor, h1 a, h1 b]
    generalize a / 2 ^ k % 2 = x at *; generalize b / 2 ^ k % 2 = y at *
    have h3 : x = 0 ∨ x = 1 := by omega
    have h4 : y = 0 ∨ y = 1 := by omega
    rcases h3 with rfl | rfl <;> rcases h4 with rfl | rfl <;> rfl
  · rw [if_pos rfl, if_pos rfl, Nat.testBit_and, h1 a, h1 b]
    generalize a / 2 ^ k % 2 = x at *; generalize b / 2 ^ k % 2 = y at *
    have h3 : x = 0 ∨ x = 1 := by omega
    have h4 : y = 0 ∨ y = 1 := by omega
    rcases h3 with rfl | rfl <;> rcases h4 with rfl | rfl <;> rfl

theorem bwk_succ (an : Bool) (a b k : Nat) : bwk an a b (k + 1) = bwk an a b k + 2 ^ k * (bw1 an (a / 2 ^ k % 2) (b / 2 ^ k % 2)).toNat := by
  unfold bwk
  have h1 : (bw an a b).testBit k = decide (bw an a b / 2 ^ k % 2 = 1) := Nat.testBit_eq_decide_div_mod_eq
  rw [testBit_bw] at h1
  rw [h1, Nat.pow_succ, Nat.mod_mul]
  have h2 : bw an a b / 2 ^ k % 2 = 0 ∨ bw an a b / 2 ^ k % 2 = 1 := by omega
  rcases h2 with h2 | h2 <;> rw [h2] <;> simp

theorem pw_lt (k : Nat) (h : k < 64) : pw k = 2 ^ k ∧ 2 ^ k ≤ 9223372036854775808 := by
  have h2 : 2 ^ k ≤ 2 ^ 63 := Nat.pow_le_pow_right (by decide) (by omega)
  have e : (2 : Nat) ^ 63 = 9223372036854775808 := by decide
  rw [e] at h2
  exact ⟨Nat.mod_eq_of_lt (by omega), h2⟩

theorem pw_succ (k : Nat) : (pw k + pw k) % 18446744073709551616 = pw (k + 1) := by
  unfold pw; rw [Nat.pow_succ]; omega

theorem bwk_lt (an : Bool) (a b k : Nat) : bwk an a b k < 2 ^ k := Nat.mod_lt _ (Nat.two_pow_pos k)

theorem half_step (a k : Nat) : a / 2 ^ k / 2 = a / 2 ^ (k + 1) := by
  rw [Nat.div_div_eq_div_mul, Nat.pow_succ]

theorem bwk_64 (an : Bool) (a b : Nat) (ha : a < 18446744073709551616) (hb : b < 18446744073709551616) : bwk an a b 64 = bw an a b := by
  unfold bwk
  exact Nat.mod_eq_of_lt (bw_lt an a b 64 (by simpa using ha) (by simpa using hb))

/-- what an operation on numbers below M gives -/
def opM (M : Int) (op a b : Int) : Int :=
  if op = 1 then (a + b) % M
  else if op = 2 then (a - b) % M
  else if op = 3 then a * b % M
  else if op = 4 then ((bw true a.toNat b.toNat : Nat) : Int)
  else if op = 5 then ((bw false a.toNat b.toNat : Nat) : Int)
  else if op = 6 then (if a < b then 1 else 0)
  else 0

def wideOp (op a b : Int) : Int := opM 18446744073709551616 op a b
def narrowOp (op a b : Int) : Int := opM 4294967296 op a b

theorem bw_lt_int (an : Bool) (j : Nat) (M : Int) (hM : M = ((2 ^ j : Nat) : Int)) (a b : Int) (ha : a < M) (hb : b < M) : ((bw an a.toNat b.toNat : Nat) : Int) < M := by
  subst hM
  have hp := Nat.two_pow_pos j
  have := bw_lt an a.toNat b.toNat j (by omega) (by omega)
  omega

theorem opM_range (j : Nat) (M : Int) (hM : M = ((2 ^ j : Nat) : Int)) (hj : 2 ≤ M) (op a b : Int) (ha : a < M) (hb : b < M) : 0 ≤ opM M op a b ∧ opM M op a b < M := by
  have h1 := bw_lt_int true j M hM a b ha hb
  have h2 := bw_lt_int false j M hM a b ha hb
  have h0 : M ≠ 0 := by omega
  have e1 := Int.emod_nonneg (a + b) h0
  have e2 := Int.emod_nonneg (a - b) h0
  have e3 := Int.emod_nonneg (a * b) h0
  have f1 := Int.emod_lt_of_pos (a + b) (show 0 < M by omega)
  have f2 := Int.emod_lt_of_pos (a - b) (show 0 < M by omega)
  have f3 := Int.emod_lt_of_pos (a * b) (show 0 < M by omega)
  unfold opM
  split; · exact ⟨e1, f1⟩
  split; · exact ⟨e2, f2⟩
  split; · exact ⟨e3, f3⟩
  split; · exact ⟨Int.natCast_nonneg _, h1⟩
  split; · exact ⟨Int.natCast_nonneg _, h2⟩
  split
  · split <;> omega
  · omega

theorem wideOp_range (op a b : Int) (ha : a < 18446744073709551616) (hb : b < 18446744073709551616) : 0 ≤ wideOp op a b ∧ wideOp op a b ≤ 18446744073709551615 := by
  have := opM_range 64 18446744073709551616 (by decide) (by decide) op a b ha hb
  unfold wideOp; omega

theorem narrowOp_range (op a b : Int) (ha : a < 4294967296) (hb : b < 4294967296) : 0 ≤ narrowOp op a b ∧ narrowOp op a b ≤ 4294967295 := by
  have := opM_range 32 4294967296 (by decide) (by decide) op a b ha hb
  unfold narrowOp; omega

/-- the narrow operation is the wide one's lower half -/
theorem narrow_of_wide (op a b : Int) (ha : a < 4294967296) (hb : b < 4294967296) : wideOp op a b % 4294967296 = narrowOp op a b := by
  have h1 := bw_lt_int true 32 4294967296 (by decide) a b ha hb
  have h2 := bw_lt_int false 32 4294967296 (by decide) a b ha hb
  unfold wideOp narrowOp opM
  split; · omega
  split; · omega
  split; · exact Int.emod_emod_of_dvd _ (by decide)
  split; · exact Int.emod_eq_of_lt (Int.natCast_nonneg _) h1
  split; · exact Int.emod_eq_of_lt (Int.natCast_nonneg _) h2
  split
  · split <;> omega
  · omega

theorem opM_1 {M op a b : Int} (h : (op == 1) = true) : opM M op a b = (a + b) % M := by
  obtain rfl : op = 1 := by simpa using h
  rfl
theorem opM_2 {M op a b : Int} (h : (op == 2) = true) : opM M op a b = (a - b) % M := by
  obtain rfl : op = 2 := by simpa using h
  rfl
theorem opM_3 {M op a b : Int} (h : (op == 3) = true) : opM M op a b = a * b % M := by
  obtain rfl : op = 3 := by simpa using h
  rfl
theorem opM_4 {M op a b : Int} (h : (op == 4) = true) : opM M op a b = ((bw true a.toNat b.toNat : Nat) : Int) := by
  obtain rfl : op = 4 := by simpa using h
  rfl
theorem opM_5 {M op a b : Int} (h : (op == 5) = true) : opM M op a b = ((bw false a.toNat b.toNat : Nat) : Int) := by
  obtain rfl : op = 5 := by simpa using h
  rfl
theorem opM_6 {M op a b : Int} (h : (op == 6) = true) : opM M op a b = if a < b then 1 else 0 := by
  obtain rfl : op = 6 := by simpa using h
  rfl
theorem opM_0 {M op a b : Int} (h1 : (op == 1) = false) (h2 : (op == 2) = false) (h3 : (op == 3) = false) (h4 : (op == 4) = false) (h5 : (op == 5) = false) (h6 : (op == 6) = false) :
    opM M op a b = 0 := by
  have e1 : op ≠ 1 := by simpa using h1
  have e2 : op ≠ 2 := by simpa using h2
  have e3 : op ≠ 3 := by simpa using h3
  have e4 : op ≠ 4 := by simpa using h4
  have e5 : op ≠ 5 := by simpa using h5
  have e6 : op ≠ 6 := by simpa using h6
  unfold opM
  rw [if_neg e1, if_neg e2, if_neg e3, if_neg e4, if_neg e5, if_neg e6]

theorem bits_u (k : IntKind) (j : Nat) (M : Int) (hj : j ≤ k.bits) (hM : M = ((2 ^ j : Nat) : Int)) (hk : ∀ n : Int, 0 ≤ n → n < 2 ^ j → k.wrap n = n) (a b : Int)
    (h0 : 0 ≤ a) (h1 : a < M) (g0 : 0 ≤ b) (g1 : b < M) :
    bits .and k a b = ((bw true a.toNat b.toNat : Nat) : Int) ∧ bits .xor k a b = ((bw false a.toNat b.toNat : Nat) : Int) := by
  obtain ⟨x, rfl⟩ := Int.eq_ofNat_of_zero_le h0
  obtain ⟨y, rfl⟩ := Int.eq_ofNat_of_zero_le g0
  have hp := Nat.two_pow_pos j
  have hx : x < 2 ^ j := by subst hM; omega
  have hy : y < 2 ^ j := by subst hM; omega
  have hq : 2 ^ j ≤ 2 ^ k.bits := Nat.pow_le_pow_right (by decide) hj
  have hx' : x % 2 ^ k.bits = x := Nat.mod_eq_of_lt (Nat.lt_of_lt_of_le hx hq)
  have hy' : y % 2 ^ k.bits = y := Nat.mod_eq_of_lt (Nat.lt_of_lt_of_le hy hq)
  have cast : ∀ n : Nat, n < 2 ^ j → ((n : Nat) : Int) < 2 ^ j := fun n h => by exact_mod_cast h
  refine ⟨?_, ?_⟩
  · rw [(bits_nat k j hj hk x y hx hy).1]; rfl
  · simp only [bits, BitVec.ofInt_natCast, BitVec.toNat_xor, BitVec.toNat_ofNat, hx', hy']
    exact hk _ (Int.natCast_nonneg _) (cast _ (Nat.xor_lt_two_pow hx hy))

theorem bits_u64 (a b : Int) (h0 : 0 ≤ a) (h1 : a ≤ 18446744073709551615) (g0 : 0 ≤ b) (g1 : b ≤ 18446744073709551615) :
    bits .and .u64 a b = ((bw true a.toNat b.toNat : Nat) : Int) ∧ bits .xor .u64 a b = ((bw false a.toNat b.toNat : Nat) : Int) :=
  bits_u .u64 64 18446744073709551616 (by decide) (by decide) (fun n h h' => by rw [IntKind.wrap_u64]; exact Int.emod_eq_of_lt h (by simpa using h')) a b h0 (by omega) g0 (by omega)
theorem bits_u32 (a b : Int) (h0 : 0 ≤ a) (h1 : a ≤ 4294967295) (g0 : 0 ≤ b) (g1 : b ≤ 4294967295) :
    bits .and .u32 a b = ((bw true a.toNat b.toNat : Nat) : Int) ∧ bits .xor .u32 a b = ((bw false a.toNat b.toNat : Nat) : Int) :=
  bits_u .u32 32 4294967296 (by decide) (by decide) (fun n h h' => by rw [IntKind.wrap_u32]; exact Int.emod_eq_of_lt h (by simpa using h')) a b h0 (by omega) g0 (by omega)

end Go.Proofs.Ytodmkjeankbieab
