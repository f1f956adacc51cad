/- The walks of chapter 1: what num.Narrow, num.Wide and the reference's two compute, each for all operations and numbers. -/
import Derived.Test.YtodmkjeankbieabProg
import Derived.Test.YtodmkjeankbieabNumPlain
import Derived.WalkKit
import Derived.ProofKit
import Derived.WalkSpells
import Derived.WalkLawsBesides
import Derived.Lib.Hide
import Derived.Outline
namespace Go.Proofs.Ytodmkjeankbieab
open Go.RowKit

theorem ret_int {k : IntKind} {a b : Int} (h : a = b) : Ending.returned (.int k a) = .returned (.int k b) := by rw [h]

theorem do64 (op a b : Int) (h0 : 0 ≤ a) (h1 : a ≤ 18446744073709551615) (g0 : 0 ≤ b) (g1 : b ≤ 18446744073709551615) (w : World) :
    Calls Try.prog 106 #[.int .i64 op, .int .u64 a, .int .u64 b] w fun e w' => e = .returned (.int .u64 (wideOp op a b)) ∧ w = w' := by
  go_enter Try.func106, Try.ntmps106
  go_wp2
  all_goals go_ret
  all_goals refine ⟨ret_int ?_, rfl⟩
  all_goals unfold wideOp
  · rw [opM_1 ‹_›, IntKind.wrap_u64]
  · rw [opM_2 ‹_›, IntKind.wrap_u64]
  · rw [opM_3 ‹_›, IntKind.wrap_u64]
  · rw [opM_4 ‹_›, (bits_u64 a b h0 h1 g0 g1).1]
  · rw [opM_5 ‹_›, (bits_u64 a b h0 h1 g0 g1).2]
  · rw [opM_6 ‹_›, if_pos ‹_›]
  · rw [opM_6 ‹_›, if_neg (by omega)]
  · rw [opM_0 ‹_› ‹_› ‹_› ‹_› ‹_› ‹_›]

theorem do32 (op a b : Int) (h0 : 0 ≤ a) (h1 : a ≤ 4294967295) (g0 : 0 ≤ b) (g1 : b ≤ 4294967295) (w : World) :
    Calls Try.prog 107 #[.int .i64 op, .int .u32 a, .int .u32 b] w fun e w' => e = .returned (.int .u32 (narrowOp op a b)) ∧ w = w' := by
  go_enter Try.func107, Try.ntmps107
  go_wp2
  all_goals go_ret
  all_goals refine ⟨ret_int ?_, rfl⟩
  all_goals unfold narrowOp
  · rw [opM_1 ‹_›]
  · rw [opM_2 ‹_›]
  · rw [opM_3 ‹_›]
  · rw [opM_4 ‹_›, (bits_u32 a b h0 h1 g0 g1).1]
  · rw [opM_5 ‹_›, (bits_u32 a b h0 h1 g0 g1).2]
  · rw [opM_6 ‹_›, if_pos ‹_›]
  · rw [opM_6 ‹_›, if_neg (by omega)]
  · rw [opM_0 ‹_› ‹_› ‹_› ‹_› ‹_› ‹_›]

theorem Wide_any (op a b : Int) (h0 : 0 ≤ a) (h1 : a ≤ 18446744073709551615) (g0 : 0 ≤ b) (g1 : b ≤ 18446744073709551615) (w : World) :
    Calls Try.prog 79 #[.int .i64 op, .int .u64 a, .int .u64 b] w fun e w' => e = .returned (.int .u64 (wideOp op a b)) ∧ w = w' := by
  go_enter Try.func79, Try.ntmps79
  go_wp2_with (go_at_call 106; refine (do64 _ _ _ h0 h1 g0 g1 _).mono ?_; rintro e w' ⟨rfl, rfl⟩)
  go_ret
  exact ⟨rfl, rfl⟩

theorem Narrow_any (op a b : Int) (h0 : 0 ≤ a) (h1 : a ≤ 4294967295) (g0 : 0 ≤ b) (g1 : b ≤ 4294967295) (w : World) :
    Calls Try.prog 80 #[.int .i64 op, .int .u32 a, .int .u32 b] w fun e w' => e = .returned (.int .u32 (narrowOp op a b)) ∧ w = w' := by
  go_enter Try.func80, Try.ntmps80
  go_wp2_with (go_at_call 107; refine (do32 _ _ _ h0 h1 g0 g1 _).mono ?_; rintro e w' ⟨rfl, rfl⟩)
  go_ret
  exact ⟨rfl, rfl⟩

/-- the loop's relation: what n, power, a, b hold behind k rounds -/
def BitsAt (an : Bool) (a b : Nat) (k n p x y : Nat) : Prop :=
  n = bwk an a b k ∧ p = pw k ∧ x = a / 2 ^ k ∧ y = b / 2 ^ k

theorem bitsAt_0 (an : Bool) (a b : Nat) : BitsAt an a b 0 0 1 a b := by
  refine ⟨by simp [bwk]; omega, by decide, by simp, by simp⟩

theorem bitsAt_bounds {an : Bool} {a b k n p x y : Nat} (h : BitsAt an a b k n p x y) (hk : k < 64) :
    n < p ∧ p ≤ 9223372036854775808 ∧ x ≤ a ∧ y ≤ b := by
  obtain ⟨rfl, rfl, rfl, rfl⟩ := h
  have h1 := pw_lt k hk
  have h2 := bwk_lt an a b k
  have h3 := Nat.div_le_self a (2 ^ k)
  have h4 := Nat.div_le_self b (2 ^ k)
  omega

theorem bitsAt_succ {an : Bool} {a b k n p x y : Nat} (h : BitsAt an a b k n p x y) (hk : k < 64) :
    BitsAt an a b (k + 1) (if bw1 an (x % 2) (y % 2) then n + p else n) ((p + p) % 18446744073709551616) (x / 2) (y / 2) := by
  obtain ⟨rfl, rfl, rfl, rfl⟩ := h
  refine ⟨?_, pw_succ k, half_step a k, half_step b k⟩
  rw [bwk_succ, (pw_lt k hk).1]
  cases bw1 an (a / 2 ^ k % 2) (b / 2 ^ k % 2) <;> simp

theorem bw1_xt {x y : Nat} (h : ((x : Int) % 2 != (y : Int) % 2) = true) : bw1 false (x % 2) (y % 2) = true := by simp [bw1] at *; omega
theorem bw1_xf {x y : Nat} (h : ((x : Int) % 2 != (y : Int) % 2) = false) : bw1 false (x % 2) (y % 2) = false := by simp [bw1] at *; omega
theorem bw1_at {x y : Nat} (h : (x : Int) % 2 + (y : Int) % 2 = 2) : bw1 true (x % 2) (y % 2) = true := by simp [bw1]; omega
theorem bw1_af {x y : Nat} (h : ¬ (x : Int) % 2 + (y : Int) % 2 = 2) : bw1 true (x % 2) (y % 2) = false := by simp [bw1]; omega

theorem bits_rel {an : Bool} {a0 b0 k n p x y : Nat} (hk : k < 64) (hs : BitsAt an a0 b0 (k + 1) (if bw1 an (x % 2) (y % 2) then n + p else n) ((p + p) % 18446744073709551616) (x / 2) (y / 2)) :
    (bw1 an (x % 2) (y % 2) = true → ∃ k1 n1 p1 x1 y1 : Nat, k1 ≤ 64 ∧ BitsAt an a0 b0 k1 n1 p1 x1 y1 ∧ Value.int IntKind.u64 (↑x / 2) = Value.int IntKind.u64 ↑x1 ∧ Value.int IntKind.u64 (↑y / 2) = Value.int IntKind.u64 ↑y1 ∧
      Value.int IntKind.u64 (↑n + ↑p) = Value.int IntKind.u64 ↑n1 ∧ Value.int IntKind.u64 ((↑p + ↑p) % 18446744073709551616) = Value.int IntKind.u64 ↑p1 ∧ Value.int IntKind.i64 (↑k + 1) = Value.int IntKind.i64 ↑k1) ∧
    (bw1 an (x % 2) (y % 2) = false → ∃ k1 n1 p1 x1 y1 : Nat, k1 ≤ 64 ∧ BitsAt an a0 b0 k1 n1 p1 x1 y1 ∧ Value.int IntKind.u64 (↑x / 2) = Value.int IntKind.u64 ↑x1 ∧ Value.int IntKind.u64 (↑y / 2) = Value.int IntKind.u64 ↑y1 ∧
      Value.int IntKind.u64 (↑n) = Value.int IntKind.u64 ↑n1 ∧ Value.int IntKind.u64 ((↑p + ↑p) % 18446744073709551616) = Value.int IntKind.u64 ↑p1 ∧ Value.int IntKind.i64 (↑k + 1) = Value.int IntKind.i64 ↑k1) := by
  refine ⟨fun h => ?_, fun h => ?_⟩
  · rw [h] at hs; exact ⟨k + 1, n + p, _, _, _, by omega, hs, by simp, by simp, by simp, by simp, by simp⟩
  · rw [h] at hs; exact ⟨k + 1, n, _, _, _, by omega, hs, by simp, by simp, by simp, by simp, by simp⟩

theorem bits_any (an : Bool) (a b : Int) (h0 : 0 ≤ a) (h1 : a ≤ 18446744073709551615) (g0 : 0 ≤ b) (g1 : b ≤ 18446744073709551615) (w : World) :
    Calls Try.prog 108 #[.bool an, .int .u64 a, .int .u64 b] w fun e w' => e = .returned (.int .u64 ((bw an a.toNat b.toNat : Nat) : Int)) ∧ w = w' := by
  obtain ⟨a0, rfl⟩ := Int.eq_ofNat_of_zero_le h0
  obtain ⟨b0, rfl⟩ := Int.eq_ofNat_of_zero_le g0
  have fin : Hid (bwk an a0 b0 64 = bw an a0 b0) := bwk_64 an a0 b0 (by omega) (by omega)
  go_enter Try.func108, Try.ntmps108
  go_wp2
  go_loop [1, 2, 7, 8, 9] (fun sa sb sn sp si => ∃ k n p x y : Nat, k ≤ 64 ∧ BitsAt an a0 b0 k n p x y ∧ sa = .int .u64 x ∧ sb = .int .u64 y ∧ sn = .int .u64 n ∧ sp = .int .u64 p ∧ si = .int .i64 k)
    (fun _ _ _ _ i => 64 - (intOf i).toNat)
  case atStart => exact ⟨0, 0, 1, a0, b0, by omega, bitsAt_0 an a0 b0, rfl, rfl, rfl, rfl, rfl⟩
  case round =>
    obtain ⟨k, n, p, x, y, hk, HB, rfl, rfl, rfl, rfl, rfl⟩ := hrel
    by_cases hlt : k < 64
    · have bd := bitsAt_bounds HB hlt
      have hs := Lib.hid (bitsAt_succ HB hlt)
      obtain ⟨bd1, bd2, bd3, bd4⟩ := bd
      have hp2 : IntKind.u64.wrap ((p : Int) + p) = (((p + p) % 18446744073709551616 : Nat) : Int) := by rw [IntKind.wrap_u64]; omega
      clear HB fin
      cases an
      · go_wp2
        · go_round
          case rel => exact (bits_rel hlt hs.out).1 (bw1_xt ‹_›)
          case measure => simp [intOf]; omega
        · go_round
          case rel => exact (bits_rel hlt hs.out).2 (bw1_xf ‹_›)
          case measure => simp [intOf]; omega
      · go_wp2
        · go_round
          case rel => exact (bits_rel hlt hs.out).1 (bw1_at ‹_›)
          case measure => simp [intOf]; omega
        · go_round
          case rel => exact (bits_rel hlt hs.out).2 (bw1_af ‹_›)
          case measure => simp [intOf]; omega
    · obtain rfl : k = 64 := by omega
      have e : Hid (n = bw an a0 b0) := HB.1.trans fin.out
      clear HB fin
      go_wp2
      go_ret
      exact ⟨ret_int (by rw [e.out]), rfl⟩

theorem refWide_any (op a b : Int) (h0 : 0 ≤ a) (h1 : a ≤ 18446744073709551615) (g0 : 0 ≤ b) (g1 : b ≤ 18446744073709551615) (w : World) :
    Calls Try.prog 82 #[.int .i64 op, .int .u64 a, .int .u64 b] w fun e w' => e = .returned (.int .u64 (wideOp op a b)) ∧ w = w' := by
  go_enter Try.func82, Try.ntmps82
  go_wp2_with (go_at_call 108; refine (bits_any _ _ _ h0 h1 g0 g1 _).mono ?_; rintro e w' ⟨rfl, rfl⟩)
  all_goals go_ret
  all_goals refine ⟨ret_int ?_, rfl⟩
  all_goals unfold wideOp
  · rw [opM_1 ‹_›, IntKind.wrap_u64]
  · rw [opM_2 ‹_›, IntKind.wrap_u64]
  · rw [opM_3 ‹_›, IntKind.wrap_u64]
  · rw [opM_4 ‹_›]
  · rw [opM_5 ‹_›]
  · rw [opM_6 ‹_›, if_pos ‹_›]
  · rw [opM_6 ‹_›, if_neg (by omega)]
  · rw [opM_0 ‹_› ‹_› ‹_› ‹_› ‹_› ‹_›]

theorem refNarrow_any (op a b : Int) (h0 : 0 ≤ a) (h1 : a ≤ 4294967295) (g0 : 0 ≤ b) (g1 : b ≤ 4294967295) (w : World) :
    Calls Try.prog 83 #[.int .i64 op, .int .u32 a, .int .u32 b] w fun e w' => e = .returned (.int .u32 (narrowOp op a b)) ∧ w = w' := by
  have hn := narrow_of_wide op a b (by omega) (by omega)
  have hr := wideOp_range op a b (by omega) (by omega)
  have HN := Lib.hid hn; clear hn
  go_enter Try.func83, Try.ntmps83
  go_wp2_with (go_at_call 82; refine (refWide_any _ _ _ (by omega) (by omega) (by omega) (by omega) _).mono ?_; rintro e w' ⟨rfl, rfl⟩)
  all_goals go_ret
  all_goals refine ⟨ret_int ?_, rfl⟩
  exact HN.out

end Go.Proofs.Ytodmkjeankbieab
