/-
  NumHalves: the lower half of a wide sum, difference, product is that of the lower halves; of a bitwise one the upper half too. No condition.
-/
import Derived.Test.YtodmkjeankbieaaFrame
import Derived.Test.YtodmkjeankbieaaNum
namespace Go.Proofs.Ytodmkjeankbieaa.numHalves
open Go.ChangeShapes Go.WideShapes Go.ChangeAt Go.RowKit Go.Joins

theorem low_half (op : Nat) (h1 : 1 ≤ op) (h5 : op ≤ 5) (a b : Int) (h0 : 0 ≤ a) (g0 : 0 ≤ b) :
    wideOp op a b % 4294967296 = narrowOp op (a % 4294967296) (b % 4294967296) := by
  obtain ⟨x, rfl⟩ := Int.eq_ofNat_of_zero_le h0
  obtain ⟨y, rfl⟩ := Int.eq_ofNat_of_zero_le g0
  have e : op = 1 ∨ op = 2 ∨ op = 3 ∨ op = 4 ∨ op = 5 := by omega
  unfold wideOp narrowOp
  rcases e with rfl | rfl | rfl | rfl | rfl
  · rw [opM_1 rfl, opM_1 rfl]; omega
  · rw [opM_2 rfl, opM_2 rfl]; omega
  · rw [opM_3 rfl, opM_3 rfl, Int.emod_emod_of_dvd _ (by decide), ← Int.mul_emod]
  · rw [opM_4 rfl, opM_4 rfl]
    have e1 : ((x : Int) % 4294967296).toNat = x % 2 ^ 32 := by omega
    have e2 : ((y : Int) % 4294967296).toNat = y % 2 ^ 32 := by omega
    rw [e1, e2]
    have := @Nat.and_mod_two_pow x y 32
    simp only [bw, if_true, Int.toNat_natCast] at *
    omega
  · rw [opM_5 rfl, opM_5 rfl]
    have e1 : ((x : Int) % 4294967296).toNat = x % 2 ^ 32 := by omega
    have e2 : ((y : Int) % 4294967296).toNat = y % 2 ^ 32 := by omega
    rw [e1, e2]
    have := @Nat.xor_mod_two_pow x y 32
    simp only [bw, Bool.false_eq_true, if_false, Int.toNat_natCast] at *
    omega

theorem high_half (op : Nat) (h4 : 4 ≤ op) (h5 : op ≤ 5) (a b : Int) (h0 : 0 ≤ a) (g0 : 0 ≤ b) :
    wideOp op a b / 4294967296 = narrowOp op (a / 4294967296) (b / 4294967296) := by
  obtain ⟨x, rfl⟩ := Int.eq_ofNat_of_zero_le h0
  obtain ⟨y, rfl⟩ := Int.eq_ofNat_of_zero_le g0
  have e : op = 4 ∨ op = 5 := by omega
  have e1 : ((x : Int) / 4294967296).toNat = x / 2 ^ 32 := by omega
  have e2 : ((y : Int) / 4294967296).toNat = y / 2 ^ 32 := by omega
  unfold wideOp narrowOp
  rcases e with rfl | rfl
  · rw [opM_4 rfl, opM_4 rfl, e1, e2]
    have := @Nat.and_div_two_pow x y 32
    simp only [bw, if_true, Int.toNat_natCast] at *
    omega
  · rw [opM_5 rfl, opM_5 rfl, e1, e2]
    have := @Nat.xor_div_two_pow x y 32
    simp only [bw, Bool.false_eq_true, if_false, Int.toNat_natCast] at *
    omega

theorem walk (a b : Int) (h0 : 0 ≤ a) (h1 : a ≤ 18446744073709551615) (g0 : 0 ≤ b) (g1 : b ≤ 18446744073709551615) (w : World) :
    Calls Try.prog 5 #[.int .u64 a, .int .u64 b] w fun e w' => e = .returned (.bool true) ∧ Below w.heap.size w w' := by
  have f1 : wideOp 1 1 1 = 2 := rfl
  have f2 : narrowOp 6 1 2 = 1 := rfl
  go_enter Try.func5, Try.ntmps5
  go_wp2
  go_loop [5] (fun i => ∃ k : Nat, 1 ≤ k ∧ k ≤ 6 ∧ i = .int .i64 k) (fun i => 6 - (intOf i).toNat)
  case atStart => exact ⟨1, by omega, by omega, rfl⟩
  case round =>
    obtain ⟨k, hk1, hk, rfl⟩ := hrel
    by_cases hlt : k < 6
    · have lo := low_half k hk1 (by omega) a b h0 g0
      have bd := wideOp_range k a b (by omega) (by omega)
      by_cases h4 : 4 ≤ k
      · have hi := high_half k h4 (by omega) a b h0 g0
        have h4' : (4 : Int) ≤ (k : Int) := by omega
        go_wp2_with (first
          | (go_at_call 15; refine (Wide_any _ _ _ (by omega) (by omega) (by omega) (by omega) _).mono ?_; rintro e w' ⟨rfl, rfl⟩)
          | (go_at_call 14; refine (Narrow_any _ _ _ (by omega) (by omega) (by omega) (by omega) _).mono ?_; rintro e w' ⟨rfl, rfl⟩))
        go_round
        case rel => exact ⟨k + 1, by omega, by omega, by go_num⟩
        case measure => simp [intOf]; omega
      · have h4' : decide ((k : Int) ≥ 4) = false := by simp; omega
        go_wp2_with (first
          | (go_at_call 15; refine (Wide_any _ _ _ (by omega) (by omega) (by omega) (by omega) _).mono ?_; rintro e w' ⟨rfl, rfl⟩)
          | (go_at_call 14; refine (Narrow_any _ _ _ (by omega) (by omega) (by omega) (by omega) _).mono ?_; rintro e w' ⟨rfl, rfl⟩))
        go_round
        case rel => exact ⟨k + 1, by omega, by omega, by go_num⟩
        case measure => simp [intOf]; omega
    · go_wp2_with (first
        | (go_at_call 15; refine (Wide_any _ _ _ (by omega) (by omega) (by omega) (by omega) _).mono ?_; rintro e w' ⟨rfl, rfl⟩)
        | (go_at_call 14; refine (Narrow_any _ _ _ (by omega) (by omega) (by omega) (by omega) _).mono ?_; rintro e w' ⟨rfl, rfl⟩))
      go_ret
      exact ⟨rfl, Below.refl _ _⟩

set_option maxRecDepth 100000 in
theorem lifted (os : Os) (started : os.Started) (H : Type) (enc : TypeId × Value → H) :
    ReturnsInHanded {} Try.checked os 5 .any (Rows.numHalvesSpec.pre6 enc Try.prog Try.f5 Rows.numHalvesRow.domain false) (Rows.numHalvesSpec.post enc Try.prog Try.f5 false true false false) := by
  refine returnsInHanded_of_change (C := Try.checked) own started (by kernel_rfl) Try.func5
    (ChangeSpec.witness6 (enc := enc) (C := Try.checked) false ⟨#[], #[.int .u64 0, .int .u64 0], []⟩ 8 (by kernel_rfl) (by kernel_rfl) (by kernel_rfl) (by kernel_rfl)) ?_
  intro W base args ds gs before hval0 hW _ _
  have hval : ∀ (j : Nat) t v, Try.f5.params[j]? = some t → args[j]? = some v → Value.okWide Try.prog W .any base t v := hval0
  have hlt : ∀ x ∈ before, x.block < W.heap.size := fun x hx => hW.lt x hx
  have hW' := hW
  obtain ⟨p, q, hA0, hV, rfl, _, _⟩ := hW
  have hA : DataW.TrodAll enc Try.prog W 0 (fun _ => true) true Try.f5.params.toList args.toList ds p := hA0
  rw [Try.params5] at hA hval
  obtain ⟨v0, vs0, d0, ds0, p0, q0, hargs, rfl, rfl, h0, r0⟩ := trodAll_cons hA
  obtain ⟨v1, vs1, d1, ds1, p1, q1, rfl, rfl, rfl, h1, r1⟩ := trodAll_cons r0
  obtain ⟨rfl, rfl, rfl⟩ := trodAll_nil r1
  obtain rfl : args = #[v0, v1] := by cases args; simp_all
  have hg : gs = [] := (trodVars_none hV).1
  subst hg
  suffices hwalk : Calls Try.prog 5 #[v0, v1] W fun e W' => e = .returned (.bool true) ∧ Below W.heap.size W W' by
    refine hwalk.mono fun e W' ⟨he, hb⟩ => ?_
    subst he
    exact law_post (by kernel_rfl) rfl rfl hW' rfl hb
  obtain ⟨a0, rfl, rfl, rfl, w0⟩ := open_int Try.underlying26 (hval 0 26 v0 rfl rfl) h0
  obtain ⟨a1, rfl, rfl, rfl, w1⟩ := open_int Try.underlying26 (hval 1 26 v1 rfl rfl) h1
  have b0 := bounds_u64 w0
  have b1 := bounds_u64 w1
  exact walk a0 a1 (by omega) (by omega) (by omega) (by omega) W

theorem over : Rows.numHalvesRow.holds Try.pinned (OpenSpec.ofChange Rows.numHalvesSpec) :=
  OpenClaim.holds_of_wide 5 Try.f5 rfl rfl rfl rfl rfl rfl rfl ⟨rfl, rfl, rfl, rfl, rfl⟩ rfl rfl rfl rfl rfl (by kernel_rfl) Try.func5 (by kernel_rfl)
    (of_decide_eq_true (by kernel_rfl)) (by unfold Func.isWrapper; first | (rw [if_pos (by decide +kernel)]; kernel_rfl) | (rw [if_neg (by decide +kernel)]; exact ⟨rfl, rfl⟩))
    (fun os started H enc _ => lifted os started H enc)

/-- the statement -/
theorem proved : Rows.NumHalvesSaid := over
#print axioms proved
end Go.Proofs.Ytodmkjeankbieaa.numHalves
