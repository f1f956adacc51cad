/- Place, OpenTg, Num, Run, Go: texts of this claim, packed into one file. -/
import Derived.Test.YtodmkjeankbieabKBuildSamek2
import Derived.Test.YtodmkjeankbieabKBuildSamek0
import Derived.Test.YtodmkjeankbieabProg
import Derived.WalkKit
import Derived.ProofKit
import Derived.WalkSpells
import Derived.WalkLawsBesides
import Derived.Lib.Hide
import Derived.Outline
import Derived.Deep.Cut
/- The walks of package place: Target, is, move, moves. -/
namespace Go.Proofs.Ytodmkjeankbieab
open Go.RowKit Go.Sort

def tgV (sg : Int) : Value := .agg #[.int .i64 sg]
/-- a move as a value -/
def Mv.value (m : Mv) : Value := .agg #[.int .i64 m.to.k, .int .i64 m.to.n, .int .i64 m.fr.k, .int .i64 m.fr.n, .bool m.c, .int .u32 m.n]

set_option maxHeartbeats 400000 in
theorem Target_any (sg : Int) (w : World) : Calls Try.prog 75 #[tgV sg] w fun e w' => e = .returned (.bool (tgB sg)) ∧ Fr w w' := by
  have HF := Lib.hid (show Fr w (w.alloc (.cells #[.int .i64 sg] 47)) from (Kept.refl _ w).alloc _)
  unfold tgV
  go_enter Try.func75, Try.ntmps75
  go_wp2
  all_goals go_ret
  all_goals refine ⟨ret_b ?_, HF.out⟩
  all_goals unfold tgB
  all_goals rw [Bool.eq_iff_iff]
  all_goals simp only [Bool.and_eq_true, decide_eq_true_eq, beq_iff_eq, Bool.false_eq_true, false_iff]
  all_goals omega

set_option maxHeartbeats 400000 in
theorem is_any (sg sl : Int) (a : PlaceV) (w : World) (h4 : 4 ≤ sg) (h16 : sg ≤ 16) : Calls Try.prog 112 #[tgV sg, .int .i64 sl, a.val] w fun e w' => e = .returned (.bool (isB sg sl a)) ∧ Fr w w' := by
  obtain ⟨k, n⟩ := a
  have HF := Lib.hid (show Fr w ((w.alloc (.cells #[.int .i64 sg] 47)).alloc (.cells #[.int .i64 k, .int .i64 n] 57)) from ((Kept.refl _ w).alloc _).alloc _)
  have hq : sg.tdiv 2 = sg / 2 := Int.tdiv_eq_ediv_of_nonneg (by omega)
  unfold tgV PlaceV.val
  simp only
  go_enter Try.func112, Try.ntmps112
  go_wp2
  all_goals go_ret
  all_goals refine ⟨ret_b ?_, HF.out⟩
  all_goals unfold isB
  all_goals rw [Bool.eq_iff_iff]
  all_goals simp only [beq_iff_eq, beq_eq_false_iff_ne] at *
  all_goals simp only [Bool.and_eq_true, decide_eq_true_eq, beq_iff_eq, Bool.false_eq_true, false_iff]
  all_goals (split <;> (try split) <;> (try split) <;> omega)

theorem mvB_c {sg sl : Int} {to fr : PlaceV} {n : Nat} : mvB sg sl ⟨to, fr, true, n⟩ = (isB sg sl to && (decide (fr = ⟨0, 0⟩) && decide (to.k = 1))) := rfl
theorem mvB_n {sg sl : Int} {to fr : PlaceV} {n : Nat} : mvB sg sl ⟨to, fr, false, n⟩ = (isB sg sl to && (decide (n = 0) && isB sg sl fr && (decide (to.k = fr.k) != (decide (to.k = 3) || decide (fr.k = 3))))) := rfl

set_option maxHeartbeats 1000000 in
set_option maxRecDepth 100000 in
theorem move_any (sg sl : Int) (m : Mv) (w : World) (h4 : 4 ≤ sg) (h16 : sg ≤ 16) : Calls Try.prog 132 #[tgV sg, .int .i64 sl, m.value] w fun e w' => e = .returned (.bool (mvB sg sl m)) ∧ Fr w w' := by
  obtain ⟨⟨tk, tn⟩, ⟨fk, fn⟩, c, n⟩ := m
  have HF0 := Lib.hid (show Fr w ((w.alloc (.cells #[.int .i64 sg] 47)).alloc (.cells #[.int .i64 tk, .int .i64 tn, .int .i64 fk, .int .i64 fn, .bool c, .int .u32 n] 74)) from ((Kept.refl _ w).alloc _).alloc _)
  have HB0 := Lib.hid ((Blk.new w 47 #[.int .i64 sg]).alloc (.cells #[.int .i64 tk, .int .i64 tn, .int .i64 fk, .int .i64 fn, .bool c, .int .u32 n] 74))
  have HB1 : Hid (Blk ((w.alloc (.cells #[.int .i64 sg] 47)).alloc (.cells #[.int .i64 tk, .int .i64 tn, .int .i64 fk, .int .i64 fn, .bool c, .int .u32 n] 74)) (w.heap.size + 1) 74 #[.int .i64 tk, .int .i64 tn, .int .i64 fk, .int .i64 fn, .bool c, .int .u32 n]) := by
    have := Blk.new (w.alloc (.cells #[.int .i64 sg] 47)) 74 #[.int .i64 tk, .int .i64 tn, .int .i64 fk, .int .i64 fn, .bool c, .int .u32 n]
    show Blk _ _ _ _
    simpa using this
  have HTo := Lib.hid (fun w => is_any sg sl ⟨tk, tn⟩ w h4 h16)
  have HFrm := Lib.hid (fun w => is_any sg sl ⟨fk, fn⟩ w h4 h16)
  unfold tgV PlaceV.val at HTo HFrm
  simp only at HTo HFrm
  unfold tgV Mv.value
  simp only
  go_enter Try.func132, Try.ntmps132
  go_wp2_with fail
  refine (HTo.out _).mono ?_
  rintro e w1 ⟨rfl, f1⟩
  have HF1 := Lib.hid (HF0.out.trans f1)
  have HB2 := Lib.hid (HB0.out.kept f1 (fun h => h))
  have HB3 := Lib.hid (HB1.out.kept f1 (fun h => h))
  have t0 := HB2.out.cell 0
  have m0 := HB3.out.cell 0
  have m2 := HB3.out.cell 2
  have m3 := HB3.out.cell 3
  have m4 := HB3.out.cell 4
  have m5 := HB3.out.cell 5
  have z0 := HB2.out.lt
  have z1 := HB3.out.lt
  simp only [List.getElem?_toArray, List.getElem?_cons_succ, List.getElem?_cons_zero] at t0 m0 m2 m3 m4 m5
  clear f1 HF0 HB0 HB1 HTo
  cases ht : isB sg sl ⟨tk, tn⟩ with
  | false =>
    have HV : Hid (mvB sg sl ⟨⟨tk, tn⟩, ⟨fk, fn⟩, c, n⟩ = false) := by
      show _ = _; unfold mvB; simp only; rw [ht]; rfl
    clear ht
    go_wp2
    go_ret
    exact ⟨ret_b HV.out.symm, HF1.out⟩
  | true =>
    cases c with
    | true =>
      have HV : Hid (mvB sg sl ⟨⟨tk, tn⟩, ⟨fk, fn⟩, true, n⟩ = (decide ((⟨fk, fn⟩ : PlaceV) = ⟨0, 0⟩) && decide (tk = 1))) := by
        show _ = _; rw [mvB_c, ht]; rfl
      clear ht
      go_wp2
      all_goals go_ret
      all_goals refine ⟨ret_b ?_, HF1.out⟩
      all_goals rw [HV.out, Bool.eq_iff_iff]
      all_goals simp only [Bool.and_eq_true, decide_eq_true_eq, beq_iff_eq, Bool.false_eq_true, false_iff, PlaceV.mk.injEq]
      all_goals omega
    | false =>
      have HV : Hid (mvB sg sl ⟨⟨tk, tn⟩, ⟨fk, fn⟩, false, n⟩ = (decide (n = 0) && isB sg sl ⟨fk, fn⟩ && (decide (tk = fk) != (decide (tk = 3) || decide (fk = 3))))) := by
        show _ = _; rw [mvB_n, ht]; rfl
      clear ht
      by_cases hn0 : n = 0
      · subst hn0
        go_wp2
        go_quiet (fail)
        go_wp2_with fail
        refine (HFrm.out _).mono ?_
        rintro e w2 ⟨rfl, f2⟩
        have HF2 := Lib.hid ((HF1.out.drewN nq).trans f2)
        clear f2
        cases hi : isB sg sl ⟨fk, fn⟩ with
        | false =>
          rw [hi] at HV
          clear hi
          go_wp2
          go_ret
          refine ⟨ret_b ?_, HF2.out⟩
          rw [HV.out]
          rfl
        | true =>
          rw [hi] at HV
          have HV2 : Hid (mvB sg sl ⟨⟨tk, tn⟩, ⟨fk, fn⟩, false, 0⟩ = ((tk == fk) != (decide (tk = 3) || decide (fk = 3)))) := by
            show _ = _
            rw [HV.out, show decide (tk = fk) = (tk == fk) from by rw [Bool.eq_iff_iff]; simp]
            rfl
          clear hi HV
          go_wp2
          all_goals go_ret
          all_goals refine ⟨ret_b ?_, HF2.out⟩
          all_goals rw [HV2.out]
          · rename_i h3
            subst h3
            simp [bne]
          · rename_i h3
            have e3 : decide (tk = 3) = (tk == 3) := by rw [Bool.eq_iff_iff]; simp
            have e4 : decide (fk = 3) = (fk == 3) := by rw [Bool.eq_iff_iff]; simp
            rw [e3, e4]
            rfl
      · have hn1 : ((n : Int) == 0) = false := by simpa using hn0
        go_wp2
        go_quiet (fail)
        go_wp2_with fail
        go_ret
        refine ⟨ret_b ?_, HF1.out.drewN nq⟩
        rw [HV.out, decide_eq_false hn0]
        rfl
end Go.Proofs.Ytodmkjeankbieab

/- A target that came in. -/
namespace Go.Proofs.Ytodmkjeankbieab
open Go.ChangeShapes Go.WideShapes Go.ChangeAt Go.RowKit Go.Joins

section
variable {H : Type} {enc : TypeId × Value → H} {w : World} {base : Nat} {spare : Nat → Bool} {held : Bool}
set_option maxRecDepth 100000 in
theorem open_tg {r : Reach} {b0 : Nat} {v : Value} {d : DataW H} {ps : List MemPlace} (hv : Value.okWide Try.prog w r b0 47 v) (h : DataW.Trod enc Try.prog w base spare held 47 v d ps) : ∃ sg : Int, v = tgV sg := by
  obtain ⟨cs, rfl, hsz⟩ := okWide_struct Try.underlying47 hv
  obtain ⟨c0, rfl⟩ : ∃ c0, cs = #[c0] := by
    obtain ⟨l⟩ := cs
    have hC : Try.prog.cellsOf 47 = 1 := by kernel_rfl
    match l, hsz.trans hC with
    | [c0], _ => exact ⟨c0, rfl⟩
  obtain ⟨fuel, hf⟩ := h
  obtain ⟨xs, n, _, _, hlen, hxl, hfl⟩ := DataW.trod_struct Try.underlying47 hf
  have h0 := field_at hfl 0 rfl 3 rfl 0 rfl cInt (one := [c0]) rfl
  obtain ⟨y0, hy0⟩ : ∃ y, xs[0]? = some y := ⟨_, List.getElem?_eq_getElem (by rw [hxl]; decide)⟩
  rw [hy0] at h0
  obtain ⟨n, e0, _, w0⟩ := DataW.trod_int Try.underlying3 h0
  simp only [List.cons.injEq, and_true] at e0
  subst e0
  exact ⟨n, rfl⟩
end
end Go.Proofs.Ytodmkjeankbieab

/- The walks of chapter 1: what num.Narrow, num.Wide and the reference's two compute, each for all operations and numbers. -/
namespace Go.Proofs.Ytodmkjeankbieab
open Go.RowKit

theorem ret_int {k : IntKind} {a b : Int} (h : a = b) : Ending.returned (.int k a) = .returned (.int k b) := by rw [h]

theorem do64 (op a b : Int) (h0 : 0 ≤ a) (h1 : a ≤ 18446744073709551615) (g0 : 0 ≤ b) (g1 : b ≤ 18446744073709551615) (w : World) :
    Calls Try.prog 106 #[.int .i64 op, .int .u64 a, .int .u64 b] w fun e w' => e = .returned (.int .u64 (wideOp op a b)) ∧ w = w' := by
  go_enter Try.func106, Try.ntmps106
  go_wp2
  all_goals go_ret
  all_goals refine ⟨ret_int ?_, rfl⟩
  all_goals unfold wideOp
  · rw [opM_1 ‹_›, IntKind.wrap_u64]
  · rw [opM_2 ‹_›, IntKind.wrap_u64]
  · rw [opM_3 ‹_›, IntKind.wrap_u64]
  · rw [opM_4 ‹_›, (bits_u64 a b h0 h1 g0 g1).1]
  · rw [opM_5 ‹_›, (bits_u64 a b h0 h1 g0 g1).2]
  · rw [opM_6 ‹_›, if_pos ‹_›]
  · rw [opM_6 ‹_›, if_neg (by omega)]
  · rw [opM_0 ‹_› ‹_› ‹_› ‹_› ‹_› ‹_›]

theorem do32 (op a b : Int) (h0 : 0 ≤ a) (h1 : a ≤ 4294967295) (g0 : 0 ≤ b) (g1 : b ≤ 4294967295) (w : World) :
    Calls Try.prog 107 #[.int .i64 op, .int .u32 a, .int .u32 b] w fun e w' => e = .returned (.int .u32 (narrowOp op a b)) ∧ w = w' := by
  go_enter Try.func107, Try.ntmps107
  go_wp2
  all_goals go_ret
  all_goals refine ⟨ret_int ?_, rfl⟩
  all_goals unfold narrowOp
  · rw [opM_1 ‹_›]
  · rw [opM_2 ‹_›]
  · rw [opM_3 ‹_›]
  · rw [opM_4 ‹_›, (bits_u32 a b h0 h1 g0 g1).1]
  · rw [opM_5 ‹_›, (bits_u32 a b h0 h1 g0 g1).2]
  · rw [opM_6 ‹_›, if_pos ‹_›]
  · rw [opM_6 ‹_›, if_neg (by omega)]
  · rw [opM_0 ‹_› ‹_› ‹_› ‹_› ‹_› ‹_›]

theorem Wide_any (op a b : Int) (h0 : 0 ≤ a) (h1 : a ≤ 18446744073709551615) (g0 : 0 ≤ b) (g1 : b ≤ 18446744073709551615) (w : World) :
    Calls Try.prog 79 #[.int .i64 op, .int .u64 a, .int .u64 b] w fun e w' => e = .returned (.int .u64 (wideOp op a b)) ∧ w = w' := by
  go_enter Try.func79, Try.ntmps79
  go_wp2_with (go_at_call 106; refine (do64 _ _ _ h0 h1 g0 g1 _).mono ?_; rintro e w' ⟨rfl, rfl⟩)
  go_ret
  exact ⟨rfl, rfl⟩

theorem Narrow_any (op a b : Int) (h0 : 0 ≤ a) (h1 : a ≤ 4294967295) (g0 : 0 ≤ b) (g1 : b ≤ 4294967295) (w : World) :
    Calls Try.prog 80 #[.int .i64 op, .int .u32 a, .int .u32 b] w fun e w' => e = .returned (.int .u32 (narrowOp op a b)) ∧ w = w' := by
  go_enter Try.func80, Try.ntmps80
  go_wp2_with (go_at_call 107; refine (do32 _ _ _ h0 h1 g0 g1 _).mono ?_; rintro e w' ⟨rfl, rfl⟩)
  go_ret
  exact ⟨rfl, rfl⟩

/-- the loop's relation: what n, power, a, b hold behind k rounds -/
def BitsAt (an : Bool) (a b : Nat) (k n p x y : Nat) : Prop :=
  n = bwk an a b k ∧ p = pw k ∧ x = a / 2 ^ k ∧ y = b / 2 ^ k

theorem bitsAt_0 (an : Bool) (a b : Nat) : BitsAt an a b 0 0 1 a b := by
  refine ⟨by simp [bwk]; omega, by decide, by simp, by simp⟩

theorem bitsAt_bounds {an : Bool} {a b k n p x y : Nat} (h : BitsAt an a b k n p x y) (hk : k < 64) :
    n < p ∧ p ≤ 9223372036854775808 ∧ x ≤ a ∧ y ≤ b := by
  obtain ⟨rfl, rfl, rfl, rfl⟩ := h
  have h1 := pw_lt k hk
  have h2 := bwk_lt an a b k
  have h3 := Nat.div_le_self a (2 ^ k)
  have h4 := Nat.div_le_self b (2 ^ k)
  omega

theorem bitsAt_succ {an : Bool} {a b k n p x y : Nat} (h : BitsAt an a b k n p x y) (hk : k < 64) :
    BitsAt an a b (k + 1) (if bw1 an (x % 2) (y % 2) then n + p else n) ((p + p) % 18446744073709551616) (x / 2) (y / 2) := by
  obtain ⟨rfl, rfl, rfl, rfl⟩ := h
  refine ⟨?_, pw_succ k, half_step a k, half_step b k⟩
  rw [bwk_succ, (pw_lt k hk).1]
  cases bw1 an (a / 2 ^ k % 2) (b / 2 ^ k % 2) <;> simp

theorem bw1_xt {x y : Nat} (h : ((x : Int) % 2 != (y : Int) % 2) = true) : bw1 false (x % 2) (y % 2) = true := by simp [bw1] at *; omega
theorem bw1_xf {x y : Nat} (h : ((x : Int) % 2 != (y : Int) % 2) = false) : bw1 false (x % 2) (y % 2) = false := by simp [bw1] at *; omega
theorem bw1_at {x y : Nat} (h : (x : Int) % 2 + (y : Int) % 2 = 2) : bw1 true (x % 2) (y % 2) = true := by simp [bw1]; omega
theorem bw1_af {x y : Nat} (h : ¬ (x : Int) % 2 + (y : Int) % 2 = 2) : bw1 true (x % 2) (y % 2) = false := by simp [bw1]; omega

theorem bits_rel {an : Bool} {a0 b0 k n p x y : Nat} (hk : k < 64) (hs : BitsAt an a0 b0 (k + 1) (if bw1 an (x % 2) (y % 2) then n + p else n) ((p + p) % 18446744073709551616) (x / 2) (y / 2)) :
    (bw1 an (x % 2) (y % 2) = true → ∃ k1 n1 p1 x1 y1 : Nat, k1 ≤ 64 ∧ BitsAt an a0 b0 k1 n1 p1 x1 y1 ∧ Value.int IntKind.u64 (↑x / 2) = Value.int IntKind.u64 ↑x1 ∧ Value.int IntKind.u64 (↑y / 2) = Value.int IntKind.u64 ↑y1 ∧
      Value.int IntKind.u64 (↑n + ↑p) = Value.int IntKind.u64 ↑n1 ∧ Value.int IntKind.u64 ((↑p + ↑p) % 18446744073709551616) = Value.int IntKind.u64 ↑p1 ∧ Value.int IntKind.i64 (↑k + 1) = Value.int IntKind.i64 ↑k1) ∧
    (bw1 an (x % 2) (y % 2) = false → ∃ k1 n1 p1 x1 y1 : Nat, k1 ≤ 64 ∧ BitsAt an a0 b0 k1 n1 p1 x1 y1 ∧ Value.int IntKind.u64 (↑x / 2) = Value.int IntKind.u64 ↑x1 ∧ Value.int IntKind.u64 (↑y / 2) = Value.int IntKind.u64 ↑y1 ∧
      Value.int IntKind.u64 (↑n) = Value.int IntKind.u64 ↑n1 ∧ Value.int IntKind.u64 ((↑p + ↑p) % 18446744073709551616) = Value.int IntKind.u64 ↑p1 ∧ Value.int IntKind.i64 (↑k + 1) = Value.int IntKind.i64 ↑k1) := by
  refine ⟨fun h => ?_, fun h => ?_⟩
  · rw [h] at hs; exact ⟨k + 1, n + p, _, _, _, by omega, hs, by simp, by simp, by simp, by simp, by simp⟩
  · rw [h] at hs; exact ⟨k + 1, n, _, _, _, by omega, hs, by simp, by simp, by simp, by simp, by simp⟩

theorem bits_any (an : Bool) (a b : Int) (h0 : 0 ≤ a) (h1 : a ≤ 18446744073709551615) (g0 : 0 ≤ b) (g1 : b ≤ 18446744073709551615) (w : World) :
    Calls Try.prog 108 #[.bool an, .int .u64 a, .int .u64 b] w fun e w' => e = .returned (.int .u64 ((bw an a.toNat b.toNat : Nat) : Int)) ∧ w = w' := by
  obtain ⟨a0, rfl⟩ := Int.eq_ofNat_of_zero_le h0
  obtain ⟨b0, rfl⟩ := Int.eq_ofNat_of_zero_le g0
  have fin : Hid (bwk an a0 b0 64 = bw an a0 b0) := bwk_64 an a0 b0 (by omega) (by omega)
  go_enter Try.func108, Try.ntmps108
  go_wp2
  go_loop [1, 2, 7, 8, 9] (fun sa sb sn sp si => ∃ k n p x y : Nat, k ≤ 64 ∧ BitsAt an a0 b0 k n p x y ∧ sa = .int .u64 x ∧ sb = .int .u64 y ∧ sn = .int .u64 n ∧ sp = .int .u64 p ∧ si = .int .i64 k)
    (fun _ _ _ _ i => 64 - (intOf i).toNat)
  case atStart => exact ⟨0, 0, 1, a0, b0, by omega, bitsAt_0 an a0 b0, rfl, rfl, rfl, rfl, rfl⟩
  case round =>
    obtain ⟨k, n, p, x, y, hk, HB, rfl, rfl, rfl, rfl, rfl⟩ := hrel
    by_cases hlt : k < 64
    · have bd := bitsAt_bounds HB hlt
      have hs := Lib.hid (bitsAt_succ HB hlt)
      obtain ⟨bd1, bd2, bd3, bd4⟩ := bd
      have hp2 : IntKind.u64.wrap ((p : Int) + p) = (((p + p) % 18446744073709551616 : Nat) : Int) := by rw [IntKind.wrap_u64]; omega
      clear HB fin
      cases an
      · go_wp2
        · go_round
          case rel => exact (bits_rel hlt hs.out).1 (bw1_xt ‹_›)
          case measure => simp [intOf]; omega
        · go_round
          case rel => exact (bits_rel hlt hs.out).2 (bw1_xf ‹_›)
          case measure => simp [intOf]; omega
      · go_wp2
        · go_round
          case rel => exact (bits_rel hlt hs.out).1 (bw1_at ‹_›)
          case measure => simp [intOf]; omega
        · go_round
          case rel => exact (bits_rel hlt hs.out).2 (bw1_af ‹_›)
          case measure => simp [intOf]; omega
    · obtain rfl : k = 64 := by omega
      have e : Hid (n = bw an a0 b0) := HB.1.trans fin.out
      clear HB fin
      go_wp2
      go_ret
      exact ⟨ret_int (by rw [e.out]), rfl⟩

theorem refWide_any (op a b : Int) (h0 : 0 ≤ a) (h1 : a ≤ 18446744073709551615) (g0 : 0 ≤ b) (g1 : b ≤ 18446744073709551615) (w : World) :
    Calls Try.prog 82 #[.int .i64 op, .int .u64 a, .int .u64 b] w fun e w' => e = .returned (.int .u64 (wideOp op a b)) ∧ w = w' := by
  go_enter Try.func82, Try.ntmps82
  go_wp2_with (go_at_call 108; refine (bits_any _ _ _ h0 h1 g0 g1 _).mono ?_; rintro e w' ⟨rfl, rfl⟩)
  all_goals go_ret
  all_goals refine ⟨ret_int ?_, rfl⟩
  all_goals unfold wideOp
  · rw [opM_1 ‹_›, IntKind.wrap_u64]
  · rw [opM_2 ‹_›, IntKind.wrap_u64]
  · rw [opM_3 ‹_›, IntKind.wrap_u64]
  · rw [opM_4 ‹_›]
  · rw [opM_5 ‹_›]
  · rw [opM_6 ‹_›, if_pos ‹_›]
  · rw [opM_6 ‹_›, if_neg (by omega)]
  · rw [opM_0 ‹_› ‹_› ‹_› ‹_› ‹_› ‹_›]

theorem refNarrow_any (op a b : Int) (h0 : 0 ≤ a) (h1 : a ≤ 4294967295) (g0 : 0 ≤ b) (g1 : b ≤ 4294967295) (w : World) :
    Calls Try.prog 83 #[.int .i64 op, .int .u32 a, .int .u32 b] w fun e w' => e = .returned (.int .u32 (narrowOp op a b)) ∧ w = w' := by
  have hn := narrow_of_wide op a b (by omega) (by omega)
  have hr := wideOp_range op a b (by omega) (by omega)
  have HN := Lib.hid hn; clear hn
  go_enter Try.func83, Try.ntmps83
  go_wp2_with (go_at_call 82; refine (refWide_any _ _ _ (by omega) (by omega) (by omega) (by omega) _).mono ?_; rintro e w' ⟨rfl, rfl⟩)
  all_goals go_ret
  all_goals refine ⟨ret_int ?_, rfl⟩
  exact HN.out

end Go.Proofs.Ytodmkjeankbieab

/- The walks of package run: Wrong, Machine.Do, Machine.Go. -/
namespace Go.Proofs.Ytodmkjeankbieab
open Go.RowKit Go.Sort

/-- what is wrong with a run -/
def wrongV (p : Pg) (n : Nat) (steps : Int) : Int := if mayB p = false then 2 else if 40 < n then 1 else if steps < 0 ∨ 3000 < steps then 3 else 0

set_option maxHeartbeats 1000000 in
set_option maxRecDepth 100000 in
theorem Wrong_any (R : Nat → Prop) (v : Value) (p : Pg) (A : Option Addr) (n c : Nat) (steps : Int) (w : World) (h : RdPg w R v p) (hn : n ≤ 9223372036854775807) :
    Calls Try.prog 39 #[v, .slice A n c, .int .i64 steps] w fun e w' => e = .returned (.int .i64 (wrongV p n steps)) ∧ Fr w w' := by
  have H := Lib.hid h
  obtain ⟨vw, vc, rfl, ⟨A1, c1, rfl, hl, hr⟩, ⟨A', c', rfl, hl', hr', ho'⟩⟩ := h
  clear hr hr' ho' hl hl'
  have HM := Lib.hid (fun w2 (hf : Fr w w2) => May_any R _ p w2 (H.out.kept hf (fun _ _ h => h)))
  have HF0 := Lib.hid (show Fr w (w.alloc (.cells #[.slice A1 p.wide.length c1, .slice A' p.code.length c'] 25)) from (Kept.refl _ w).alloc _)
  go_enter Try.func39, Try.ntmps39
  go_wp2_with fail
  cases hm : mayB p with
  | false =>
    rw [hm] at HM
    have HW : Hid (wrongV p n steps = 2) := by show _ = _; unfold wrongV; rw [if_pos hm]
    clear hm
    refine (HM.out _ HF0.out).mono ?_
    rintro e w2 ⟨rfl, f2⟩
    have HF := Lib.hid (HF0.out.trans f2)
    clear f2
    go_wp2
    go_ret
    exact ⟨ret_i HW.out.symm, HF.out⟩
  | true =>
    rw [hm] at HM
    have HW : Hid (wrongV p n steps = if 40 < n then 1 else if steps < 0 ∨ 3000 < steps then 3 else 0) := by show _ = _; unfold wrongV; rw [if_neg (by rw [hm]; decide)]
    clear hm
    refine (HM.out _ HF0.out).mono ?_
    rintro e w2 ⟨rfl, f2⟩
    have HF := Lib.hid (HF0.out.trans f2)
    clear f2
    go_wp2
    all_goals go_ret
    all_goals refine ⟨ret_i ?_, HF.out⟩
    all_goals rw [HW.out]
    all_goals first
      | (rw [if_pos (by omega)]; done)
      | (rw [if_neg (by omega), if_pos (by omega)]; done)
      | (rw [if_neg (by omega), if_neg (by omega)]; done)

def u32s (l : List Int) : List Value := l.map (Value.int .u32)
/-- block g is a machine that stands at r; what it has told is the row vo, in a block from B on, what comes in in blocks below -/
structure Mc (w : World) (g B : Nat) (r : Sh) (vo : Value) : Prop where
  ow : w.ownsRow B 36 1 vo r.out.length (u32s r.out)
  ex : ∃ A c, Blk w g 85 #[.int .i64 (r.state : Int), vo, .int .i64 (r.steps : Int), .int .i64 (r.pc : Int), .slice A r.ins.length c] ∧
    r.ins.length ≤ c ∧ c ≤ maxLen ∧ Reads w (fun b => b < B) 1 A r.ins.length (u32s r.ins)
def McS (g : Nat) (vo : Value) (k : Nat) : Prop := k = g ∨ vo.ownBlock = some k
theorem Mc.blk {w w' : World} {g B b : Nat} {r : Sh} {vo : Value} {t : TypeId} {cs : Array Value} (h : Mc w g B r vo) (hk : Kept (McS g vo) w w') (hb : Blk w b t cs) (h1 : t ≠ 85) (h2 : 36 ≠ t) : Blk w' b t cs := by
  obtain ⟨A, c, hB, _⟩ := h.ex
  refine hb.kept hk ?_
  rintro (e | e)
  · exact hb.ne_ hB h1 e
  · exact own_blk_ne h.ow hb h2 e
theorem Mc.fr {w0 w w' : World} {g : Nat} {r : Sh} {vo : Value} (h : Mc w g w0.heap.size r vo) (hk : Kept (McS g vo) w w') (hg : w0.heap.size ≤ g) (hf : Fr w0 w) : Fr w0 w' :=
  hf.then hk fun i hi hs => by
    rcases hs with e | e
    · omega
    · have := (own_lt h.ow e).1; omega

theorem slU32 : SlTy Try.prog 26 36 1 4 := SlTy.mk' (z := .int .u32 0) Try.underlying26 (by kernel_rfl) rfl (by decide)

/-- where a slice goes on behind its first element -/
def cutA (b off c : Nat) : Option Addr := some (if c = 1 then ⟨b, off, none⟩ else ⟨b, off + 1, none⟩)
theorem cut_reads {w : World} {R : Nat → Prop} {b off n c : Nat} {x : Value} {xs : List Value} (h : Reads w R 1 (some ⟨b, off, none⟩) (n + 1) (x :: xs)) (hc : n + 1 ≤ c) : Reads w R 1 (cutA b off c) n xs := by
  refine ⟨by have := h.1; simp at this; omega, fun hn => ?_⟩
  obtain ⟨b', off', hA, hR, hcell⟩ := h.2 (by omega)
  simp only [Option.some.injEq, Addr.mk.injEq, and_true] at hA
  obtain ⟨rfl, rfl⟩ := hA
  refine ⟨b, off + 1, by simp [cutA]; omega, hR, fun j u hu => ?_⟩
  have := hcell (j + 1) u (by simpa using hu)
  rw [Nat.add_assoc, Nat.add_comm 1 j]
  exact this

/-- the machine behind the two counts -/
structure McW (w W : World) (g B : Nat) (r : Sh) (vo : Value) (A : Option Addr) (c : Nat) (op d a1 b1 cc : Int) (n : Nat) : Prop where
  blk : Blk W g 85 #[.int .i64 (r.state : Int), vo, .int .i64 ((r.steps + 1 : Nat) : Int), .int .i64 ((r.pc + 1 : Nat) : Int), .slice A r.ins.length c]
  ow : W.ownsRow B 36 1 vo r.out.length (u32s r.out)
  rd : Reads W (fun b => b < B) 1 A r.ins.length (u32s r.ins)
  ib : Blk W w.heap.size 45 #[.int .i64 op, .int .i64 d, .int .i64 a1, .int .i64 b1, .int .i64 cc, .int .u32 n]
  kp : Kept (McS g vo) w W

theorem McW.st {w W : World} {g B c : Nat} {r : Sh} {vo : Value} {A : Option Addr} {op d a1 b1 cc : Int} {n : Nat} (h : McW w W g B r vo A c op d a1 b1 cc n) (hg : B ≤ g) (j : Nat) (u : Value) :
    Blk (W.setCell ⟨g, j, none⟩ u) g 85 (#[Value.int .i64 (r.state : Int), vo, .int .i64 ((r.steps + 1 : Nat) : Int), .int .i64 ((r.pc + 1 : Nat) : Int), .slice A r.ins.length c].setIfInBounds j u) ∧
    (W.setCell ⟨g, j, none⟩ u).ownsRow B 36 1 vo r.out.length (u32s r.out) ∧ Reads (W.setCell ⟨g, j, none⟩ u) (fun b => b < B) 1 A r.ins.length (u32s r.ins) ∧ Kept (McS g vo) w (W.setCell ⟨g, j, none⟩ u) := by
  have hK : Kept (fun k => k = g) W (W.setCell ⟨g, j, none⟩ u) := (Kept.refl (fun k => k = g) W).setCell (p := ⟨g, j, none⟩) (fun _ => rfl) _
  exact ⟨h.blk.set_ j u, own_kept h.ow hK (fun k hk e => own_blk_ne h.ow h.blk (by decide) (e ▸ hk)), h.rd.kept hK (fun k hk e => by omega), h.kp.trans (hK.mono (fun i _ e => Or.inl e))⟩
theorem or_u64 (a b : Int) (ha : 0 ≤ a) (ha' : a < 4294967296) (hb : 0 ≤ b) (hb' : b < 4294967296) : bits .or .u64 (b * 4294967296) a = b * 4294967296 + a := by
  have := bits_join .u64 64 (by decide) (fun n h h' => by rw [IntKind.wrap_u64]; exact Int.emod_eq_of_lt h (by simpa using h')) 32 (x := b * 4294967296) (y := a)
  have h2 : (2 : Int) ^ 32 = 4294967296 := by decide
  have h3 : (2 : Int) ^ 64 = 18446744073709551616 := by decide
  rw [h2, h3] at this
  exact this (by omega) (by omega) (by omega) (by omega) (by omega) (by omega)
theorem and_u64 (a : Int) (ha : 0 ≤ a) (ha' : a < 18446744073709551616) : bits .and .u64 a 4294967295 = a % 4294967296 := by
  rw [(bits_u64 a 4294967295 ha (by omega) (by omega) (by omega)).1]
  have e : (4294967295 : Int).toNat = 2 ^ 32 - 1 := by decide
  unfold bw
  rw [if_pos rfl, e, Nat.and_two_pow_sub_one_eq_mod]
  have e2 : (2 : Nat) ^ 32 = 4294967296 := by decide
  rw [e2]
  omega
theorem raw_plain {r : Sh} {op d a1 b1 cc a : Int} {n : Nat} (h3 : op ≠ 3) (h4 : op ≠ 4) (h8 : op ≠ 8) (h9 : op ≠ 9) (h10 : op ≠ 10) : rawStep r ⟨op, d, a1, b1, cc, n⟩ a = ⟨r.pc + 1, r.ins, r.out, r.steps + 1, r.state⟩ := by
  unfold rawStep pcV
  simp only
  rw [if_neg (by omega), if_neg h3, if_neg h4, if_neg h10]
theorem McW.plain {w W : World} {g B c : Nat} {r : Sh} {vo : Value} {A : Option Addr} {op d a1 b1 cc a : Int} {n : Nat} (h : McW w W g B r vo A c op d a1 b1 cc n) (hl : r.ins.length ≤ c) (hcm : c ≤ maxLen)
    (h3 : op ≠ 3) (h4 : op ≠ 4) (h8 : op ≠ 8) (h9 : op ≠ 9) (h10 : op ≠ 10) : Mc W g B (rawStep r ⟨op, d, a1, b1, cc, n⟩ a) vo := by
  rw [raw_plain h3 h4 h8 h9 h10]
  exact ⟨h.ow, A, c, h.blk, hl, hcm, h.rd⟩

set_option maxHeartbeats 4000000 in
set_option maxRecDepth 100000 in
theorem Do_any (g B : Nat) (r : Sh) (vo : Value) (i : In) (a b : Int) (w : World) (h : Mc w g B r vo) (hg : B ≤ g) (hk : known i.op = true) (hin : i.n < 4294967296) (ha : 0 ≤ a ∧ a < 18446744073709551616) (hb : 0 ≤ b ∧ b < 18446744073709551616)
    (h5 : i.op = 5 → a < 4294967296 ∧ b < 4294967296) (hs : r.steps ≤ 100000) (ho : r.out.length ≤ 100000) (hp : r.pc ≤ 100000) (hc : i.op = 8 ∨ i.op = 9 → 0 ≤ i.c) (hi : ∀ n ∈ r.ins, 0 ≤ n ∧ n < 4294967296) :
    Calls Try.prog 42 #[.pointer (some ⟨g, 0, none⟩), i.val, .int .u64 a, .int .u64 b] w fun e w' => ∃ v, e = .returned (.int .u64 v) ∧ (gvs i.op = true → v = giveV i a b (r.ins.headD 0)) ∧ (∃ vo', Mc w' g B (rawStep r i a) vo') ∧ Kept (McS g vo) w w' := by
  obtain ⟨hO0, A, c, hB0, hl, hcm, hr0⟩ := h
  have q0 := hB0.cell 0
  have q1 := hB0.cell 1
  have q2 := hB0.cell 2
  have q3 := hB0.cell 3
  have q4 := hB0.cell 4
  have y2 := hB0.frozen 2
  have y3 := hB0.frozen 3
  simp only [List.getElem?_toArray, List.getElem?_cons_succ, List.getElem?_cons_zero] at q0 q1 q2 q3 q4
  have z0 := hB0.lt
  obtain ⟨op, d, a1, b1, cc, n⟩ := i
  obtain ⟨pc, ins, out, steps, state⟩ := r
  unfold In.val
  simp only at *
  have hK1 : Kept (fun k => k = g) w (((w.setCell ⟨g, 3, none⟩ (.int .i64 ((pc : Int) + 1))).setCell ⟨g, 2, none⟩ (.int .i64 ((steps : Int) + 1))).alloc (.cells #[.int .i64 op, .int .i64 d, .int .i64 a1, .int .i64 b1, .int .i64 cc, .int .u32 n] 45)) :=
    (((Kept.refl (fun k => k = g) w).setCell (p := ⟨g, 3, none⟩) (fun _ => rfl) _).setCell (p := ⟨g, 2, none⟩) (fun _ => rfl) _).alloc _
  have HW := Lib.hid (show McW w (((w.setCell ⟨g, 3, none⟩ (.int .i64 ((pc : Int) + 1))).setCell ⟨g, 2, none⟩ (.int .i64 ((steps : Int) + 1))).alloc (.cells #[.int .i64 op, .int .i64 d, .int .i64 a1, .int .i64 b1, .int .i64 cc, .int .u32 n] 45)) g B ⟨pc, ins, out, steps, state⟩ vo A c op d a1 b1 cc n from by
    refine ⟨?_, ?_, ?_, ?_, hK1.mono (fun i _ e => Or.inl e)⟩
    · exact (((hB0.set_ 3 (.int .i64 ((pc : Int) + 1))).set_ 2 (.int .i64 ((steps : Int) + 1))).alloc _)
    · exact own_kept hO0 hK1 (fun k hk e => own_blk_ne hO0 hB0 (by decide) (e ▸ hk))
    · exact hr0.kept hK1 (fun k hk e => by omega)
    · have := Blk.new ((w.setCell ⟨g, 3, none⟩ (.int .i64 ((pc : Int) + 1))).setCell ⟨g, 2, none⟩ (.int .i64 ((steps : Int) + 1))) 45 #[.int .i64 op, .int .i64 d, .int .i64 a1, .int .i64 b1, .int .i64 cc, .int .u32 n]
      simpa [World.setCell] using this)
  clear hB0 hO0 hr0 hK1
  have HI := Lib.hid hi
  have HK := Lib.hid hk
  have H5 := Lib.hid h5
  have HC := Lib.hid hc
  clear hi hk h5 hc
  obtain ⟨a0, a1'⟩ := ha
  obtain ⟨b0, b1'⟩ := hb
  go_enter Try.func42, Try.ntmps42
  go_upto_region 3 with (fail)
  clear q0 q1 q2 q3 q4 y2 y3
  generalize ((w.setCell ⟨g, 3, none⟩ (.int .i64 ((pc : Int) + 1))).setCell ⟨g, 2, none⟩ (.int .i64 ((steps : Int) + 1))).alloc (.cells #[.int .i64 op, .int .i64 d, .int .i64 a1, .int .i64 b1, .int .i64 cc, .int .u32 n] 45) = W at *
  have e0 := HW.out.ib.cell 0
  have e4 := HW.out.ib.cell 4
  have e5 := HW.out.ib.cell 5
  have q0 := HW.out.blk.cell 0
  have q1 := HW.out.blk.cell 1
  have q3 := HW.out.blk.cell 3
  have q4 := HW.out.blk.cell 4
  have y0 := HW.out.blk.frozen 0
  have y1 := HW.out.blk.frozen 1
  have y3 := HW.out.blk.frozen 3
  have y4 := HW.out.blk.frozen 4
  simp only [List.getElem?_toArray, List.getElem?_cons_succ, List.getElem?_cons_zero] at e0 e4 e5 q0 q1 q3 q4
  have z1 := HW.out.blk.lt
  have z2 := HW.out.ib.lt
  rcases known_cases HK.out with h | h | h | h | h | h | h | h | h | h | ⟨h1, h2⟩ | ⟨h1, h2⟩
  · subst h
    go_wp2
    go_ret
    refine ⟨_, rfl, fun _ => ?_, ⟨vo, HW.out.plain hl hcm (by decide) (by decide) (by decide) (by decide) (by decide)⟩, HW.out.kp⟩
    rfl
  · subst h
    go_wp2
    go_ret
    refine ⟨_, rfl, fun _ => ?_, ⟨vo, HW.out.plain hl hcm (by decide) (by decide) (by decide) (by decide) (by decide)⟩, HW.out.kp⟩
    rfl
  · subst h
    cases ins with
    | nil =>
      go_wp2
      go_ret
      refine ⟨_, rfl, fun _ => rfl, ⟨vo, ⟨HW.out.ow, A, c, HW.out.blk, hl, hcm, HW.out.rd⟩⟩, HW.out.kp⟩
    | cons x rest =>
      obtain ⟨b3, o3, rfl, hR3, hcell⟩ := HW.out.rd.2 (by simp)
      have s0 := hcell 0 (.int .u32 x) rfl
      rw [Nat.add_zero] at s0
      have hb3 := cell_lt s0
      have hx := HI.out x (by simp)
      obtain ⟨x0, x1⟩ := hx
      have hcut := Lib.hid (cut_reads HW.out.rd hl)
      simp only [List.length_cons] at *
      have hsl : ∀ w', (Instr.slice 26 (.slice (some ⟨b3, o3, none⟩) (rest.length + 1) c) (some (.int .i64 1)) none none).run Try.prog w' = .ok (.slice (cutA b3 o3 c) rest.length (c - 1)) w' := by
        intro w'
        unfold maxLen at hcm
        go_simp
        rw [if_pos (by omega)]
        unfold cutA
        by_cases hc1 : c = 1
        · rw [if_pos hc1, if_pos hc1]
        · rw [if_neg hc1, if_neg hc1]
      clear hcell
      go_wp2
      go_ret
      obtain ⟨s1, s2, s3, s4⟩ := HW.out.st hg 4 (.slice (cutA b3 o3 c) rest.length (c - 1))
      refine ⟨_, rfl, fun _ => rfl, ⟨vo, ⟨s2, cutA b3 o3 c, c - 1, s1, by show rest.length ≤ c - 1; omega, by omega, hcut.out.kept ((Kept.refl (fun k => k = g) W).setCell (p := ⟨g, 4, none⟩) (fun _ => rfl) _) (fun k hk e => by omega)⟩⟩, s4⟩
  · subst h
    have hne := own_blk_ne HW.out.ow HW.out.blk (by decide)
    go_wp2_with (at_builtin
                 refine wpList_app (base := B) _ rfl slU32 (.tmp 72) (.tmp 75) rfl vo _ _ rfl (World.ownsRow.alloc HW.out.ow _) (fun _ => True) _ 1 1 _ rfl (Reads.lit' (by simp) trivial rfl) ?_ ?_ ?_ ?_ ?_
                 · simp [Value.oneCell']
                 · simp only; omega
                 · unfold maxLen; simp only; omega
                 · simp; omega
                 intro v9 w9 hown9 hk9 hat9
                 obtain ⟨A9, c9, rfl, _, _⟩ := own_reads hown9
                 have hb9 := (HW.out.blk.alloc _).kept hk9 hne
                 have p1 := hb9.cell 1
                 have x1 := hb9.frozen 1
                 simp only [List.getElem?_toArray, List.getElem?_cons_succ, List.getElem?_cons_zero] at p1
                 have z9 := hb9.lt)
    have hK : Kept (fun k => k = g) w9 (w9.setCell ⟨g, 1, none⟩ (.slice A9 (out.length + 1) c9)) := (Kept.refl (fun k => k = g) w9).setCell (p := ⟨g, 1, none⟩) (fun _ => rfl) _
    have hx : u32s out ++ [Value.int .u32 (a % 4294967296)] = u32s (out ++ [a % 4294967296]) := by simp [u32s]
    go_ret
    refine ⟨_, rfl, fun h => by simp [gvs] at h, ⟨.slice A9 (out.length + 1) c9, ⟨?_, A, c, ?_, hl, hcm, ?_⟩⟩, ?_⟩
    · have := own_kept hown9 hK (fun k hk e => own_blk_ne hown9 hb9 (by decide) (e ▸ hk))
      rw [hx] at this
      simpa [rawStep] using this
    · have := hb9.set_ 1 (.slice A9 (out.length + 1) c9)
      simpa [rawStep, pcV] using this
    · have h2 := HW.out.rd.kept (((Kept.refl (fun k => vo.ownBlock = some k) W).alloc _).trans hk9) (fun k hk e => by have := (own_lt HW.out.ow e).1; omega)
      exact h2.kept hK (fun k hk e => by omega)
    · exact ((HW.out.kp.alloc _).trans (hk9.mono (fun i _ e => Or.inr e))).trans (hK.mono (fun i _ e => Or.inl e))
  · subst h
    obtain ⟨g1, g2⟩ := H5.out rfl
    go_wp2
    go_ret
    refine ⟨_, rfl, fun _ => ?_, ⟨vo, HW.out.plain hl hcm (by decide) (by decide) (by decide) (by decide) (by decide)⟩, HW.out.kp⟩
    exact or_u64 a b a0 g1 b0 g2
  · subst h
    go_wp2
    go_ret
    refine ⟨_, rfl, fun _ => ?_, ⟨vo, HW.out.plain hl hcm (by decide) (by decide) (by decide) (by decide) (by decide)⟩, HW.out.kp⟩
    exact and_u64 a a0 a1'
  · subst h
    go_wp2
    go_ret
    refine ⟨_, rfl, fun _ => ?_, ⟨vo, HW.out.plain hl hcm (by decide) (by decide) (by decide) (by decide) (by decide)⟩, HW.out.kp⟩
    rfl
  · subst h
    have hcc := HC.out (Or.inl rfl)
    obtain ⟨cn, rfl⟩ : ∃ cn : Nat, cc = (cn : Int) := ⟨cc.toNat, by omega⟩
    go_wp2
    go_ret
    obtain ⟨s1, s2, s3, s4⟩ := HW.out.st hg 3 (.int .i64 (cn : Int))
    refine ⟨_, rfl, fun h => by simp [gvs] at h, ⟨vo, ⟨s2, A, c, ?_, hl, hcm, s3⟩⟩, s4⟩
    simpa [rawStep, pcV] using s1
  · subst h
    have hcc := HC.out (Or.inr rfl)
    by_cases ha0 : a = 0
    · subst ha0
      go_wp2
      go_ret
      refine ⟨_, rfl, fun h => by simp [gvs] at h, ⟨vo, ⟨HW.out.ow, A, c, HW.out.blk, hl, hcm, HW.out.rd⟩⟩, HW.out.kp⟩
    · have hne : (a != 0) = true := by simpa using ha0
      have HA0 := Lib.hid ha0
      clear ha0
      obtain ⟨cn, rfl⟩ : ∃ cn : Nat, cc = (cn : Int) := ⟨cc.toNat, by omega⟩
      go_wp2
      go_ret
      obtain ⟨s1, s2, s3, s4⟩ := HW.out.st hg 3 (.int .i64 (cn : Int))
      refine ⟨_, rfl, fun h => by simp [gvs] at h, ⟨vo, ⟨s2, A, c, ?_, hl, hcm, s3⟩⟩, s4⟩
      simpa [rawStep, pcV, HA0.out] using s1
  · subst h
    go_wp2
    go_ret
    obtain ⟨s1, s2, s3, s4⟩ := HW.out.st hg 0 (.int .i64 1)
    refine ⟨_, rfl, fun h => by simp [gvs] at h, ⟨vo, ⟨s2, A, c, ?_, hl, hcm, s3⟩⟩, s4⟩
    simpa [rawStep, pcV] using s1
  · have e : ∀ k : Int, k ≤ 20 → (op == k) = false := fun k hk => by rw [beq_eq_false_iff_ne]; omega
    have e1 := e 1 (by omega)
    have e2 := e 2 (by omega)
    have e3 := e 3 (by omega)
    have e4' := e 4 (by omega)
    have e5' := e 5 (by omega)
    have e6 := e 6 (by omega)
    have e7 := e 7 (by omega)
    have e8 := e 8 (by omega)
    have e9 := e 9 (by omega)
    have e10 := e 10 (by omega)
    clear e
    have HNr := Lib.hid (fun w => Narrow_any (op - 20) (a % 4294967296) (b % 4294967296) (by omega) (by omega) (by omega) (by omega) w)
    go_wp2_with (go_at_call 80; refine (HNr.out _).mono ?_; rintro e w' ⟨rfl, rfl⟩)
    go_ret
    refine ⟨_, rfl, fun _ => ?_, ⟨vo, HW.out.plain hl hcm (by omega) (by omega) (by omega) (by omega) (by omega)⟩, HW.out.kp⟩
    have hnr := narrowOp_range (op - 20) (a % 4294967296) (b % 4294967296) (by omega) (by omega)
    rw [IntKind.wrap_u64, Int.emod_eq_of_lt (by omega) (by omega)]
    unfold giveV
    simp only
    rw [if_neg (by omega), if_neg (by omega), if_neg (by omega), if_neg (by omega), if_neg (by omega), if_neg (by omega), if_neg (by omega)]
  · have e : ∀ k : Int, k ≤ 40 → (op == k) = false := fun k hk => by rw [beq_eq_false_iff_ne]; omega
    have e1 := e 1 (by omega)
    have e2 := e 2 (by omega)
    have e3 := e 3 (by omega)
    have e4' := e 4 (by omega)
    have e5' := e 5 (by omega)
    have e6 := e 6 (by omega)
    have e7 := e 7 (by omega)
    have e8 := e 8 (by omega)
    have e9 := e 9 (by omega)
    have e10 := e 10 (by omega)
    clear e
    have HNr := Lib.hid (fun w => Wide_any (op - 40) a b (by omega) (by omega) (by omega) (by omega) w)
    go_wp2_with (go_at_call 79; refine (HNr.out _).mono ?_; rintro e w' ⟨rfl, rfl⟩)
    go_ret
    refine ⟨_, rfl, fun _ => ?_, ⟨vo, HW.out.plain hl hcm (by omega) (by omega) (by omega) (by omega) (by omega)⟩, HW.out.kp⟩
    unfold giveV
    simp only
    rw [if_neg (by omega), if_neg (by omega), if_neg (by omega), if_neg (by omega), if_neg (by omega), if_neg (by omega), if_pos h1]
end Go.Proofs.Ytodmkjeankbieab

/- The walk of Machine.Go: over whatever does an instruction. -/
namespace Go.Proofs.Ytodmkjeankbieab
open Go.RowKit Go.Sort

theorem Mc.ended {w : World} {g B : Nat} {r : Sh} {vo : Value} (h : Mc w g B r vo) (hg : B ≤ g) : Mc (w.setCell ⟨g, 0, none⟩ (.int .i64 2)) g B ⟨r.pc, r.ins, r.out, r.steps, 2⟩ vo := by
  obtain ⟨how, A, c, hb, h1, h2, hr⟩ := h
  have hK : Kept (fun k => k = g) w (w.setCell ⟨g, 0, none⟩ (.int .i64 2)) := (Kept.refl (fun k => k = g) w).setCell (p := ⟨g, 0, none⟩) (fun _ => rfl) _
  exact ⟨own_kept how hK (fun k hk e => own_blk_ne how hb (by decide) (e ▸ hk)), A, c, hb.set_ 0 (.int .i64 2), h1, h2, hr.kept hK (fun b hb e => by omega)⟩

/-- how a loop of at most n steps leaves the machine -/
def GoPost {σ : Type} (g B n : Nat) (code : List In) (M : Mach σ) (x0 : Sh × σ) (I : World → Sh × σ → Prop) (w' : World) : Prop :=
  ∃ (w1 : World) (vo : Value), I w1 (mRun code M n x0) ∧ Mc w' g B (mRun code M n x0).1 vo ∧ Kept (fun k => k = g) w1 w'
theorem GoPost.of {σ : Type} {g B n : Nat} {code : List In} {M : Mach σ} {x0 x : Sh × σ} {I : World → Sh × σ → Prop} {w1 w' : World} {vo : Value} (hi : I w1 x) (he : x = mRun code M n x0) (hm : Mc w' g B x.1 vo) (hk : Kept (fun k => k = g) w1 w') :
    GoPost g B n code M x0 I w' := by subst he; exact ⟨w1, vo, hi, hm, hk⟩

set_option maxHeartbeats 1000000 in
set_option maxRecDepth 100000 in
theorem Go_any {σ : Type} (f : Nat) (hf : ∀ args w, Sem.run Try.prog (callFunc f args) w = .ok (.enter f args) w) (cap : Array Value) (g B n c : Nat) (A : Option Addr) (code : List In) (M : Mach σ) (x0 : Sh × σ) (I : World → Sh × σ → Prop)
    (hI : ∀ w x, I w x → ∃ vo, Mc w g B (unF x.1) vo)
    (hstep : ∀ w x, I w x → At code M x0 n x → x.1.state = 0 → x.1.steps < n → Calls Try.prog f (#[.int .i64 (x.1.pc : Int)] ++ cap) w fun e w' => e = .returned (.tuple #[]) ∧ I w' (mStep code M x))
    (w : World) (hg : B ≤ g) (hc : code.length ≤ 1000) (hn : n ≤ 100000) (h0 : I w x0) (hat : At code M x0 n x0) :
    Calls Try.prog 40 #[.pointer (some ⟨g, 0, none⟩), .slice A code.length c, .int .i64 (n : Int), .func (.func f) #[] cap] w fun e w' =>
      e = .returned (.tuple #[]) ∧ GoPost g B n code M x0 I w' := by
  have HS := Lib.hid hstep
  have H0 := Lib.hid h0
  have HA := Lib.hid hat
  clear hstep h0 hat
  go_enter Try.func40, Try.ntmps40
  go_wp2
  go_loopw [] (fun wr => ∃ x, Hid (I wr x) ∧ Hid (At code M x0 n x)) (fun wr => n - (match wr.cell? ⟨g, 2, none⟩ with | some v => (intOf v).toNat | none => 0))
  case atStart => exact ⟨x0, H0.out, HA.out⟩
  case round =>
    obtain ⟨x, hi, ha⟩ := hrel
    obtain ⟨vo, hM⟩ := hI _ _ hi.out
    obtain ⟨how, Ai, ci, hB, hl, hcm, hr⟩ := id hM
    have q0 := hB.cell 0
    have q2 := hB.cell 2
    have q3 := hB.cell 3
    have z0 := hB.lt
    have y0 := hB.frozen 0
    have hle := ha.out.le
    simp only [List.getElem?_toArray, List.getElem?_cons_succ, List.getElem?_cons_zero] at q0 q2 q3
    have HM := Lib.hid hM
    clear hM how hB hl hcm hr
    have e2 : (unF x.1).steps = x.1.steps := rfl
    have e3 : (unF x.1).pc = x.1.pc := rfl
    rw [e2] at q2
    rw [e3] at q3
    by_cases hst : x.1.state = 0
    · have e0 : (unF x.1).state = 0 := by unfold unF; simp [hst]
      rw [e0] at q0
      have hpc := ha.out.st0 hst
      have hp0 : (x.1.pc : Int) < (code.length : Int) := by omega
      by_cases hs : x.1.steps < n
      · have hs0 : (x.1.steps : Int) < (n : Int) := by omega
        have HX := Lib.hid (HS.out wr x hi.out ha.out hst hs)
        have HA2 := Lib.hid (ha.out.step hst hs)
        have hq2 := q2
        go_wp2_with fail
        refine HX.out.mono ?_
        rintro e w1 ⟨rfl, h1⟩
        obtain ⟨vo1, hM1⟩ := hI _ _ h1
        obtain ⟨_, A1, c1, hB1, _⟩ := hM1
        have r2 := hB1.cell 2
        simp only [List.getElem?_toArray, List.getElem?_cons_succ, List.getElem?_cons_zero] at r2
        rw [show (unF (mStep code M x).1).steps = x.1.steps + 1 from rfl] at r2
        go_wp2
        go_roundw
        case rel => exact ⟨_, h1, HA2.out⟩
        case measure =>
          rw [q2, r2]
          simp [intOf]
          omega
      · have hs0 : ¬ (x.1.steps : Int) < (n : Int) := by omega
        have hE := Lib.hid (ha.out.stop (Or.inr hs))
        have hSame := Lib.hid (ha.out.same (Or.inr hpc))
        go_wp2
        go_end0
        refine ⟨rfl, GoPost.of hi.out hE.out (vo := vo) ?_ (Kept.refl _ _)⟩
        have := HM.out
        rwa [hSame.out] at this
    · have hE := Lib.hid (ha.out.stop (Or.inl hst))
      by_cases h1 : x.1.state = 1
      · have e0 : (unF x.1).state = 1 := by unfold unF; simp [h1]
        have hSame := Lib.hid (ha.out.same (Or.inl (by rw [e0]; decide)))
        rw [e0] at q0
        go_wp2
        go_end0
        refine ⟨rfl, GoPost.of hi.out hE.out (vo := vo) ?_ (Kept.refl _ _)⟩
        have := HM.out
        rwa [hSame.out] at this
      · have h2 : x.1.state = 2 := by have := ha.out.st; omega
        have e0 : (unF x.1).state = 0 := by unfold unF; simp [h2]
        have hpc := ha.out.st2 h2
        have hp0 : ¬ (x.1.pc : Int) < (code.length : Int) := by omega
        have hEnd := Lib.hid (ha.out.ended e0 hpc)
        rw [e0] at q0
        go_wp2
        go_end0
        refine ⟨rfl, GoPost.of hi.out hE.out (vo := vo) ?_ ((Kept.refl (fun k => k = g) wr).setCell (p := ⟨g, 0, none⟩) (fun _ => rfl) _)⟩
        rw [hEnd.out]
        exact HM.out.ended hg
end Go.Proofs.Ytodmkjeankbieab
