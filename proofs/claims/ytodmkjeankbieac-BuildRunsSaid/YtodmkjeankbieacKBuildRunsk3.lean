/- Place, OpenTg, Num, Run, Go, RefForm: texts of this claim, packed into one file. -/
import Derived.Test.YtodmkjeankbieacKBuildRunsk2
import Derived.Test.YtodmkjeankbieacKBuildRunsk0
import Derived.Test.YtodmkjeankbieacProg
import Derived.WalkKit
import Derived.ProofKit
import Derived.WalkSpells
import Derived.WalkLawsBesides
import Derived.Lib.Hide
import Derived.Outline
import Derived.Deep.Cut
import Derived.Deep.RegionHeld3
/- The walks of package place: Target, is, move, moves. -/
namespace Go.Proofs.Ytodmkjeankbieac
open Go.RowKit Go.Sort

def tgV (sg : Int) : Value := .agg #[.int .i64 sg]
/-- a move as a value -/
def Mv.value (m : Mv) : Value := .agg #[.int .i64 m.to.k, .int .i64 m.to.n, .int .i64 m.fr.k, .int .i64 m.fr.n, .bool m.c, .int .u32 m.n]

set_option maxHeartbeats 400000 in
theorem Target_any (sg : Int) (w : World) : Calls Try.prog 9 #[tgV sg] w fun e w' => e = .returned (.bool (tgB sg)) ∧ Fr w w' := by
  have HF := Lib.hid (show Fr w (w.alloc (.cells #[.int .i64 sg] 27)) from (Kept.refl _ w).alloc _)
  unfold tgV
  go_enter Try.func9, Try.ntmps9
  go_wp2
  all_goals go_ret
  all_goals refine ⟨ret_b ?_, HF.out⟩
  all_goals unfold tgB
  all_goals rw [Bool.eq_iff_iff]
  all_goals simp only [Bool.and_eq_true, decide_eq_true_eq, beq_iff_eq, Bool.false_eq_true, false_iff]
  all_goals omega

set_option maxHeartbeats 400000 in
theorem is_any (sg sl : Int) (a : PlaceV) (w : World) (h4 : 4 ≤ sg) (h16 : sg ≤ 16) : Calls Try.prog 58 #[tgV sg, .int .i64 sl, a.val] w fun e w' => e = .returned (.bool (isB sg sl a)) ∧ Fr w w' := by
  obtain ⟨k, n⟩ := a
  have HF := Lib.hid (show Fr w ((w.alloc (.cells #[.int .i64 sg] 27)).alloc (.cells #[.int .i64 k, .int .i64 n] 75)) from ((Kept.refl _ w).alloc _).alloc _)
  have hq : sg.tdiv 2 = sg / 2 := Int.tdiv_eq_ediv_of_nonneg (by omega)
  unfold tgV PlaceV.val
  simp only
  go_enter Try.func58, Try.ntmps58
  go_wp2
  all_goals go_ret
  all_goals refine ⟨ret_b ?_, HF.out⟩
  all_goals unfold isB
  all_goals rw [Bool.eq_iff_iff]
  all_goals simp only [beq_iff_eq, beq_eq_false_iff_ne] at *
  all_goals simp only [Bool.and_eq_true, decide_eq_true_eq, beq_iff_eq, Bool.false_eq_true, false_iff]
  all_goals (split <;> (try split) <;> (try split) <;> omega)

theorem mvB_c {sg sl : Int} {to fr : PlaceV} {n : Nat} : mvB sg sl ⟨to, fr, true, n⟩ = (isB sg sl to && (decide (fr = ⟨0, 0⟩) && decide (to.k = 1))) := rfl
theorem mvB_n {sg sl : Int} {to fr : PlaceV} {n : Nat} : mvB sg sl ⟨to, fr, false, n⟩ = (isB sg sl to && (decide (n = 0) && isB sg sl fr && (decide (to.k = fr.k) != (decide (to.k = 3) || decide (fr.k = 3))))) := rfl

set_option maxHeartbeats 1000000 in
set_option maxRecDepth 100000 in
theorem move_any (sg sl : Int) (m : Mv) (w : World) (h4 : 4 ≤ sg) (h16 : sg ≤ 16) : Calls Try.prog 65 #[tgV sg, .int .i64 sl, m.value] w fun e w' => e = .returned (.bool (mvB sg sl m)) ∧ Fr w w' := by
  obtain ⟨⟨tk, tn⟩, ⟨fk, fn⟩, c, n⟩ := m
  have HF0 := Lib.hid (show Fr w ((w.alloc (.cells #[.int .i64 sg] 27)).alloc (.cells #[.int .i64 tk, .int .i64 tn, .int .i64 fk, .int .i64 fn, .bool c, .int .u32 n] 101)) from ((Kept.refl _ w).alloc _).alloc _)
  have HB0 := Lib.hid ((Blk.new w 27 #[.int .i64 sg]).alloc (.cells #[.int .i64 tk, .int .i64 tn, .int .i64 fk, .int .i64 fn, .bool c, .int .u32 n] 101))
  have HB1 : Hid (Blk ((w.alloc (.cells #[.int .i64 sg] 27)).alloc (.cells #[.int .i64 tk, .int .i64 tn, .int .i64 fk, .int .i64 fn, .bool c, .int .u32 n] 101)) (w.heap.size + 1) 101 #[.int .i64 tk, .int .i64 tn, .int .i64 fk, .int .i64 fn, .bool c, .int .u32 n]) := by
    have := Blk.new (w.alloc (.cells #[.int .i64 sg] 27)) 101 #[.int .i64 tk, .int .i64 tn, .int .i64 fk, .int .i64 fn, .bool c, .int .u32 n]
    show Blk _ _ _ _
    simpa using this
  have HTo := Lib.hid (fun w => is_any sg sl ⟨tk, tn⟩ w h4 h16)
  have HFrm := Lib.hid (fun w => is_any sg sl ⟨fk, fn⟩ w h4 h16)
  unfold tgV PlaceV.val at HTo HFrm
  simp only at HTo HFrm
  unfold tgV Mv.value
  simp only
  go_enter Try.func65, Try.ntmps65
  go_wp2_with fail
  refine (HTo.out _).mono ?_
  rintro e w1 ⟨rfl, f1⟩
  have HF1 := Lib.hid (HF0.out.trans f1)
  have HB2 := Lib.hid (HB0.out.kept f1 (fun h => h))
  have HB3 := Lib.hid (HB1.out.kept f1 (fun h => h))
  have t0 := HB2.out.cell 0
  have m0 := HB3.out.cell 0
  have m2 := HB3.out.cell 2
  have m3 := HB3.out.cell 3
  have m4 := HB3.out.cell 4
  have m5 := HB3.out.cell 5
  have z0 := HB2.out.lt
  have z1 := HB3.out.lt
  simp only [List.getElem?_toArray, List.getElem?_cons_succ, List.getElem?_cons_zero] at t0 m0 m2 m3 m4 m5
  clear f1 HF0 HB0 HB1 HTo
  cases ht : isB sg sl ⟨tk, tn⟩ with
  | false =>
    have HV : Hid (mvB sg sl ⟨⟨tk, tn⟩, ⟨fk, fn⟩, c, n⟩ = false) := by
      show _ = _; unfold mvB; simp only; rw [ht]; rfl
    clear ht
    go_wp2
    go_ret
    exact ⟨ret_b HV.out.symm, HF1.out⟩
  | true =>
    cases c with
    | true =>
      have HV : Hid (mvB sg sl ⟨⟨tk, tn⟩, ⟨fk, fn⟩, true, n⟩ = (decide ((⟨fk, fn⟩ : PlaceV) = ⟨0, 0⟩) && decide (tk = 1))) := by
        show _ = _; rw [mvB_c, ht]; rfl
      clear ht
      go_wp2
      all_goals go_ret
      all_goals refine ⟨ret_b ?_, HF1.out⟩
      all_goals rw [HV.out, Bool.eq_iff_iff]
      all_goals simp only [Bool.and_eq_true, decide_eq_true_eq, beq_iff_eq, Bool.false_eq_true, false_iff, PlaceV.mk.injEq]
      all_goals omega
    | false =>
      have HV : Hid (mvB sg sl ⟨⟨tk, tn⟩, ⟨fk, fn⟩, false, n⟩ = (decide (n = 0) && isB sg sl ⟨fk, fn⟩ && (decide (tk = fk) != (decide (tk = 3) || decide (fk = 3))))) := by
        show _ = _; rw [mvB_n, ht]; rfl
      clear ht
      by_cases hn0 : n = 0
      · subst hn0
        go_wp2
        go_quiet (fail)
        go_wp2_with fail
        refine (HFrm.out _).mono ?_
        rintro e w2 ⟨rfl, f2⟩
        have HF2 := Lib.hid ((HF1.out.drewN nq).trans f2)
        clear f2
        cases hi : isB sg sl ⟨fk, fn⟩ with
        | false =>
          rw [hi] at HV
          clear hi
          go_wp2
          go_ret
          refine ⟨ret_b ?_, HF2.out⟩
          rw [HV.out]
          rfl
        | true =>
          rw [hi] at HV
          have HV2 : Hid (mvB sg sl ⟨⟨tk, tn⟩, ⟨fk, fn⟩, false, 0⟩ = ((tk == fk) != (decide (tk = 3) || decide (fk = 3)))) := by
            show _ = _
            rw [HV.out, show decide (tk = fk) = (tk == fk) from by rw [Bool.eq_iff_iff]; simp]
            rfl
          clear hi HV
          go_wp2
          all_goals go_ret
          all_goals refine ⟨ret_b ?_, HF2.out⟩
          all_goals rw [HV2.out]
          · rename_i h3
            subst h3
            simp [bne]
          · rename_i h3
            have e3 : decide (tk = 3) = (tk == 3) := by rw [Bool.eq_iff_iff]; simp
            have e4 : decide (fk = 3) = (fk == 3) := by rw [Bool.eq_iff_iff]; simp
            rw [e3, e4]
            rfl
      · have hn1 : ((n : Int) == 0) = false := by simpa using hn0
        go_wp2
        go_quiet (fail)
        go_wp2_with fail
        go_ret
        refine ⟨ret_b ?_, HF1.out.drewN nq⟩
        rw [HV.out, decide_eq_false hn0]
        rfl
end Go.Proofs.Ytodmkjeankbieac

/- A target that came in. -/
namespace Go.Proofs.Ytodmkjeankbieac
open Go.ChangeShapes Go.WideShapes Go.ChangeAt Go.RowKit Go.Joins

section
variable {H : Type} {enc : TypeId × Value → H} {w : World} {base : Nat} {spare : Nat → Bool} {held : Bool}
set_option maxRecDepth 100000 in
theorem open_tg {r : Reach} {b0 : Nat} {v : Value} {d : DataW H} {ps : List MemPlace} (hv : Value.okWide Try.prog w r b0 27 v) (h : DataW.Trod enc Try.prog w base spare held 27 v d ps) : ∃ sg : Int, v = tgV sg := by
  obtain ⟨cs, rfl, hsz⟩ := okWide_struct Try.underlying27 hv
  obtain ⟨c0, rfl⟩ : ∃ c0, cs = #[c0] := by
    obtain ⟨l⟩ := cs
    have hC : Try.prog.cellsOf 27 = 1 := by kernel_rfl
    match l, hsz.trans hC with
    | [c0], _ => exact ⟨c0, rfl⟩
  obtain ⟨fuel, hf⟩ := h
  obtain ⟨xs, n, _, _, hlen, hxl, hfl⟩ := DataW.trod_struct Try.underlying27 hf
  have h0 := field_at hfl 0 rfl 3 rfl 0 rfl cInt (one := [c0]) rfl
  obtain ⟨y0, hy0⟩ : ∃ y, xs[0]? = some y := ⟨_, List.getElem?_eq_getElem (by rw [hxl]; decide)⟩
  rw [hy0] at h0
  obtain ⟨n, e0, _, w0⟩ := DataW.trod_int Try.underlying3 h0
  simp only [List.cons.injEq, and_true] at e0
  subst e0
  exact ⟨n, rfl⟩
end
end Go.Proofs.Ytodmkjeankbieac

/- The walks of chapter 1: what num.Narrow, num.Wide and the reference's two compute, each for all operations and numbers. -/
namespace Go.Proofs.Ytodmkjeankbieac
open Go.RowKit

theorem ret_int {k : IntKind} {a b : Int} (h : a = b) : Ending.returned (.int k a) = .returned (.int k b) := by rw [h]

theorem do64 (op a b : Int) (h0 : 0 ≤ a) (h1 : a ≤ 18446744073709551615) (g0 : 0 ≤ b) (g1 : b ≤ 18446744073709551615) (w : World) :
    Calls Try.prog 56 #[.int .i64 op, .int .u64 a, .int .u64 b] w fun e w' => e = .returned (.int .u64 (wideOp op a b)) ∧ w = w' := by
  go_enter Try.func56, Try.ntmps56
  go_wp2
  all_goals go_ret
  all_goals refine ⟨ret_int ?_, rfl⟩
  all_goals unfold wideOp
  · rw [opM_1 ‹_›, IntKind.wrap_u64]
  · rw [opM_2 ‹_›, IntKind.wrap_u64]
  · rw [opM_3 ‹_›, IntKind.wrap_u64]
  · rw [opM_4 ‹_›, (bits_u64 a b h0 h1 g0 g1).1]
  · rw [opM_5 ‹_›, (bits_u64 a b h0 h1 g0 g1).2]
  · rw [opM_6 ‹_›, if_pos ‹_›]
  · rw [opM_6 ‹_›, if_neg (by omega)]
  · rw [opM_0 ‹_› ‹_› ‹_› ‹_› ‹_› ‹_›]

theorem do32 (op a b : Int) (h0 : 0 ≤ a) (h1 : a ≤ 4294967295) (g0 : 0 ≤ b) (g1 : b ≤ 4294967295) (w : World) :
    Calls Try.prog 57 #[.int .i64 op, .int .u32 a, .int .u32 b] w fun e w' => e = .returned (.int .u32 (narrowOp op a b)) ∧ w = w' := by
  go_enter Try.func57, Try.ntmps57
  go_wp2
  all_goals go_ret
  all_goals refine ⟨ret_int ?_, rfl⟩
  all_goals unfold narrowOp
  · rw [opM_1 ‹_›]
  · rw [opM_2 ‹_›]
  · rw [opM_3 ‹_›]
  · rw [opM_4 ‹_›, (bits_u32 a b h0 h1 g0 g1).1]
  · rw [opM_5 ‹_›, (bits_u32 a b h0 h1 g0 g1).2]
  · rw [opM_6 ‹_›, if_pos ‹_›]
  · rw [opM_6 ‹_›, if_neg (by omega)]
  · rw [opM_0 ‹_› ‹_› ‹_› ‹_› ‹_› ‹_›]

theorem Wide_any (op a b : Int) (h0 : 0 ≤ a) (h1 : a ≤ 18446744073709551615) (g0 : 0 ≤ b) (g1 : b ≤ 18446744073709551615) (w : World) :
    Calls Try.prog 40 #[.int .i64 op, .int .u64 a, .int .u64 b] w fun e w' => e = .returned (.int .u64 (wideOp op a b)) ∧ w = w' := by
  go_enter Try.func40, Try.ntmps40
  go_wp2_with (go_at_call 56; refine (do64 _ _ _ h0 h1 g0 g1 _).mono ?_; rintro e w' ⟨rfl, rfl⟩)
  go_ret
  exact ⟨rfl, rfl⟩

theorem Narrow_any (op a b : Int) (h0 : 0 ≤ a) (h1 : a ≤ 4294967295) (g0 : 0 ≤ b) (g1 : b ≤ 4294967295) (w : World) :
    Calls Try.prog 41 #[.int .i64 op, .int .u32 a, .int .u32 b] w fun e w' => e = .returned (.int .u32 (narrowOp op a b)) ∧ w = w' := by
  go_enter Try.func41, Try.ntmps41
  go_wp2_with (go_at_call 57; refine (do32 _ _ _ h0 h1 g0 g1 _).mono ?_; rintro e w' ⟨rfl, rfl⟩)
  go_ret
  exact ⟨rfl, rfl⟩

/-- the loop's relation: what n, power, a, b hold behind k rounds -/
def BitsAt (an : Bool) (a b : Nat) (k n p x y : Nat) : Prop :=
  n = bwk an a b k ∧ p = pw k ∧ x = a / 2 ^ k ∧ y = b / 2 ^ k

theorem bitsAt_0 (an : Bool) (a b : Nat) : BitsAt an a b 0 0 1 a b := by
  refine ⟨by simp [bwk]; omega, by decide, by simp, by simp⟩

theorem bitsAt_bounds {an : Bool} {a b k n p x y : Nat} (h : BitsAt an a b k n p x y) (hk : k < 64) :
    n < p ∧ p ≤ 9223372036854775808 ∧ x ≤ a ∧ y ≤ b := by
  obtain ⟨rfl, rfl, rfl, rfl⟩ := h
  have h1 := pw_lt k hk
  have h2 := bwk_lt an a b k
  have h3 := Nat.div_le_self a (2 ^ k)
  have h4 := Nat.div_le_self b (2 ^ k)
  omega

theorem bitsAt_succ {an : Bool} {a b k n p x y : Nat} (h : BitsAt an a b k n p x y) (hk : k < 64) :
    BitsAt an a b (k + 1) (if bw1 an (x % 2) (y % 2) then n + p else n) ((p + p) % 18446744073709551616) (x / 2) (y / 2) := by
  obtain ⟨rfl, rfl, rfl, rfl⟩ := h
  refine ⟨?_, pw_succ k, half_step a k, half_step b k⟩
  rw [bwk_succ, (pw_lt k hk).1]
  cases bw1 an (a / 2 ^ k % 2) (b / 2 ^ k % 2) <;> simp

theorem bw1_xt {x y : Nat} (h : ((x : Int) % 2 != (y : Int) % 2) = true) : bw1 false (x % 2) (y % 2) = true := by simp [bw1] at *; omega
theorem bw1_xf {x y : Nat} (h : ((x : Int) % 2 != (y : Int) % 2) = false) : bw1 false (x % 2) (y % 2) = false := by simp [bw1] at *; omega
theorem bw1_at {x y : Nat} (h : (x : Int) % 2 + (y : Int) % 2 = 2) : bw1 true (x % 2) (y % 2) = true := by simp [bw1]; omega
theorem bw1_af {x y : Nat} (h : ¬ (x : Int) % 2 + (y : Int) % 2 = 2) : bw1 true (x % 2) (y % 2) = false := by simp [bw1]; omega

theorem bits_rel {an : Bool} {a0 b0 k n p x y : Nat} (hk : k < 64) (hs : BitsAt an a0 b0 (k + 1) (if bw1 an (x % 2) (y % 2) then n + p else n) ((p + p) % 18446744073709551616) (x / 2) (y / 2)) :
    (bw1 an (x % 2) (y % 2) = true → ∃ k1 n1 p1 x1 y1 : Nat, k1 ≤ 64 ∧ BitsAt an a0 b0 k1 n1 p1 x1 y1 ∧ Value.int IntKind.u64 (↑x / 2) = Value.int IntKind.u64 ↑x1 ∧ Value.int IntKind.u64 (↑y / 2) = Value.int IntKind.u64 ↑y1 ∧
      Value.int IntKind.u64 (↑n + ↑p) = Value.int IntKind.u64 ↑n1 ∧ Value.int IntKind.u64 ((↑p + ↑p) % 18446744073709551616) = Value.int IntKind.u64 ↑p1 ∧ Value.int IntKind.i64 (↑k + 1) = Value.int IntKind.i64 ↑k1) ∧
    (bw1 an (x % 2) (y % 2) = false → ∃ k1 n1 p1 x1 y1 : Nat, k1 ≤ 64 ∧ BitsAt an a0 b0 k1 n1 p1 x1 y1 ∧ Value.int IntKind.u64 (↑x / 2) = Value.int IntKind.u64 ↑x1 ∧ Value.int IntKind.u64 (↑y / 2) = Value.int IntKind.u64 ↑y1 ∧
      Value.int IntKind.u64 (↑n) = Value.int IntKind.u64 ↑n1 ∧ Value.int IntKind.u64 ((↑p + ↑p) % 18446744073709551616) = Value.int IntKind.u64 ↑p1 ∧ Value.int IntKind.i64 (↑k + 1) = Value.int IntKind.i64 ↑k1) := by
  refine ⟨fun h => ?_, fun h => ?_⟩
  · rw [h] at hs; exact ⟨k + 1, n + p, _, _, _, by omega, hs, by simp, by simp, by simp, by simp, by simp⟩
  · rw [h] at hs; exact ⟨k + 1, n, _, _, _, by omega, hs, by simp, by simp, by simp, by simp, by simp⟩

end Go.Proofs.Ytodmkjeankbieac

/- The walks of package run: Wrong, Machine.Do, Machine.Go. -/
namespace Go.Proofs.Ytodmkjeankbieac
open Go.RowKit Go.Sort

/-- what is wrong with a run -/
def wrongV (p : Pg) (n : Nat) (steps : Int) : Int := if mayB p = false then 2 else if 40 < n then 1 else if steps < 0 ∨ 3000 < steps then 3 else 0

set_option maxHeartbeats 1000000 in
set_option maxRecDepth 100000 in
theorem Wrong_any (R : Nat → Prop) (v : Value) (p : Pg) (A : Option Addr) (n c : Nat) (steps : Int) (w : World) (h : RdPg w R v p) (hn : n ≤ 9223372036854775807) :
    Calls Try.prog 15 #[v, .slice A n c, .int .i64 steps] w fun e w' => e = .returned (.int .i64 (wrongV p n steps)) ∧ Fr w w' := by
  have H := Lib.hid h
  obtain ⟨vw, vc, rfl, ⟨A1, c1, rfl, hl, hr⟩, ⟨A', c', rfl, hl', hr', ho'⟩⟩ := h
  clear hr hr' ho' hl hl'
  have HM := Lib.hid (fun w2 (hf : Fr w w2) => May_any R _ p w2 (H.out.kept hf (fun _ _ h => h)))
  have HF0 := Lib.hid (show Fr w (w.alloc (.cells #[.slice A1 p.wide.length c1, .slice A' p.code.length c'] 25)) from (Kept.refl _ w).alloc _)
  go_enter Try.func15, Try.ntmps15
  go_wp2_with fail
  cases hm : mayB p with
  | false =>
    rw [hm] at HM
    have HW : Hid (wrongV p n steps = 2) := by show _ = _; unfold wrongV; rw [if_pos hm]
    clear hm
    refine (HM.out _ HF0.out).mono ?_
    rintro e w2 ⟨rfl, f2⟩
    have HF := Lib.hid (HF0.out.trans f2)
    clear f2
    go_wp2
    go_ret
    exact ⟨ret_i HW.out.symm, HF.out⟩
  | true =>
    rw [hm] at HM
    have HW : Hid (wrongV p n steps = if 40 < n then 1 else if steps < 0 ∨ 3000 < steps then 3 else 0) := by show _ = _; unfold wrongV; rw [if_neg (by rw [hm]; decide)]
    clear hm
    refine (HM.out _ HF0.out).mono ?_
    rintro e w2 ⟨rfl, f2⟩
    have HF := Lib.hid (HF0.out.trans f2)
    clear f2
    go_wp2
    all_goals go_ret
    all_goals refine ⟨ret_i ?_, HF.out⟩
    all_goals rw [HW.out]
    all_goals first
      | (rw [if_pos (by omega)]; done)
      | (rw [if_neg (by omega), if_pos (by omega)]; done)
      | (rw [if_neg (by omega), if_neg (by omega)]; done)

def u32s (l : List Int) : List Value := l.map (Value.int .u32)
/-- block g is a machine that stands at r; what it has told is the row vo, in a block from B on, what comes in in blocks below -/
structure Mc (w : World) (g B : Nat) (r : Sh) (vo : Value) : Prop where
  ow : w.ownsRow B 64 1 vo r.out.length (u32s r.out)
  ex : ∃ A c, Blk w g 62 #[.int .i64 (r.state : Int), vo, .int .i64 (r.steps : Int), .int .i64 (r.pc : Int), .slice A r.ins.length c] ∧
    r.ins.length ≤ c ∧ c ≤ maxLen ∧ Reads w (fun b => b < B) 1 A r.ins.length (u32s r.ins)
def McS (g : Nat) (vo : Value) (k : Nat) : Prop := k = g ∨ vo.ownBlock = some k
theorem Mc.blk {w w' : World} {g B b : Nat} {r : Sh} {vo : Value} {t : TypeId} {cs : Array Value} (h : Mc w g B r vo) (hk : Kept (McS g vo) w w') (hb : Blk w b t cs) (h1 : t ≠ 62) (h2 : 64 ≠ t) : Blk w' b t cs := by
  obtain ⟨A, c, hB, _⟩ := h.ex
  refine hb.kept hk ?_
  rintro (e | e)
  · exact hb.ne_ hB h1 e
  · exact own_blk_ne h.ow hb h2 e
theorem Mc.fr {w0 w w' : World} {g : Nat} {r : Sh} {vo : Value} (h : Mc w g w0.heap.size r vo) (hk : Kept (McS g vo) w w') (hg : w0.heap.size ≤ g) (hf : Fr w0 w) : Fr w0 w' :=
  hf.then hk fun i hi hs => by
    rcases hs with e | e
    · omega
    · have := (own_lt h.ow e).1; omega

theorem slU32 : SlTy Try.prog 28 64 1 4 := SlTy.mk' (z := .int .u32 0) Try.underlying28 (by kernel_rfl) rfl (by decide)

/-- where a slice goes on behind its first element -/
def cutA (b off c : Nat) : Option Addr := some (if c = 1 then ⟨b, off, none⟩ else ⟨b, off + 1, none⟩)
theorem cut_reads {w : World} {R : Nat → Prop} {b off n c : Nat} {x : Value} {xs : List Value} (h : Reads w R 1 (some ⟨b, off, none⟩) (n + 1) (x :: xs)) (hc : n + 1 ≤ c) : Reads w R 1 (cutA b off c) n xs := by
  refine ⟨by have := h.1; simp at this; omega, fun hn => ?_⟩
  obtain ⟨b', off', hA, hR, hcell⟩ := h.2 (by omega)
  simp only [Option.some.injEq, Addr.mk.injEq, and_true] at hA
  obtain ⟨rfl, rfl⟩ := hA
  refine ⟨b, off + 1, by simp [cutA]; omega, hR, fun j u hu => ?_⟩
  have := hcell (j + 1) u (by simpa using hu)
  rw [Nat.add_assoc, Nat.add_comm 1 j]
  exact this

/-- the machine behind the two counts -/
structure McW (w W : World) (g B : Nat) (r : Sh) (vo : Value) (A : Option Addr) (c : Nat) (op d a1 b1 cc : Int) (n : Nat) : Prop where
  blk : Blk W g 62 #[.int .i64 (r.state : Int), vo, .int .i64 ((r.steps + 1 : Nat) : Int), .int .i64 ((r.pc + 1 : Nat) : Int), .slice A r.ins.length c]
  ow : W.ownsRow B 64 1 vo r.out.length (u32s r.out)
  rd : Reads W (fun b => b < B) 1 A r.ins.length (u32s r.ins)
  ib : Blk W w.heap.size 66 #[.int .i64 op, .int .i64 d, .int .i64 a1, .int .i64 b1, .int .i64 cc, .int .u32 n]
  kp : Kept (McS g vo) w W

theorem McW.st {w W : World} {g B c : Nat} {r : Sh} {vo : Value} {A : Option Addr} {op d a1 b1 cc : Int} {n : Nat} (h : McW w W g B r vo A c op d a1 b1 cc n) (hg : B ≤ g) (j : Nat) (u : Value) :
    Blk (W.setCell ⟨g, j, none⟩ u) g 62 (#[Value.int .i64 (r.state : Int), vo, .int .i64 ((r.steps + 1 : Nat) : Int), .int .i64 ((r.pc + 1 : Nat) : Int), .slice A r.ins.length c].setIfInBounds j u) ∧
    (W.setCell ⟨g, j, none⟩ u).ownsRow B 64 1 vo r.out.length (u32s r.out) ∧ Reads (W.setCell ⟨g, j, none⟩ u) (fun b => b < B) 1 A r.ins.length (u32s r.ins) ∧ Kept (McS g vo) w (W.setCell ⟨g, j, none⟩ u) := by
  have hK : Kept (fun k => k = g) W (W.setCell ⟨g, j, none⟩ u) := (Kept.refl (fun k => k = g) W).setCell (p := ⟨g, j, none⟩) (fun _ => rfl) _
  exact ⟨h.blk.set_ j u, own_kept h.ow hK (fun k hk e => own_blk_ne h.ow h.blk (by decide) (e ▸ hk)), h.rd.kept hK (fun k hk e => by omega), h.kp.trans (hK.mono (fun i _ e => Or.inl e))⟩
theorem or_u64 (a b : Int) (ha : 0 ≤ a) (ha' : a < 4294967296) (hb : 0 ≤ b) (hb' : b < 4294967296) : bits .or .u64 (b * 4294967296) a = b * 4294967296 + a := by
  have := bits_join .u64 64 (by decide) (fun n h h' => by rw [IntKind.wrap_u64]; exact Int.emod_eq_of_lt h (by simpa using h')) 32 (x := b * 4294967296) (y := a)
  have h2 : (2 : Int) ^ 32 = 4294967296 := by decide
  have h3 : (2 : Int) ^ 64 = 18446744073709551616 := by decide
  rw [h2, h3] at this
  exact this (by omega) (by omega) (by omega) (by omega) (by omega) (by omega)
theorem and_u64 (a : Int) (ha : 0 ≤ a) (ha' : a < 18446744073709551616) : bits .and .u64 a 4294967295 = a % 4294967296 := by
  rw [(bits_u64 a 4294967295 ha (by omega) (by omega) (by omega)).1]
  have e : (4294967295 : Int).toNat = 2 ^ 32 - 1 := by decide
  unfold bw
  rw [if_pos rfl, e, Nat.and_two_pow_sub_one_eq_mod]
  have e2 : (2 : Nat) ^ 32 = 4294967296 := by decide
  rw [e2]
  omega
theorem raw_plain {r : Sh} {op d a1 b1 cc a : Int} {n : Nat} (h3 : op ≠ 3) (h4 : op ≠ 4) (h8 : op ≠ 8) (h9 : op ≠ 9) (h10 : op ≠ 10) : rawStep r ⟨op, d, a1, b1, cc, n⟩ a = ⟨r.pc + 1, r.ins, r.out, r.steps + 1, r.state⟩ := by
  unfold rawStep pcV
  simp only
  rw [if_neg (by omega), if_neg h3, if_neg h4, if_neg h10]
theorem McW.plain {w W : World} {g B c : Nat} {r : Sh} {vo : Value} {A : Option Addr} {op d a1 b1 cc a : Int} {n : Nat} (h : McW w W g B r vo A c op d a1 b1 cc n) (hl : r.ins.length ≤ c) (hcm : c ≤ maxLen)
    (h3 : op ≠ 3) (h4 : op ≠ 4) (h8 : op ≠ 8) (h9 : op ≠ 9) (h10 : op ≠ 10) : Mc W g B (rawStep r ⟨op, d, a1, b1, cc, n⟩ a) vo := by
  rw [raw_plain h3 h4 h8 h9 h10]
  exact ⟨h.ow, A, c, h.blk, hl, hcm, h.rd⟩

set_option maxHeartbeats 4000000 in
set_option maxRecDepth 100000 in
theorem Do_any (g B : Nat) (r : Sh) (vo : Value) (i : In) (a b : Int) (w : World) (h : Mc w g B r vo) (hg : B ≤ g) (hk : known i.op = true) (hin : i.n < 4294967296) (ha : 0 ≤ a ∧ a < 18446744073709551616) (hb : 0 ≤ b ∧ b < 18446744073709551616)
    (h5 : i.op = 5 → a < 4294967296 ∧ b < 4294967296) (hs : r.steps ≤ 100000) (ho : r.out.length ≤ 100000) (hp : r.pc ≤ 100000) (hc : i.op = 8 ∨ i.op = 9 → 0 ≤ i.c) (hi : ∀ n ∈ r.ins, 0 ≤ n ∧ n < 4294967296) :
    Calls Try.prog 18 #[.pointer (some ⟨g, 0, none⟩), i.val, .int .u64 a, .int .u64 b] w fun e w' => ∃ v, e = .returned (.int .u64 v) ∧ (gvs i.op = true → v = giveV i a b (r.ins.headD 0)) ∧ (∃ vo', Mc w' g B (rawStep r i a) vo') ∧ Kept (McS g vo) w w' := by
  obtain ⟨hO0, A, c, hB0, hl, hcm, hr0⟩ := h
  have q0 := hB0.cell 0
  have q1 := hB0.cell 1
  have q2 := hB0.cell 2
  have q3 := hB0.cell 3
  have q4 := hB0.cell 4
  have y2 := hB0.frozen 2
  have y3 := hB0.frozen 3
  simp only [List.getElem?_toArray, List.getElem?_cons_succ, List.getElem?_cons_zero] at q0 q1 q2 q3 q4
  have z0 := hB0.lt
  obtain ⟨op, d, a1, b1, cc, n⟩ := i
  obtain ⟨pc, ins, out, steps, state⟩ := r
  unfold In.val
  simp only at *
  have hK1 : Kept (fun k => k = g) w (((w.setCell ⟨g, 3, none⟩ (.int .i64 ((pc : Int) + 1))).setCell ⟨g, 2, none⟩ (.int .i64 ((steps : Int) + 1))).alloc (.cells #[.int .i64 op, .int .i64 d, .int .i64 a1, .int .i64 b1, .int .i64 cc, .int .u32 n] 66)) :=
    (((Kept.refl (fun k => k = g) w).setCell (p := ⟨g, 3, none⟩) (fun _ => rfl) _).setCell (p := ⟨g, 2, none⟩) (fun _ => rfl) _).alloc _
  have HW := Lib.hid (show McW w (((w.setCell ⟨g, 3, none⟩ (.int .i64 ((pc : Int) + 1))).setCell ⟨g, 2, none⟩ (.int .i64 ((steps : Int) + 1))).alloc (.cells #[.int .i64 op, .int .i64 d, .int .i64 a1, .int .i64 b1, .int .i64 cc, .int .u32 n] 66)) g B ⟨pc, ins, out, steps, state⟩ vo A c op d a1 b1 cc n from by
    refine ⟨?_, ?_, ?_, ?_, hK1.mono (fun i _ e => Or.inl e)⟩
    · exact (((hB0.set_ 3 (.int .i64 ((pc : Int) + 1))).set_ 2 (.int .i64 ((steps : Int) + 1))).alloc _)
    · exact own_kept hO0 hK1 (fun k hk e => own_blk_ne hO0 hB0 (by decide) (e ▸ hk))
    · exact hr0.kept hK1 (fun k hk e => by omega)
    · have := Blk.new ((w.setCell ⟨g, 3, none⟩ (.int .i64 ((pc : Int) + 1))).setCell ⟨g, 2, none⟩ (.int .i64 ((steps : Int) + 1))) 66 #[.int .i64 op, .int .i64 d, .int .i64 a1, .int .i64 b1, .int .i64 cc, .int .u32 n]
      simpa [World.setCell] using this)
  clear hB0 hO0 hr0 hK1
  have HI := Lib.hid hi
  have HK := Lib.hid hk
  have H5 := Lib.hid h5
  have HC := Lib.hid hc
  clear hi hk h5 hc
  obtain ⟨a0, a1'⟩ := ha
  obtain ⟨b0, b1'⟩ := hb
  go_enter Try.func18, Try.ntmps18
  go_upto_region 3 with (fail)
  clear q0 q1 q2 q3 q4 y2 y3
  generalize ((w.setCell ⟨g, 3, none⟩ (.int .i64 ((pc : Int) + 1))).setCell ⟨g, 2, none⟩ (.int .i64 ((steps : Int) + 1))).alloc (.cells #[.int .i64 op, .int .i64 d, .int .i64 a1, .int .i64 b1, .int .i64 cc, .int .u32 n] 66) = W at *
  have e0 := HW.out.ib.cell 0
  have e4 := HW.out.ib.cell 4
  have e5 := HW.out.ib.cell 5
  have q0 := HW.out.blk.cell 0
  have q1 := HW.out.blk.cell 1
  have q3 := HW.out.blk.cell 3
  have q4 := HW.out.blk.cell 4
  have y0 := HW.out.blk.frozen 0
  have y1 := HW.out.blk.frozen 1
  have y3 := HW.out.blk.frozen 3
  have y4 := HW.out.blk.frozen 4
  simp only [List.getElem?_toArray, List.getElem?_cons_succ, List.getElem?_cons_zero] at e0 e4 e5 q0 q1 q3 q4
  have z1 := HW.out.blk.lt
  have z2 := HW.out.ib.lt
  rcases known_cases HK.out with h | h | h | h | h | h | h | h | h | h | ⟨h1, h2⟩ | ⟨h1, h2⟩
  · subst h
    go_wp2
    go_ret
    refine ⟨_, rfl, fun _ => ?_, ⟨vo, HW.out.plain hl hcm (by decide) (by decide) (by decide) (by decide) (by decide)⟩, HW.out.kp⟩
    rfl
  · subst h
    go_wp2
    go_ret
    refine ⟨_, rfl, fun _ => ?_, ⟨vo, HW.out.plain hl hcm (by decide) (by decide) (by decide) (by decide) (by decide)⟩, HW.out.kp⟩
    rfl
  · subst h
    cases ins with
    | nil =>
      go_wp2
      go_ret
      refine ⟨_, rfl, fun _ => rfl, ⟨vo, ⟨HW.out.ow, A, c, HW.out.blk, hl, hcm, HW.out.rd⟩⟩, HW.out.kp⟩
    | cons x rest =>
      obtain ⟨b3, o3, rfl, hR3, hcell⟩ := HW.out.rd.2 (by simp)
      have s0 := hcell 0 (.int .u32 x) rfl
      rw [Nat.add_zero] at s0
      have hb3 := cell_lt s0
      have hx := HI.out x (by simp)
      obtain ⟨x0, x1⟩ := hx
      have hcut := Lib.hid (cut_reads HW.out.rd hl)
      simp only [List.length_cons] at *
      have hsl : ∀ w', (Instr.slice 28 (.slice (some ⟨b3, o3, none⟩) (rest.length + 1) c) (some (.int .i64 1)) none none).run Try.prog w' = .ok (.slice (cutA b3 o3 c) rest.length (c - 1)) w' := by
        intro w'
        unfold maxLen at hcm
        go_simp
        rw [if_pos (by omega)]
        unfold cutA
        by_cases hc1 : c = 1
        · rw [if_pos hc1, if_pos hc1]
        · rw [if_neg hc1, if_neg hc1]
      clear hcell
      go_wp2
      go_ret
      obtain ⟨s1, s2, s3, s4⟩ := HW.out.st hg 4 (.slice (cutA b3 o3 c) rest.length (c - 1))
      refine ⟨_, rfl, fun _ => rfl, ⟨vo, ⟨s2, cutA b3 o3 c, c - 1, s1, by show rest.length ≤ c - 1; omega, by omega, hcut.out.kept ((Kept.refl (fun k => k = g) W).setCell (p := ⟨g, 4, none⟩) (fun _ => rfl) _) (fun k hk e => by omega)⟩⟩, s4⟩
  · subst h
    have hne := own_blk_ne HW.out.ow HW.out.blk (by decide)
    go_wp2_with (at_builtin
                 refine wpList_app (base := B) _ rfl slU32 (.tmp 72) (.tmp 75) rfl vo _ _ rfl (World.ownsRow.alloc HW.out.ow _) (fun _ => True) _ 1 1 _ rfl (Reads.lit' (by simp) trivial rfl) ?_ ?_ ?_ ?_ ?_
                 · simp [Value.oneCell']
                 · simp only; omega
                 · unfold maxLen; simp only; omega
                 · simp; omega
                 intro v9 w9 hown9 hk9 hat9
                 obtain ⟨A9, c9, rfl, _, _⟩ := own_reads hown9
                 have hb9 := (HW.out.blk.alloc _).kept hk9 hne
                 have p1 := hb9.cell 1
                 have x1 := hb9.frozen 1
                 simp only [List.getElem?_toArray, List.getElem?_cons_succ, List.getElem?_cons_zero] at p1
                 have z9 := hb9.lt)
    have hK : Kept (fun k => k = g) w9 (w9.setCell ⟨g, 1, none⟩ (.slice A9 (out.length + 1) c9)) := (Kept.refl (fun k => k = g) w9).setCell (p := ⟨g, 1, none⟩) (fun _ => rfl) _
    have hx : u32s out ++ [Value.int .u32 (a % 4294967296)] = u32s (out ++ [a % 4294967296]) := by simp [u32s]
    go_ret
    refine ⟨_, rfl, fun h => by simp [gvs] at h, ⟨.slice A9 (out.length + 1) c9, ⟨?_, A, c, ?_, hl, hcm, ?_⟩⟩, ?_⟩
    · have := own_kept hown9 hK (fun k hk e => own_blk_ne hown9 hb9 (by decide) (e ▸ hk))
      rw [hx] at this
      simpa [rawStep] using this
    · have := hb9.set_ 1 (.slice A9 (out.length + 1) c9)
      simpa [rawStep, pcV] using this
    · have h2 := HW.out.rd.kept (((Kept.refl (fun k => vo.ownBlock = some k) W).alloc _).trans hk9) (fun k hk e => by have := (own_lt HW.out.ow e).1; omega)
      exact h2.kept hK (fun k hk e => by omega)
    · exact ((HW.out.kp.alloc _).trans (hk9.mono (fun i _ e => Or.inr e))).trans (hK.mono (fun i _ e => Or.inl e))
  · subst h
    obtain ⟨g1, g2⟩ := H5.out rfl
    go_wp2
    go_ret
    refine ⟨_, rfl, fun _ => ?_, ⟨vo, HW.out.plain hl hcm (by decide) (by decide) (by decide) (by decide) (by decide)⟩, HW.out.kp⟩
    exact or_u64 a b a0 g1 b0 g2
  · subst h
    go_wp2
    go_ret
    refine ⟨_, rfl, fun _ => ?_, ⟨vo, HW.out.plain hl hcm (by decide) (by decide) (by decide) (by decide) (by decide)⟩, HW.out.kp⟩
    exact and_u64 a a0 a1'
  · subst h
    go_wp2
    go_ret
    refine ⟨_, rfl, fun _ => ?_, ⟨vo, HW.out.plain hl hcm (by decide) (by decide) (by decide) (by decide) (by decide)⟩, HW.out.kp⟩
    rfl
  · subst h
    have hcc := HC.out (Or.inl rfl)
    obtain ⟨cn, rfl⟩ : ∃ cn : Nat, cc = (cn : Int) := ⟨cc.toNat, by omega⟩
    go_wp2
    go_ret
    obtain ⟨s1, s2, s3, s4⟩ := HW.out.st hg 3 (.int .i64 (cn : Int))
    refine ⟨_, rfl, fun h => by simp [gvs] at h, ⟨vo, ⟨s2, A, c, ?_, hl, hcm, s3⟩⟩, s4⟩
    simpa [rawStep, pcV] using s1
  · subst h
    have hcc := HC.out (Or.inr rfl)
    by_cases ha0 : a = 0
    · subst ha0
      go_wp2
      go_ret
      refine ⟨_, rfl, fun h => by simp [gvs] at h, ⟨vo, ⟨HW.out.ow, A, c, HW.out.blk, hl, hcm, HW.out.rd⟩⟩, HW.out.kp⟩
    · have hne : (a != 0) = true := by simpa using ha0
      have HA0 := Lib.hid ha0
      clear ha0
      obtain ⟨cn, rfl⟩ : ∃ cn : Nat, cc = (cn : Int) := ⟨cc.toNat, by omega⟩
      go_wp2
      go_ret
      obtain ⟨s1, s2, s3, s4⟩ := HW.out.st hg 3 (.int .i64 (cn : Int))
      refine ⟨_, rfl, fun h => by simp [gvs] at h, ⟨vo, ⟨s2, A, c, ?_, hl, hcm, s3⟩⟩, s4⟩
      simpa [rawStep, pcV, HA0.out] using s1
  · subst h
    go_wp2
    go_ret
    obtain ⟨s1, s2, s3, s4⟩ := HW.out.st hg 0 (.int .i64 1)
    refine ⟨_, rfl, fun h => by simp [gvs] at h, ⟨vo, ⟨s2, A, c, ?_, hl, hcm, s3⟩⟩, s4⟩
    simpa [rawStep, pcV] using s1
  · have e : ∀ k : Int, k ≤ 20 → (op == k) = false := fun k hk => by rw [beq_eq_false_iff_ne]; omega
    have e1 := e 1 (by omega)
    have e2 := e 2 (by omega)
    have e3 := e 3 (by omega)
    have e4' := e 4 (by omega)
    have e5' := e 5 (by omega)
    have e6 := e 6 (by omega)
    have e7 := e 7 (by omega)
    have e8 := e 8 (by omega)
    have e9 := e 9 (by omega)
    have e10 := e 10 (by omega)
    clear e
    have HNr := Lib.hid (fun w => Narrow_any (op - 20) (a % 4294967296) (b % 4294967296) (by omega) (by omega) (by omega) (by omega) w)
    go_wp2_with (go_at_call 41; refine (HNr.out _).mono ?_; rintro e w' ⟨rfl, rfl⟩)
    go_ret
    refine ⟨_, rfl, fun _ => ?_, ⟨vo, HW.out.plain hl hcm (by omega) (by omega) (by omega) (by omega) (by omega)⟩, HW.out.kp⟩
    have hnr := narrowOp_range (op - 20) (a % 4294967296) (b % 4294967296) (by omega) (by omega)
    rw [IntKind.wrap_u64, Int.emod_eq_of_lt (by omega) (by omega)]
    unfold giveV
    simp only
    rw [if_neg (by omega), if_neg (by omega), if_neg (by omega), if_neg (by omega), if_neg (by omega), if_neg (by omega), if_neg (by omega)]
  · have e : ∀ k : Int, k ≤ 40 → (op == k) = false := fun k hk => by rw [beq_eq_false_iff_ne]; omega
    have e1 := e 1 (by omega)
    have e2 := e 2 (by omega)
    have e3 := e 3 (by omega)
    have e4' := e 4 (by omega)
    have e5' := e 5 (by omega)
    have e6 := e 6 (by omega)
    have e7 := e 7 (by omega)
    have e8 := e 8 (by omega)
    have e9 := e 9 (by omega)
    have e10 := e 10 (by omega)
    clear e
    have HNr := Lib.hid (fun w => Wide_any (op - 40) a b (by omega) (by omega) (by omega) (by omega) w)
    go_wp2_with (go_at_call 40; refine (HNr.out _).mono ?_; rintro e w' ⟨rfl, rfl⟩)
    go_ret
    refine ⟨_, rfl, fun _ => ?_, ⟨vo, HW.out.plain hl hcm (by omega) (by omega) (by omega) (by omega) (by omega)⟩, HW.out.kp⟩
    unfold giveV
    simp only
    rw [if_neg (by omega), if_neg (by omega), if_neg (by omega), if_neg (by omega), if_neg (by omega), if_neg (by omega), if_pos h1]
end Go.Proofs.Ytodmkjeankbieac

/- The walk of Machine.Go: over whatever does an instruction. -/
namespace Go.Proofs.Ytodmkjeankbieac
open Go.RowKit Go.Sort

theorem Mc.ended {w : World} {g B : Nat} {r : Sh} {vo : Value} (h : Mc w g B r vo) (hg : B ≤ g) : Mc (w.setCell ⟨g, 0, none⟩ (.int .i64 2)) g B ⟨r.pc, r.ins, r.out, r.steps, 2⟩ vo := by
  obtain ⟨how, A, c, hb, h1, h2, hr⟩ := h
  have hK : Kept (fun k => k = g) w (w.setCell ⟨g, 0, none⟩ (.int .i64 2)) := (Kept.refl (fun k => k = g) w).setCell (p := ⟨g, 0, none⟩) (fun _ => rfl) _
  exact ⟨own_kept how hK (fun k hk e => own_blk_ne how hb (by decide) (e ▸ hk)), A, c, hb.set_ 0 (.int .i64 2), h1, h2, hr.kept hK (fun b hb e => by omega)⟩

/-- how a loop of at most n steps leaves the machine -/
def GoPost {σ : Type} (g B n : Nat) (code : List In) (M : Mach σ) (x0 : Sh × σ) (I : World → Sh × σ → Prop) (w' : World) : Prop :=
  ∃ (w1 : World) (vo : Value), I w1 (mRun code M n x0) ∧ Mc w' g B (mRun code M n x0).1 vo ∧ Kept (fun k => k = g) w1 w'
theorem GoPost.of {σ : Type} {g B n : Nat} {code : List In} {M : Mach σ} {x0 x : Sh × σ} {I : World → Sh × σ → Prop} {w1 w' : World} {vo : Value} (hi : I w1 x) (he : x = mRun code M n x0) (hm : Mc w' g B x.1 vo) (hk : Kept (fun k => k = g) w1 w') :
    GoPost g B n code M x0 I w' := by subst he; exact ⟨w1, vo, hi, hm, hk⟩

set_option maxHeartbeats 1000000 in
set_option maxRecDepth 100000 in
theorem Go_any {σ : Type} (f : Nat) (hf : ∀ args w, Sem.run Try.prog (callFunc f args) w = .ok (.enter f args) w) (cap : Array Value) (g B n c : Nat) (A : Option Addr) (code : List In) (M : Mach σ) (x0 : Sh × σ) (I : World → Sh × σ → Prop)
    (hI : ∀ w x, I w x → ∃ vo, Mc w g B (unF x.1) vo)
    (hstep : ∀ w x, I w x → At code M x0 n x → x.1.state = 0 → x.1.steps < n → Calls Try.prog f (#[.int .i64 (x.1.pc : Int)] ++ cap) w fun e w' => e = .returned (.tuple #[]) ∧ I w' (mStep code M x))
    (w : World) (hg : B ≤ g) (hc : code.length ≤ 1000) (hn : n ≤ 100000) (h0 : I w x0) (hat : At code M x0 n x0) :
    Calls Try.prog 16 #[.pointer (some ⟨g, 0, none⟩), .slice A code.length c, .int .i64 (n : Int), .func (.func f) #[] cap] w fun e w' =>
      e = .returned (.tuple #[]) ∧ GoPost g B n code M x0 I w' := by
  have HS := Lib.hid hstep
  have H0 := Lib.hid h0
  have HA := Lib.hid hat
  clear hstep h0 hat
  go_enter Try.func16, Try.ntmps16
  go_wp2
  go_loopw [] (fun wr => ∃ x, Hid (I wr x) ∧ Hid (At code M x0 n x)) (fun wr => n - (match wr.cell? ⟨g, 2, none⟩ with | some v => (intOf v).toNat | none => 0))
  case atStart => exact ⟨x0, H0.out, HA.out⟩
  case round =>
    obtain ⟨x, hi, ha⟩ := hrel
    obtain ⟨vo, hM⟩ := hI _ _ hi.out
    obtain ⟨how, Ai, ci, hB, hl, hcm, hr⟩ := id hM
    have q0 := hB.cell 0
    have q2 := hB.cell 2
    have q3 := hB.cell 3
    have z0 := hB.lt
    have y0 := hB.frozen 0
    have hle := ha.out.le
    simp only [List.getElem?_toArray, List.getElem?_cons_succ, List.getElem?_cons_zero] at q0 q2 q3
    have HM := Lib.hid hM
    clear hM how hB hl hcm hr
    have e2 : (unF x.1).steps = x.1.steps := rfl
    have e3 : (unF x.1).pc = x.1.pc := rfl
    rw [e2] at q2
    rw [e3] at q3
    by_cases hst : x.1.state = 0
    · have e0 : (unF x.1).state = 0 := by unfold unF; simp [hst]
      rw [e0] at q0
      have hpc := ha.out.st0 hst
      have hp0 : (x.1.pc : Int) < (code.length : Int) := by omega
      by_cases hs : x.1.steps < n
      · have hs0 : (x.1.steps : Int) < (n : Int) := by omega
        have HX := Lib.hid (HS.out wr x hi.out ha.out hst hs)
        have HA2 := Lib.hid (ha.out.step hst hs)
        have hq2 := q2
        go_wp2_with fail
        refine HX.out.mono ?_
        rintro e w1 ⟨rfl, h1⟩
        obtain ⟨vo1, hM1⟩ := hI _ _ h1
        obtain ⟨_, A1, c1, hB1, _⟩ := hM1
        have r2 := hB1.cell 2
        simp only [List.getElem?_toArray, List.getElem?_cons_succ, List.getElem?_cons_zero] at r2
        rw [show (unF (mStep code M x).1).steps = x.1.steps + 1 from rfl] at r2
        go_wp2
        go_roundw
        case rel => exact ⟨_, h1, HA2.out⟩
        case measure =>
          rw [q2, r2]
          simp [intOf]
          omega
      · have hs0 : ¬ (x.1.steps : Int) < (n : Int) := by omega
        have hE := Lib.hid (ha.out.stop (Or.inr hs))
        have hSame := Lib.hid (ha.out.same (Or.inr hpc))
        go_wp2
        go_end0
        refine ⟨rfl, GoPost.of hi.out hE.out (vo := vo) ?_ (Kept.refl _ _)⟩
        have := HM.out
        rwa [hSame.out] at this
    · have hE := Lib.hid (ha.out.stop (Or.inl hst))
      by_cases h1 : x.1.state = 1
      · have e0 : (unF x.1).state = 1 := by unfold unF; simp [h1]
        have hSame := Lib.hid (ha.out.same (Or.inl (by rw [e0]; decide)))
        rw [e0] at q0
        go_wp2
        go_end0
        refine ⟨rfl, GoPost.of hi.out hE.out (vo := vo) ?_ (Kept.refl _ _)⟩
        have := HM.out
        rwa [hSame.out] at this
      · have h2 : x.1.state = 2 := by have := ha.out.st; omega
        have e0 : (unF x.1).state = 0 := by unfold unF; simp [h2]
        have hpc := ha.out.st2 h2
        have hp0 : ¬ (x.1.pc : Int) < (code.length : Int) := by omega
        have hEnd := Lib.hid (ha.out.ended e0 hpc)
        rw [e0] at q0
        go_wp2
        go_end0
        refine ⟨rfl, GoPost.of hi.out hE.out (vo := vo) ?_ ((Kept.refl (fun k => k = g) wr).setCell (p := ⟨g, 0, none⟩) (fun _ => rfl) _)⟩
        rw [hEnd.out]
        exact HM.out.ended hg
end Go.Proofs.Ytodmkjeankbieac

/- The walks of the reference of chapter 2: Gives, Many, Uses, known, widths, ins, May. -/
namespace Go.Proofs.Ytodmkjeankbieac
open Go.RowKit Go.Sort

theorem many_0 {op : Int} (h : op = 1 ∨ op = 3 ∨ op = 8 ∨ op = 10) : many op = 0 := by unfold many; rw [if_pos h]
theorem many_1 {op : Int} (h : op = 2 ∨ op = 4 ∨ op = 6 ∨ op = 7 ∨ op = 9) : many op = 1 := by unfold many; rw [if_neg (by omega), if_pos h]
theorem many_2 {op : Int} (h : ¬ (op = 1 ∨ op = 3 ∨ op = 8 ∨ op = 10)) (h' : ¬ (op = 2 ∨ op = 4 ∨ op = 6 ∨ op = 7 ∨ op = 9)) : many op = 2 := by unfold many; rw [if_neg h, if_neg h']
theorem many_le (op : Int) : many op ≤ 2 := by unfold many; split <;> (try split) <;> omega
theorem slBool : SlTy Try.prog 22 4 1 1 := SlTy.mk' (z := .bool false) Try.underlying22 (by kernel_rfl) rfl (by decide)

def tempIn' (p : Pg) (t : Int) : Prop := 0 ≤ t ∧ t < p.wide.length
theorem step_app {P : Program} {w : World} {ops : Array Oper} {o : Oper} {a : Act} {K : Act → World → Prop} {Q : Exit → Act → World → Prop} {E : Prop} (hgd : o.guard = none) {base : Nat} {t e : TypeId} {size bytes : Nat} (hT : SlTy P t e size bytes) (s x : Operand)
    (ho : o.op = .call { callee := .builtin .append, args := #[s, x], argTypes := #[t, t] })
    (v : Value) (n : Nat) (xs : List Value) (hs : a.eval s = v) (hown : w.ownsRow base e size v n xs)
    (R : Nat → Prop) (A : Option Addr) (m c : Nat) (news : List Value) (hx : a.eval x = .slice A m c) (hr : Reads w R size A m news) (h1 : ∀ u ∈ news, u.oneCell' = true)
    (hbytes : (n + m) * bytes ≤ 140737488355328) (h63 : n + m ≤ maxLen) (hbase : base ≤ w.heap.size)
    (h : ∀ v' w', w'.ownsRow base e size v' (n + m) (xs ++ news) → Kept (fun k => v.ownBlock = some k) w w' → (v'.ownBlock = v.ownBlock ∨ v'.ownBlock = some w.heap.size) → K (a.put o.dst v') w') :
    if Region.wanted o (yielded ops a.tmps) = true then Oper.wp P o a w K Q else E := by
  have hw : Region.wanted o (yielded ops a.tmps) = true := by simp [Region.wanted, hgd]
  rw [if_pos hw]
  exact wp_app w hT s x ho v n xs hs hown R A m c news hx hr h1 hbytes h63 hbase h

/-- a row of truths that the call itself has made -/
def BoOwn (w : World) (base : Nat) (v : Value) (l : List Bool) : Prop := w.ownsRow base 4 1 v l.length (l.map Value.bool)
theorem BoOwn.nil (w : World) (base : Nat) : BoOwn w base (.slice none 0 0) [] := ⟨rfl, Or.inl ⟨rfl, rfl⟩⟩
theorem BoOwn.one {w : World} {base : Nat} {v : Value} {x : Bool} (h : w.ownsRow base 4 1 v (0 + 1) ([] ++ #[Value.bool x].toList)) : BoOwn w base v [x] := h
theorem BoOwn.snoc {w : World} {base : Nat} {v : Value} {l : List Bool} {x : Bool} (h : w.ownsRow base 4 1 v (l.length + 1) (l.map Value.bool ++ #[Value.bool x].toList)) : BoOwn w base v (l ++ [x]) := by
  unfold BoOwn; rw [List.length_append, List.map_append]; exact h

/-- the kinds so far -/
def kindTo (p : Pg) (op d a b : Int) (k : Nat) (l : List Bool) : Prop := l = (if gvs op then [wd p.wide d] else []) ++ (([a, b].take (many op)).take k).map (wd p.wide)
theorem kindTo_0 {p : Pg} {op d a b : Int} {l : List Bool} (h : l = if gvs op then [wd p.wide d] else []) : kindTo p op d a b 0 l := by unfold kindTo; simp [h]
theorem kindTo_len {p : Pg} {op d a b : Int} {k : Nat} {l : List Bool} (h : kindTo p op d a b k l) : l.length ≤ 3 := by
  rw [h]; split <;> simp <;> omega
theorem kindTo_s {p : Pg} {op d a b : Int} {k : Nat} {l : List Bool} {t : Int} {x : Bool} (h : kindTo p op d a b k l) (ht : ([a, b].take (many op))[k]? = some t) (hx : wd p.wide t = x) : kindTo p op d a b (k + 1) (l ++ [x]) := by
  unfold kindTo at *
  rw [List.take_add_one, ht, h, ← hx]
  simp [List.append_assoc]
theorem kindTo_all {p : Pg} {i : In} {l : List Bool} (h : kindTo p i.op i.d i.a i.b (many i.op) l) : kinds p i = l := by
  rw [h]; unfold kinds uses
  rw [List.take_of_length_le (l := [i.a, i.b].take (many i.op)) (by simp; omega)]

theorem InsMem.start (w : World) (vw vc : Value) (op d a b c : Int) (n : Nat) :
    InsMem w ((w.alloc (.cells #[vw, vc] 25)).alloc (.cells #[.int .i64 op, .int .i64 d, .int .i64 a, .int .i64 b, .int .i64 c, .int .u32 n] 66)) vw vc ⟨op, d, a, b, c, n⟩ := by
  refine ⟨(Blk.new w _ _).alloc _, ?_, ((Kept.refl _ w).alloc _).alloc _⟩
  have := Blk.new (w.alloc (.cells #[vw, vc] 25)) 66 #[.int .i64 op, .int .i64 d, .int .i64 a, .int .i64 b, .int .i64 c, .int .u32 n]
  simpa using this
theorem InsMem.app {w wr w2 : World} {vw vc v : Value} {i : In} {l : List Bool} (h : InsMem w wr vw vc i) (ho : BoOwn wr w.heap.size v l) (hk : Kept (fun k => v.ownBlock = some k) wr w2) : InsMem w w2 vw vc i :=
  ⟨h.bp.kept hk (own_blk_ne ho h.bp (by decide)), h.bi.kept hk (own_blk_ne ho h.bi (by decide)), h.fr.app ho hk⟩
theorem InsMem.alloc {w wr : World} {vw vc : Value} {i : In} (h : InsMem w wr vw vc i) (o : Obj) : InsMem w (wr.alloc o) vw vc i := ⟨h.bp.alloc o, h.bi.alloc o, h.fr.alloc o⟩
theorem InsMem.cp {w wr : World} {vw vc : Value} {i : In} (h : InsMem w wr vw vc i) : wr.cell? ⟨w.heap.size, 0, none⟩ = some vw ∧ wr.cell? ⟨w.heap.size, 1, none⟩ = some vc := by
  have c0 := h.bp.cell 0
  have c1 := h.bp.cell 1
  simp only [List.getElem?_toArray, List.getElem?_cons_succ, List.getElem?_cons_zero] at c0 c1
  exact ⟨c0, c1⟩
theorem InsMem.ci {w wr : World} {vw vc : Value} {op d a b c : Int} {n : Nat} (h : InsMem w wr vw vc ⟨op, d, a, b, c, n⟩) : wr.cell? ⟨w.heap.size + 1, 0, none⟩ = some (.int .i64 op) ∧ wr.cell? ⟨w.heap.size + 1, 1, none⟩ = some (.int .i64 d) ∧
    wr.cell? ⟨w.heap.size + 1, 2, none⟩ = some (.int .i64 a) ∧ wr.cell? ⟨w.heap.size + 1, 3, none⟩ = some (.int .i64 b) ∧ wr.cell? ⟨w.heap.size + 1, 4, none⟩ = some (.int .i64 c) ∧ wr.cell? ⟨w.heap.size + 1, 5, none⟩ = some (.int .u32 n) := by
  have c0 := h.bi.cell 0
  have c1 := h.bi.cell 1
  have c2 := h.bi.cell 2
  have c3 := h.bi.cell 3
  have c4 := h.bi.cell 4
  have c5 := h.bi.cell 5
  simp only [List.getElem?_toArray, List.getElem?_cons_succ, List.getElem?_cons_zero] at c0 c1 c2 c3 c4 c5
  exact ⟨c0, c1, c2, c3, c4, c5⟩
theorem kt2 {p : Pg} {d a b : Int} {L : List Bool} (h : kindTo p 2 d a b (many 2) L) : L = [wd p.wide d, wd p.wide a] := by rw [h]; rfl
theorem kt5 {p : Pg} {d a b : Int} {L : List Bool} (h : kindTo p 5 d a b (many 5) L) : L = [wd p.wide d, wd p.wide a, wd p.wide b] := by rw [h]; rfl
theorem kt6 {p : Pg} {d a b : Int} {L : List Bool} (h : kindTo p 6 d a b (many 6) L) : L = [wd p.wide d, wd p.wide a] := by rw [h]; rfl
theorem kt7 {p : Pg} {d a b : Int} {L : List Bool} (h : kindTo p 7 d a b (many 7) L) : L = [wd p.wide d, wd p.wide a] := by rw [h]; rfl
theorem BoOwn.cells {w : World} {base : Nat} {v : Value} {l : List Bool} (h : BoOwn w base v l) (h0 : 0 < l.length) : ∃ b off c, v = .slice (some ⟨b, off, none⟩) l.length c ∧ b < w.heap.size ∧ ∀ k x, l[k]? = some x → w.cell? ⟨b, off + k, none⟩ = some (.bool x) := by
  obtain ⟨A, c, hv, _, hr⟩ := own_reads h
  obtain ⟨b, off, rfl, hb, hc⟩ := hr.2 h0
  have h1 := hc 0 (.bool l[0]) (by simp)
  exact ⟨b, off, c, hv, cell_lt h1, fun k x hx => hc k (.bool x) (by rw [List.getElem?_map, hx]; rfl)⟩
theorem BoOwn.val {w : World} {base : Nat} {v : Value} {l : List Bool} (h : BoOwn w base v l) : ∃ A c, v = .slice A l.length c := by
  obtain ⟨A, c, hv, _⟩ := own_reads h
  exact ⟨A, c, hv⟩
def allW (L : List Bool) (x : Bool) (k : Nat) : Prop := (L.take k).all (fun y => y == x) = true
theorem allW_s {L : List Bool} {x y : Bool} {k : Nat} (h : allW L x k) (hy : L[k]? = some y) (hxy : y = x) : allW L x (k + 1) := by
  unfold allW at *
  rw [List.take_add_one, List.all_append, h, hy, hxy]; simp
theorem wid2 {p : Pg} {d a b c : Int} {n : Nat} {x y : Bool} (h : kinds p ⟨2, d, a, b, c, n⟩ = [x, y]) : widthsR p ⟨2, d, a, b, c, n⟩ = (x == y) := by
  unfold widthsR; rw [h]; rfl
theorem wid5 {p : Pg} {d a b c : Int} {n : Nat} {x y z : Bool} (h : kinds p ⟨5, d, a, b, c, n⟩ = [x, y, z]) : widthsR p ⟨5, d, a, b, c, n⟩ = (x && !y && !z) := by
  unfold widthsR; rw [h]; rfl
theorem wid6 {p : Pg} {d a b c : Int} {n : Nat} {x y : Bool} (h : kinds p ⟨6, d, a, b, c, n⟩ = [x, y]) : widthsR p ⟨6, d, a, b, c, n⟩ = (!x && y) := by
  unfold widthsR; rw [h]; rfl
theorem wid7 {p : Pg} {d a b c : Int} {n : Nat} {x y : Bool} (h : kinds p ⟨7, d, a, b, c, n⟩ = [x, y]) : widthsR p ⟨7, d, a, b, c, n⟩ = (!x && y) := by
  unfold widthsR; rw [h]; rfl
theorem widE {p : Pg} {i : In} {L : List Bool} (h : kinds p i = L) (h2 : (i.op == 2) = false) (h5 : (i.op == 5) = false) (h6 : (i.op == 6) = false) (h7 : (i.op == 7) = false) : widthsR p i = L.all fun y => y == decide (40 < i.op) := by
  rw [beq_eq_false_iff_ne] at h2 h5 h6 h7
  unfold widthsR; rw [if_neg h2, if_neg h5, if_neg (by omega), h]
theorem app_cell {wr w1 : World} {o : Obj} {v x : Value} {b j : Nat} (hc : wr.cell? ⟨b, j, none⟩ = some x) (hk : Kept (fun k => v.ownBlock = some k) (wr.alloc o).drew w1) (hne : v.ownBlock ≠ some b) : w1.cell? ⟨b, j, none⟩ = some x := by
  have hb := cell_lt hc
  have h1 : (wr.alloc o).cell? ⟨b, j, none⟩ = some x := (((Kept.refl (fun _ => False) wr).alloc o).cell (p := ⟨b, j, none⟩) hb (fun h => h)).trans hc
  exact (hk.cell (p := ⟨b, j, none⟩) (cell_lt h1) hne).trans h1
theorem own_ne_old {w : World} {base b : Nat} {e : TypeId} {size n : Nat} {v : Value} {xs : List Value} (h : w.ownsRow base e size v n xs) (hb : b < base) : v.ownBlock ≠ some b := fun he => by
  have := (own_lt h he).1; omega
theorem InsMem.drew {w wr : World} {vw vc : Value} {i : In} (h : InsMem w wr vw vc i) : InsMem w wr.drew vw vc i := ⟨h.bp, h.bi, h.fr.drew⟩
structure WiMem (w wr : World) (vw vc : Value) (i : In) (g : Nat) (v : Value) (l : List Bool) : Prop where
  im : InsMem w wr vw vc i
  us : Blk wr g 3 #[.int .i64 i.a, .int .i64 i.b]
  ow : BoOwn wr w.heap.size v l
theorem use_cell {w : World} {g k : Nat} {op a b t : Int} (h : Blk w g 3 #[.int .i64 a, .int .i64 b]) (ht : ([a, b].take (many op))[k]? = some t) : w.cell? ⟨g, k, none⟩ = some (.int .i64 t) := by
  rw [h.cell]
  have hk : [a, b][k]? = some t := by
    rw [List.getElem?_take] at ht
    split at ht
    · exact ht
    · cases ht
  match k, hk with
  | 0, hk => simp at hk; subst hk; rfl
  | 1, hk => simp at hk; subst hk; rfl
theorem use_in {p : Pg} {k : Nat} {op a b t : Int} (ha : 0 < many op → tempIn' p a) (hb : 1 < many op → tempIn' p b) (ht : ([a, b].take (many op))[k]? = some t) : tempIn' p t := by
  rw [List.getElem?_take] at ht
  split at ht
  · match k, ht with
    | 0, ht => simp at ht; subst ht; exact ha (by omega)
    | 1, ht => simp at ht; subst ht; exact hb (by omega)
  · cases ht
theorem use_some {k : Nat} {op a b : Int} (hk : k < many op) : ∃ t, ([a, b].take (many op))[k]? = some t := by
  have := many_le op
  exact ⟨_, List.getElem?_eq_getElem (by simp; omega)⟩
theorem pg_at {w : World} {R : Nat → Prop} {A : Option Addr} {c : Nat} {vc : Value} {p : Pg} (h : RdPg w R (.agg #[.slice A p.wide.length c, vc]) p) {t : Int} (ht : tempIn' p t) :
    ∃ b off x, A = some ⟨b, off, none⟩ ∧ w.cell? ⟨b, off + t.toNat, none⟩ = some (.bool x) ∧ wd p.wide t = x ∧ 0 ≤ t ∧ t < p.wide.length := by
  obtain ⟨t0, t1⟩ := ht
  obtain ⟨b, off, rfl, _, hcell⟩ := (pg_wide h).2 (by omega)
  have hx : p.wide[t.toNat]? = some p.wide[t.toNat] := List.getElem?_eq_getElem (by omega)
  exact ⟨b, off, _, rfl, hcell _ _ (by rw [List.getElem?_map, hx]; rfl), wd_get hx, t0, t1⟩
theorem InsMem.lt {w wr : World} {vw vc : Value} {i : In} (h : InsMem w wr vw vc i) : w.heap.size + 1 < wr.heap.size := h.bi.lt

end Go.Proofs.Ytodmkjeankbieac
