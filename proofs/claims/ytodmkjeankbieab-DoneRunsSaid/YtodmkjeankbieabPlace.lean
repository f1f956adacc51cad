/- The walks of package place: Target, is, move, moves. -/
import Derived.Test.YtodmkjeankbieabForm2
import Derived.Test.YtodmkjeankbieabPlacePlain
namespace Go.Proofs.Ytodmkjeankbieab
open Go.RowKit Go.Sort

def tgV (sg : Int) : Value := .agg #[.int .i64 sg]
/-- a move as a value -/
def Mv.value (m : Mv) : Value := .agg #[.int .i64 m.to.k, .int .i64 m.to.n, .int .i64 m.fr.k, .int .i64 m.fr.n, .bool m.c, .int .u32 m.n]

set_option maxHeartbeats 400000 in
theorem Target_any (sg : Int) (w : World) : Calls Try.prog 75 #[tgV sg] w fun e w' => e = .returned (.bool (tgB sg)) ∧ Fr w w' := by
  have HF := Lib.hid (show Fr w (w.alloc (.cells #[.int .i64 sg] 47)) from (Kept.refl _ w).alloc _)
  unfold tgV
  go_enter Try.func75, Try.ntmps75
  go_wp2
  all_goals go_ret
  all_goals refine ⟨ret_b ?_, HF.out⟩
  all_goals unfold tgB
  all_goals rw [Bool.eq_iff_iff]
  all_goals simp only [Bool.and_eq_true, decide_eq_true_eq, beq_iff_eq, Bool.false_eq_true, false_iff]
  all_goals omega

set_option maxHeartbeats 400000 in
theorem is_any (sg sl : Int) (a : PlaceV) (w : World) (h4 : 4 ≤ sg) (h16 : sg ≤ 16) : Calls Try.prog 112 #[tgV sg, .int .i64 sl, a.val] w fun e w' => e = .returned (.bool (isB sg sl a)) ∧ Fr w w' := by
  obtain ⟨k, n⟩ := a
  have HF := Lib.hid (show Fr w ((w.alloc (.cells #[.int .i64 sg] 47)).alloc (.cells #[.int .i64 k, .int .i64 n] 57)) from ((Kept.refl _ w).alloc _).alloc _)
  have hq : sg.tdiv 2 = sg / 2 := Int.tdiv_eq_ediv_of_nonneg (by omega)
  unfold tgV PlaceV.val
  simp only
  go_enter Try.func112, Try.ntmps112
  go_wp2
  all_goals go_ret
  all_goals refine ⟨ret_b ?_, HF.out⟩
  all_goals unfold isB
  all_goals rw [Bool.eq_iff_iff]
  all_goals simp only [beq_iff_eq, beq_eq_false_iff_ne] at *
  all_goals simp only [Bool.and_eq_true, decide_eq_true_eq, beq_iff_eq, Bool.false_eq_true, false_iff]
  all_goals (split <;> (try split) <;> (try split) <;> omega)

theorem mvB_c {sg sl : Int} {to fr : PlaceV} {n : Nat} : mvB sg sl ⟨to, fr, true, n⟩ = (isB sg sl to && (decide (fr = ⟨0, 0⟩) && decide (to.k = 1))) := rfl
theorem mvB_n {sg sl : Int} {to fr : PlaceV} {n : Nat} : mvB sg sl ⟨to, fr, false, n⟩ = (isB sg sl to && (decide (n = 0) && isB sg sl fr && (decide (to.k = fr.k) != (decide (to.k = 3) || decide (fr.k = 3))))) := rfl

set_option maxHeartbeats 1000000 in
set_option maxRecDepth 100000 in
theorem move_any (sg sl : Int) (m : Mv) (w : World) (h4 : 4 ≤ sg) (h16 : sg ≤ 16) : Calls Try.prog 132 #[tgV sg, .int .i64 sl, m.value] w fun e w' => e = .returned (.bool (mvB sg sl m)) ∧ Fr w w' := by
  obtain ⟨⟨tk, tn⟩, ⟨fk, fn⟩, c, n⟩ := m
  have HF0 := Lib.hid (show Fr w ((w.alloc (.cells #[.int .i64 sg] 47)).alloc (.cells #[.int .i64 tk, .int .i64 tn, .int .i64 fk, .int .i64 fn, .bool c, .int .u32 n] 74)) from ((Kept.refl _ w).alloc _).alloc _)
  have HB0 := Lib.hid ((Blk.new w 47 #[.int .i64 sg]).alloc (.cells #[.int .i64 tk, .int .i64 tn, .int .i64 fk, .int .i64 fn, .bool c, .int .u32 n] 74))
  have HB1 : Hid (Blk ((w.alloc (.cells #[.int .i64 sg] 47)).alloc (.cells #[.int .i64 tk, .int .i64 tn, .int .i64 fk, .int .i64 fn, .bool c, .int .u32 n] 74)) (w.heap.size + 1) 74 #[.int .i64 tk, .int .i64 tn, .int .i64 fk, .int .i64 fn, .bool c, .int .u32 n]) := by
    have := Blk.new (w.alloc (.cells #[.int .i64 sg] 47)) 74 #[.int .i64 tk, .int .i64 tn, .int .i64 fk, .int .i64 fn, .bool c, .int .u32 n]
    show Blk _ _ _ _
    simpa using this
  have HTo := Lib.hid (fun w => is_any sg sl ⟨tk, tn⟩ w h4 h16)
  have HFrm := Lib.hid (fun w => is_any sg sl ⟨fk, fn⟩ w h4 h16)
  unfold tgV PlaceV.val at HTo HFrm
  simp only at HTo HFrm
  unfold tgV Mv.value
  simp only
  go_enter Try.func132, Try.ntmps132
  go_wp2_with fail
  refine (HTo.out _).mono ?_
  rintro e w1 ⟨rfl, f1⟩
  have HF1 := Lib.hid (HF0.out.trans f1)
  have HB2 := Lib.hid (HB0.out.kept f1 (fun h => h))
  have HB3 := Lib.hid (HB1.out.kept f1 (fun h => h))
  have t0 := HB2.out.cell 0
  have m0 := HB3.out.cell 0
  have m2 := HB3.out.cell 2
  have m3 := HB3.out.cell 3
  have m4 := HB3.out.cell 4
  have m5 := HB3.out.cell 5
  have z0 := HB2.out.lt
  have z1 := HB3.out.lt
  simp only [List.getElem?_toArray, List.getElem?_cons_succ, List.getElem?_cons_zero] at t0 m0 m2 m3 m4 m5
  clear f1 HF0 HB0 HB1 HTo
  cases ht : isB sg sl ⟨tk, tn⟩ with
  | false =>
    have HV : Hid (mvB sg sl ⟨⟨tk, tn⟩, ⟨fk, fn⟩, c, n⟩ = false) := by
      show _ = _; unfold mvB; simp only; rw [ht]; rfl
    clear ht
    go_wp2
    go_ret
    exact ⟨ret_b HV.out.symm, HF1.out⟩
  | true =>
    cases c with
    | true =>
      have HV : Hid (mvB sg sl ⟨⟨tk, tn⟩, ⟨fk, fn⟩, true, n⟩ = (decide ((⟨fk, fn⟩ : PlaceV) = ⟨0, 0⟩) && decide (tk = 1))) := by
        show _ = _; rw [mvB_c, ht]; rfl
      clear ht
      go_wp2
      all_goals go_ret
      all_goals refine ⟨ret_b ?_, HF1.out⟩
      all_goals rw [HV.out, Bool.eq_iff_iff]
      all_goals simp only [Bool.and_eq_true, decide_eq_true_eq, beq_iff_eq, Bool.false_eq_true, false_iff, PlaceV.mk.injEq]
      all_goals omega
    | false =>
      have HV : Hid (mvB sg sl ⟨⟨tk, tn⟩, ⟨fk, fn⟩, false, n⟩ = (decide (n = 0) && isB sg sl ⟨fk, fn⟩ && (decide (tk = fk) != (decide (tk = 3) || decide (fk = 3))))) := by
        show _ = _; rw [mvB_n, ht]; rfl
      clear ht
      by_cases hn0 : n = 0
      · subst hn0
        go_wp2
        go_quiet (fail)
        go_wp2_with fail
        refine (HFrm.out _).mono ?_
        rintro e w2 ⟨rfl, f2⟩
        have HF2 := Lib.hid ((HF1.out.drewN nq).trans f2)
        clear f2
        cases hi : isB sg sl ⟨fk, fn⟩ with
        | false =>
          rw [hi] at HV
          clear hi
          go_wp2
          go_ret
          refine ⟨ret_b ?_, HF2.out⟩
          rw [HV.out]
          rfl
        | true =>
          rw [hi] at HV
          have HV2 : Hid (mvB sg sl ⟨⟨tk, tn⟩, ⟨fk, fn⟩, false, 0⟩ = ((tk == fk) != (decide (tk = 3) || decide (fk = 3)))) := by
            show _ = _
            rw [HV.out, show decide (tk = fk) = (tk == fk) from by rw [Bool.eq_iff_iff]; simp]
            rfl
          clear hi HV
          go_wp2
          all_goals go_ret
          all_goals refine ⟨ret_b ?_, HF2.out⟩
          all_goals rw [HV2.out]
          · rename_i h3
            subst h3
            simp [bne]
          · rename_i h3
            have e3 : decide (tk = 3) = (tk == 3) := by rw [Bool.eq_iff_iff]; simp
            have e4 : decide (fk = 3) = (fk == 3) := by rw [Bool.eq_iff_iff]; simp
            rw [e3, e4]
            rfl
      · have hn1 : ((n : Int) == 0) = false := by simpa using hn0
        go_wp2
        go_quiet (fail)
        go_wp2_with fail
        go_ret
        refine ⟨ret_b ?_, HF1.out.drewN nq⟩
        rw [HV.out, decide_eq_false hn0]
        rfl
end Go.Proofs.Ytodmkjeankbieab
