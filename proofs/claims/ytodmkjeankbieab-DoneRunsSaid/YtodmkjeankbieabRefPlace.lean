/- The walks of the reference of chapter 6: half, near, Overlap, Target, Is, move, moves, register. -/
import Derived.Test.YtodmkjeankbieabPlace
import Derived.Test.YtodmkjeankbieabInsPlain
namespace Go.Proofs.Ytodmkjeankbieab
open Go.RowKit Go.Sort

set_option maxHeartbeats 400000 in
theorem refNear6_any (n : Int) (w : World) : Calls Try.prog 73 #[.int .i64 n] w fun e w' => e = .returned (.bool (decide (-4611686018427387904 ≤ n ∧ n ≤ 4611686018427387903))) ∧ w = w' := by
  go_enter Try.func73, Try.ntmps73
  go_wp2
  all_goals go_ret
  all_goals refine ⟨ret_b ?_, rfl⟩
  all_goals rw [Bool.eq_iff_iff]
  all_goals simp only [Bool.and_eq_true, Bool.or_eq_true, decide_eq_true_eq, beq_iff_eq, Bool.false_eq_true, false_iff, true_iff]
  all_goals omega
set_option maxHeartbeats 400000 in
theorem refHalf_any (a b : Int) (w : World) (hb : -4611686018427387904 ≤ b ∧ b ≤ 4611686018427387903) : Calls Try.prog 74 #[.int .i64 a, .int .i64 b] w fun e w' => e = .returned (.bool (decide (a / 2 = b))) ∧ w = w' := by
  obtain ⟨h0, h1⟩ := hb
  go_enter Try.func74, Try.ntmps74
  go_wp2
  all_goals go_ret
  all_goals refine ⟨ret_b ?_, rfl⟩
  all_goals rw [Bool.eq_iff_iff]
  all_goals simp only [Bool.and_eq_true, Bool.or_eq_true, decide_eq_true_eq, beq_iff_eq, Bool.false_eq_true, false_iff, true_iff]
  all_goals omega

set_option maxHeartbeats 1000000 in
set_option maxRecDepth 100000 in
theorem refOverlap_any (a b : PlaceV) (w : World) (ha : a.ok) (hb : b.ok) : Calls Try.prog 32 #[a.val, b.val] w fun e w' => e = .returned (.bool (ovP a b)) ∧ Fr w w' := by
  obtain ⟨ak, an⟩ := a
  obtain ⟨bk, bn⟩ := b
  have HF := Lib.hid (show Fr w ((w.alloc (.cells #[.int .i64 ak, .int .i64 an] 57)).alloc (.cells #[.int .i64 bk, .int .i64 bn] 57)) from ((Kept.refl _ w).alloc _).alloc _)
  obtain ⟨_, ⟨ha0, ha1⟩⟩ := ha
  obtain ⟨_, ⟨hb0, hb1⟩⟩ := hb
  simp only at ha0 ha1 hb0 hb1
  have HNA := Lib.hid (fun w => refNear6_any an w)
  have HNB := Lib.hid (fun w => refNear6_any bn w)
  unfold PlaceV.val
  simp only
  by_cases hk : ak = bk
  · subst hk
    have HV : Hid (ovP ⟨ak, an⟩ ⟨ak, bn⟩ = (an == bn)) := by
      show _ = _; unfold ovP; simp only; rw [if_neg (by omega), if_neg (by omega), Bool.eq_iff_iff]; simp
    go_enter Try.func32, Try.ntmps32
    go_wp2
    go_ret
    exact ⟨ret_b HV.out.symm, HF.out⟩
  · by_cases h12 : ak = 1 ∧ bk = 2
    · obtain ⟨rfl, rfl⟩ := h12
      have HV : Hid (ovP ⟨1, an⟩ ⟨2, bn⟩ = decide (an / 2 = bn)) := by
        show _ = _; rw [Bool.eq_iff_iff]; simp [ovP]
      by_cases hn : -4611686018427387904 ≤ bn ∧ bn ≤ 4611686018427387903
      · have HH := Lib.hid (fun w => refHalf_any an bn w hn)
        rw [decide_eq_true hn] at HNB
        clear hk hn
        go_enter Try.func32, Try.ntmps32
        go_wp2_with fail
        refine (HNB.out _).mono ?_
        rintro e w1 ⟨rfl, rfl⟩
        go_wp2_with fail
        refine (HH.out _).mono ?_
        rintro e w1 ⟨rfl, rfl⟩
        go_wp2
        go_ret
        exact ⟨ret_b HV.out.symm, HF.out⟩
      · have HV2 : Hid (ovP ⟨1, an⟩ ⟨2, bn⟩ = false) := by show _ = _; rw [HV.out]; exact decide_eq_false (by omega)
        rw [decide_eq_false hn] at HNB
        clear hk hn HV
        go_enter Try.func32, Try.ntmps32
        go_wp2_with fail
        refine (HNB.out _).mono ?_
        rintro e w1 ⟨rfl, rfl⟩
        go_wp2
        go_ret
        exact ⟨ret_b HV2.out.symm, HF.out⟩
    · by_cases h21 : ak = 2 ∧ bk = 1
      · obtain ⟨rfl, rfl⟩ := h21
        have HV : Hid (ovP ⟨2, an⟩ ⟨1, bn⟩ = decide (bn / 2 = an)) := by
          show _ = _; rw [Bool.eq_iff_iff]; simp [ovP]
        by_cases hn : -4611686018427387904 ≤ an ∧ an ≤ 4611686018427387903
        · have HH := Lib.hid (fun w => refHalf_any bn an w hn)
          rw [decide_eq_true hn] at HNA
          clear hk hn h12
          go_enter Try.func32, Try.ntmps32
          go_wp2_with fail
          refine (HNA.out _).mono ?_
          rintro e w1 ⟨rfl, rfl⟩
          go_wp2_with fail
          refine (HH.out _).mono ?_
          rintro e w1 ⟨rfl, rfl⟩
          go_wp2
          go_ret
          exact ⟨ret_b HV.out.symm, HF.out⟩
        · have HV2 : Hid (ovP ⟨2, an⟩ ⟨1, bn⟩ = false) := by show _ = _; rw [HV.out]; exact decide_eq_false (by omega)
          rw [decide_eq_false hn] at HNA
          clear hk hn HV h12
          go_enter Try.func32, Try.ntmps32
          go_wp2_with fail
          refine (HNA.out _).mono ?_
          rintro e w1 ⟨rfl, rfl⟩
          go_wp2
          go_ret
          exact ⟨ret_b HV2.out.symm, HF.out⟩
      · have HV : Hid (ovP ⟨ak, an⟩ ⟨bk, bn⟩ = false) := by
          show _ = _; unfold ovP; simp only; rw [if_neg h21, if_neg h12]; exact decide_eq_false (by omega)
        have ek : (ak == bk) = false := by simpa using hk
        rcases (by omega : (ak = 1 ∧ bk ≠ 2) ∨ (ak = 2 ∧ bk ≠ 1) ∨ (ak ≠ 1 ∧ ak ≠ 2)) with ⟨rfl, e2⟩ | ⟨rfl, e2⟩ | ⟨e1, e2⟩
        · have e2' : (bk == 2) = false := by simpa using e2
          clear hk h12 h21 e2
          go_enter Try.func32, Try.ntmps32
          go_wp2
          go_ret
          exact ⟨ret_b HV.out.symm, HF.out⟩
        · have e2' : (bk == 1) = false := by simpa using e2
          clear hk h12 h21 e2
          go_enter Try.func32, Try.ntmps32
          go_wp2
          go_ret
          exact ⟨ret_b HV.out.symm, HF.out⟩
        · have e1' : (ak == 1) = false := by simpa using e1
          have e2' : (ak == 2) = false := by simpa using e2
          clear hk h12 h21 e1 e2
          go_enter Try.func32, Try.ntmps32
          go_wp2
          go_ret
          exact ⟨ret_b HV.out.symm, HF.out⟩

/-- the numbers that a target may have, so far -/
def tgAt (sg n : Int) : Prop := 4 ≤ n ∧ n ≤ 18 ∧ n % 2 = 0 ∧ ∀ m, 4 ≤ m → m < n → m % 2 = 0 → sg ≠ m
set_option maxHeartbeats 400000 in
theorem refTarget_any (sg : Int) (w : World) : Calls Try.prog 34 #[tgV sg] w fun e w' => e = .returned (.bool (tgB sg)) ∧ Fr w w' := by
  have HF := Lib.hid (show Fr w (w.alloc (.cells #[.int .i64 sg] 47)) from (Kept.refl _ w).alloc _)
  have HB := Lib.hid (Blk.new w 47 #[.int .i64 sg])
  unfold tgV
  go_enter Try.func34, Try.ntmps34
  go_wp2
  go_loopw [3] (fun i wr => ∃ n : Int, i = .int .i64 n ∧ Hid (tgAt sg n) ∧ Hid (Blk wr w.heap.size 47 #[.int .i64 sg]) ∧ Hid (Fr w wr)) (fun i _ => 20 - (intOf i).toNat)
  case atStart => exact ⟨4, rfl, ⟨by omega, by omega, by omega, fun m h1 h2 => by omega⟩, HB, HF⟩
  case round =>
    obtain ⟨n, rfl, ht, hb, hf⟩ := hrel
    have t0 := hb.out.cell 0
    have zt := hb.out.lt
    simp only [List.getElem?_toArray, List.getElem?_cons_succ, List.getElem?_cons_zero] at t0
    obtain ⟨h0, h1, h2, h3⟩ := ht.out
    by_cases h16 : n ≤ 16
    · by_cases he : sg = n
      · subst he
        have HV : Hid (tgB sg = true) := by show _ = _; unfold tgB; simp; omega
        go_wp2
        go_ret
        exact ⟨ret_b HV.out.symm, hf.out⟩
      · have he' : (sg == n) = false := by simpa using he
        have HN : Hid (tgAt sg (n + 2)) := ⟨by omega, by omega, by omega, fun m q0 q1 q2 => by
          by_cases e : m = n
          · subst e; exact he
          · exact h3 m q0 (by omega) q2⟩
        clear he h3 ht
        go_wp2
        go_roundw
        case rel => exact ⟨n + 2, by go_num, HN, hb, hf⟩
        case measure => simp [intOf]; omega
    · have HV : Hid (tgB sg = false) := by
        show _ = _
        unfold tgB
        have := h3 sg
        rw [Bool.and_eq_false_iff, Bool.and_eq_false_iff]
        by_cases q0 : 4 ≤ sg
        · by_cases q1 : sg ≤ 16
          · right
            apply decide_eq_false
            intro q2
            exact this q0 (by omega) q2 rfl
          · left; right; exact decide_eq_false q1
        · left; left; exact decide_eq_false q0
      clear h3 ht
      go_wp2
      go_ret
      exact ⟨ret_b HV.out.symm, hf.out⟩

set_option maxHeartbeats 1000000 in
theorem refIs_any (sg sl : Int) (a : PlaceV) (w : World) (h4 : 0 ≤ sg) (h16 : sg ≤ 16) (h2 : sg % 2 = 0) (ha : a.ok) : Calls Try.prog 31 #[tgV sg, .int .i64 sl, a.val] w fun e w' => e = .returned (.bool (isR sg sl a)) ∧ Fr w w' := by
  obtain ⟨k, n⟩ := a
  have HF := Lib.hid (show Fr w ((w.alloc (.cells #[.int .i64 sg] 47)).alloc (.cells #[.int .i64 k, .int .i64 n] 57)) from ((Kept.refl _ w).alloc _).alloc _)
  obtain ⟨_, ⟨ha0, ha1⟩⟩ := ha
  simp only at ha0 ha1
  unfold tgV PlaceV.val
  simp only
  by_cases k1 : k = 1
  · subst k1
    have HV : Hid (isR sg sl ⟨1, n⟩ = decide (0 ≤ n ∧ n < sg)) := by show _ = _; simp [isR]
    go_enter Try.func31, Try.ntmps31
    go_wp2
    all_goals go_ret
    all_goals refine ⟨ret_b ?_, HF.out⟩
    all_goals rw [HV.out]
    all_goals rw [Bool.eq_iff_iff]
    all_goals simp only [Bool.and_eq_true, Bool.or_eq_true, decide_eq_true_eq, beq_iff_eq, Bool.false_eq_true, false_iff, true_iff]
    all_goals omega
  · have k1' : (k == 1) = false := by simpa using k1
    by_cases k2 : k = 2
    · subst k2
      have HV : Hid (isR sg sl ⟨2, n⟩ = decide (0 ≤ n ∧ 2 * n < sg ∧ n < 100)) := by show _ = _; simp [isR]
      by_cases h100 : n < 100
      · by_cases h0 : 0 ≤ n
        · go_enter Try.func31, Try.ntmps31
          go_wp2
          all_goals go_ret
          all_goals refine ⟨ret_b ?_, HF.out⟩
          all_goals rw [HV.out]
          all_goals rw [Bool.eq_iff_iff]
          all_goals simp only [Bool.and_eq_true, Bool.or_eq_true, decide_eq_true_eq, beq_iff_eq, Bool.false_eq_true, false_iff, true_iff]
          all_goals omega
        · go_enter Try.func31, Try.ntmps31
          go_wp2
          all_goals go_ret
          all_goals refine ⟨ret_b ?_, HF.out⟩
          all_goals rw [HV.out]
          all_goals rw [Bool.eq_iff_iff]
          all_goals simp only [Bool.and_eq_true, Bool.or_eq_true, decide_eq_true_eq, beq_iff_eq, Bool.false_eq_true, false_iff, true_iff]
          all_goals omega
      · go_enter Try.func31, Try.ntmps31
        go_wp2
        all_goals go_ret
        all_goals refine ⟨ret_b ?_, HF.out⟩
        all_goals rw [HV.out]
        all_goals rw [Bool.eq_iff_iff]
        all_goals simp only [Bool.and_eq_true, Bool.or_eq_true, decide_eq_true_eq, beq_iff_eq, Bool.false_eq_true, false_iff, true_iff]
        all_goals omega
    · have k2' : (k == 2) = false := by simpa using k2
      by_cases k3 : k = 3
      · subst k3
        have HV : Hid (isR sg sl ⟨3, n⟩ = decide (0 ≤ n ∧ n < sl)) := by show _ = _; simp [isR]
        go_enter Try.func31, Try.ntmps31
        go_wp2
        all_goals go_ret
        all_goals refine ⟨ret_b ?_, HF.out⟩
        all_goals rw [HV.out]
        all_goals rw [Bool.eq_iff_iff]
        all_goals simp only [Bool.and_eq_true, Bool.or_eq_true, decide_eq_true_eq, beq_iff_eq, Bool.false_eq_true, false_iff, true_iff]
        all_goals omega
      · have k3' : (k == 3) = false := by simpa using k3
        have HV : Hid (isR sg sl ⟨k, n⟩ = false) := by show _ = _; simp [isR, k1, k2, k3]
        go_enter Try.func31, Try.ntmps31
        go_wp2
        go_ret
        exact ⟨ret_b HV.out.symm, HF.out⟩
end Go.Proofs.Ytodmkjeankbieab
