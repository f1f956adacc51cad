/- RefPlace, RefPlace2: texts of this claim, packed into one file. -/
import Derived.Test.YtodmkjeankbieabKBuildSamek3
import Derived.Test.YtodmkjeankbieabKBuildSamek0
import Derived.Lib.QuietBelow
/- The walks of the reference of chapter 6: half, near, Overlap, Target, Is, move, moves, register. -/
namespace Go.Proofs.Ytodmkjeankbieab
open Go.RowKit Go.Sort

set_option maxHeartbeats 400000 in
theorem refNear6_any (n : Int) (w : World) : Calls Try.prog 73 #[.int .i64 n] w fun e w' => e = .returned (.bool (decide (-4611686018427387904 ≤ n ∧ n ≤ 4611686018427387903))) ∧ w = w' := by
  go_enter Try.func73, Try.ntmps73
  go_wp2
  all_goals go_ret
  all_goals refine ⟨ret_b ?_, rfl⟩
  all_goals rw [Bool.eq_iff_iff]
  all_goals simp only [Bool.and_eq_true, Bool.or_eq_true, decide_eq_true_eq, beq_iff_eq, Bool.false_eq_true, false_iff, true_iff]
  all_goals omega
set_option maxHeartbeats 400000 in
theorem refHalf_any (a b : Int) (w : World) (hb : -4611686018427387904 ≤ b ∧ b ≤ 4611686018427387903) : Calls Try.prog 74 #[.int .i64 a, .int .i64 b] w fun e w' => e = .returned (.bool (decide (a / 2 = b))) ∧ w = w' := by
  obtain ⟨h0, h1⟩ := hb
  go_enter Try.func74, Try.ntmps74
  go_wp2
  all_goals go_ret
  all_goals refine ⟨ret_b ?_, rfl⟩
  all_goals rw [Bool.eq_iff_iff]
  all_goals simp only [Bool.and_eq_true, Bool.or_eq_true, decide_eq_true_eq, beq_iff_eq, Bool.false_eq_true, false_iff, true_iff]
  all_goals omega

set_option maxHeartbeats 1000000 in
set_option maxRecDepth 100000 in
theorem refOverlap_any (a b : PlaceV) (w : World) (ha : a.ok) (hb : b.ok) : Calls Try.prog 32 #[a.val, b.val] w fun e w' => e = .returned (.bool (ovP a b)) ∧ Fr w w' := by
  obtain ⟨ak, an⟩ := a
  obtain ⟨bk, bn⟩ := b
  have HF := Lib.hid (show Fr w ((w.alloc (.cells #[.int .i64 ak, .int .i64 an] 57)).alloc (.cells #[.int .i64 bk, .int .i64 bn] 57)) from ((Kept.refl _ w).alloc _).alloc _)
  obtain ⟨_, ⟨ha0, ha1⟩⟩ := ha
  obtain ⟨_, ⟨hb0, hb1⟩⟩ := hb
  simp only at ha0 ha1 hb0 hb1
  have HNA := Lib.hid (fun w => refNear6_any an w)
  have HNB := Lib.hid (fun w => refNear6_any bn w)
  unfold PlaceV.val
  simp only
  by_cases hk : ak = bk
  · subst hk
    have HV : Hid (ovP ⟨ak, an⟩ ⟨ak, bn⟩ = (an == bn)) := by
      show _ = _; unfold ovP; simp only; rw [if_neg (by omega), if_neg (by omega), Bool.eq_iff_iff]; simp
    go_enter Try.func32, Try.ntmps32
    go_wp2
    go_ret
    exact ⟨ret_b HV.out.symm, HF.out⟩
  · by_cases h12 : ak = 1 ∧ bk = 2
    · obtain ⟨rfl, rfl⟩ := h12
      have HV : Hid (ovP ⟨1, an⟩ ⟨2, bn⟩ = decide (an / 2 = bn)) := by
        show _ = _; rw [Bool.eq_iff_iff]; simp [ovP]
      by_cases hn : -4611686018427387904 ≤ bn ∧ bn ≤ 4611686018427387903
      · have HH := Lib.hid (fun w => refHalf_any an bn w hn)
        rw [decide_eq_true hn] at HNB
        clear hk hn
        go_enter Try.func32, Try.ntmps32
        go_wp2_with fail
        refine (HNB.out _).mono ?_
        rintro e w1 ⟨rfl, rfl⟩
        go_wp2_with fail
        refine (HH.out _).mono ?_
        rintro e w1 ⟨rfl, rfl⟩
        go_wp2
        go_ret
        exact ⟨ret_b HV.out.symm, HF.out⟩
      · have HV2 : Hid (ovP ⟨1, an⟩ ⟨2, bn⟩ = false) := by show _ = _; rw [HV.out]; exact decide_eq_false (by omega)
        rw [decide_eq_false hn] at HNB
        clear hk hn HV
        go_enter Try.func32, Try.ntmps32
        go_wp2_with fail
        refine (HNB.out _).mono ?_
        rintro e w1 ⟨rfl, rfl⟩
        go_wp2
        go_ret
        exact ⟨ret_b HV2.out.symm, HF.out⟩
    · by_cases h21 : ak = 2 ∧ bk = 1
      · obtain ⟨rfl, rfl⟩ := h21
        have HV : Hid (ovP ⟨2, an⟩ ⟨1, bn⟩ = decide (bn / 2 = an)) := by
          show _ = _; rw [Bool.eq_iff_iff]; simp [ovP]
        by_cases hn : -4611686018427387904 ≤ an ∧ an ≤ 4611686018427387903
        · have HH := Lib.hid (fun w => refHalf_any bn an w hn)
          rw [decide_eq_true hn] at HNA
          clear hk hn h12
          go_enter Try.func32, Try.ntmps32
          go_wp2_with fail
          refine (HNA.out _).mono ?_
          rintro e w1 ⟨rfl, rfl⟩
          go_wp2_with fail
          refine (HH.out _).mono ?_
          rintro e w1 ⟨rfl, rfl⟩
          go_wp2
          go_ret
          exact ⟨ret_b HV.out.symm, HF.out⟩
        · have HV2 : Hid (ovP ⟨2, an⟩ ⟨1, bn⟩ = false) := by show _ = _; rw [HV.out]; exact decide_eq_false (by omega)
          rw [decide_eq_false hn] at HNA
          clear hk hn HV h12
          go_enter Try.func32, Try.ntmps32
          go_wp2_with fail
          refine (HNA.out _).mono ?_
          rintro e w1 ⟨rfl, rfl⟩
          go_wp2
          go_ret
          exact ⟨ret_b HV2.out.symm, HF.out⟩
      · have HV : Hid (ovP ⟨ak, an⟩ ⟨bk, bn⟩ = false) := by
          show _ = _; unfold ovP; simp only; rw [if_neg h21, if_neg h12]; exact decide_eq_false (by omega)
        have ek : (ak == bk) = false := by simpa using hk
        rcases (by omega : (ak = 1 ∧ bk ≠ 2) ∨ (ak = 2 ∧ bk ≠ 1) ∨ (ak ≠ 1 ∧ ak ≠ 2)) with ⟨rfl, e2⟩ | ⟨rfl, e2⟩ | ⟨e1, e2⟩
        · have e2' : (bk == 2) = false := by simpa using e2
          clear hk h12 h21 e2
          go_enter Try.func32, Try.ntmps32
          go_wp2
          go_ret
          exact ⟨ret_b HV.out.symm, HF.out⟩
        · have e2' : (bk == 1) = false := by simpa using e2
          clear hk h12 h21 e2
          go_enter Try.func32, Try.ntmps32
          go_wp2
          go_ret
          exact ⟨ret_b HV.out.symm, HF.out⟩
        · have e1' : (ak == 1) = false := by simpa using e1
          have e2' : (ak == 2) = false := by simpa using e2
          clear hk h12 h21 e1 e2
          go_enter Try.func32, Try.ntmps32
          go_wp2
          go_ret
          exact ⟨ret_b HV.out.symm, HF.out⟩

/-- the numbers that a target may have, so far -/
def tgAt (sg n : Int) : Prop := 4 ≤ n ∧ n ≤ 18 ∧ n % 2 = 0 ∧ ∀ m, 4 ≤ m → m < n → m % 2 = 0 → sg ≠ m
set_option maxHeartbeats 400000 in
theorem refTarget_any (sg : Int) (w : World) : Calls Try.prog 34 #[tgV sg] w fun e w' => e = .returned (.bool (tgB sg)) ∧ Fr w w' := by
  have HF := Lib.hid (show Fr w (w.alloc (.cells #[.int .i64 sg] 47)) from (Kept.refl _ w).alloc _)
  have HB := Lib.hid (Blk.new w 47 #[.int .i64 sg])
  unfold tgV
  go_enter Try.func34, Try.ntmps34
  go_wp2
  go_loopw [3] (fun i wr => ∃ n : Int, i = .int .i64 n ∧ Hid (tgAt sg n) ∧ Hid (Blk wr w.heap.size 47 #[.int .i64 sg]) ∧ Hid (Fr w wr)) (fun i _ => 20 - (intOf i).toNat)
  case atStart => exact ⟨4, rfl, ⟨by omega, by omega, by omega, fun m h1 h2 => by omega⟩, HB, HF⟩
  case round =>
    obtain ⟨n, rfl, ht, hb, hf⟩ := hrel
    have t0 := hb.out.cell 0
    have zt := hb.out.lt
    simp only [List.getElem?_toArray, List.getElem?_cons_succ, List.getElem?_cons_zero] at t0
    obtain ⟨h0, h1, h2, h3⟩ := ht.out
    by_cases h16 : n ≤ 16
    · by_cases he : sg = n
      · subst he
        have HV : Hid (tgB sg = true) := by show _ = _; unfold tgB; simp; omega
        go_wp2
        go_ret
        exact ⟨ret_b HV.out.symm, hf.out⟩
      · have he' : (sg == n) = false := by simpa using he
        have HN : Hid (tgAt sg (n + 2)) := ⟨by omega, by omega, by omega, fun m q0 q1 q2 => by
          by_cases e : m = n
          · subst e; exact he
          · exact h3 m q0 (by omega) q2⟩
        clear he h3 ht
        go_wp2
        go_roundw
        case rel => exact ⟨n + 2, by go_num, HN, hb, hf⟩
        case measure => simp [intOf]; omega
    · have HV : Hid (tgB sg = false) := by
        show _ = _
        unfold tgB
        have := h3 sg
        rw [Bool.and_eq_false_iff, Bool.and_eq_false_iff]
        by_cases q0 : 4 ≤ sg
        · by_cases q1 : sg ≤ 16
          · right
            apply decide_eq_false
            intro q2
            exact this q0 (by omega) q2 rfl
          · left; right; exact decide_eq_false q1
        · left; left; exact decide_eq_false q0
      clear h3 ht
      go_wp2
      go_ret
      exact ⟨ret_b HV.out.symm, hf.out⟩

set_option maxHeartbeats 1000000 in
theorem refIs_any (sg sl : Int) (a : PlaceV) (w : World) (h4 : 0 ≤ sg) (h16 : sg ≤ 16) (h2 : sg % 2 = 0) (ha : a.ok) : Calls Try.prog 31 #[tgV sg, .int .i64 sl, a.val] w fun e w' => e = .returned (.bool (isR sg sl a)) ∧ Fr w w' := by
  obtain ⟨k, n⟩ := a
  have HF := Lib.hid (show Fr w ((w.alloc (.cells #[.int .i64 sg] 47)).alloc (.cells #[.int .i64 k, .int .i64 n] 57)) from ((Kept.refl _ w).alloc _).alloc _)
  obtain ⟨_, ⟨ha0, ha1⟩⟩ := ha
  simp only at ha0 ha1
  unfold tgV PlaceV.val
  simp only
  by_cases k1 : k = 1
  · subst k1
    have HV : Hid (isR sg sl ⟨1, n⟩ = decide (0 ≤ n ∧ n < sg)) := by show _ = _; simp [isR]
    go_enter Try.func31, Try.ntmps31
    go_wp2
    all_goals go_ret
    all_goals refine ⟨ret_b ?_, HF.out⟩
    all_goals rw [HV.out]
    all_goals rw [Bool.eq_iff_iff]
    all_goals simp only [Bool.and_eq_true, Bool.or_eq_true, decide_eq_true_eq, beq_iff_eq, Bool.false_eq_true, false_iff, true_iff]
    all_goals omega
  · have k1' : (k == 1) = false := by simpa using k1
    by_cases k2 : k = 2
    · subst k2
      have HV : Hid (isR sg sl ⟨2, n⟩ = decide (0 ≤ n ∧ 2 * n < sg ∧ n < 100)) := by show _ = _; simp [isR]
      by_cases h100 : n < 100
      · by_cases h0 : 0 ≤ n
        · go_enter Try.func31, Try.ntmps31
          go_wp2
          all_goals go_ret
          all_goals refine ⟨ret_b ?_, HF.out⟩
          all_goals rw [HV.out]
          all_goals rw [Bool.eq_iff_iff]
          all_goals simp only [Bool.and_eq_true, Bool.or_eq_true, decide_eq_true_eq, beq_iff_eq, Bool.false_eq_true, false_iff, true_iff]
          all_goals omega
        · go_enter Try.func31, Try.ntmps31
          go_wp2
          all_goals go_ret
          all_goals refine ⟨ret_b ?_, HF.out⟩
          all_goals rw [HV.out]
          all_goals rw [Bool.eq_iff_iff]
          all_goals simp only [Bool.and_eq_true, Bool.or_eq_true, decide_eq_true_eq, beq_iff_eq, Bool.false_eq_true, false_iff, true_iff]
          all_goals omega
      · go_enter Try.func31, Try.ntmps31
        go_wp2
        all_goals go_ret
        all_goals refine ⟨ret_b ?_, HF.out⟩
        all_goals rw [HV.out]
        all_goals rw [Bool.eq_iff_iff]
        all_goals simp only [Bool.and_eq_true, Bool.or_eq_true, decide_eq_true_eq, beq_iff_eq, Bool.false_eq_true, false_iff, true_iff]
        all_goals omega
    · have k2' : (k == 2) = false := by simpa using k2
      by_cases k3 : k = 3
      · subst k3
        have HV : Hid (isR sg sl ⟨3, n⟩ = decide (0 ≤ n ∧ n < sl)) := by show _ = _; simp [isR]
        go_enter Try.func31, Try.ntmps31
        go_wp2
        all_goals go_ret
        all_goals refine ⟨ret_b ?_, HF.out⟩
        all_goals rw [HV.out]
        all_goals rw [Bool.eq_iff_iff]
        all_goals simp only [Bool.and_eq_true, Bool.or_eq_true, decide_eq_true_eq, beq_iff_eq, Bool.false_eq_true, false_iff, true_iff]
        all_goals omega
      · have k3' : (k == 3) = false := by simpa using k3
        have HV : Hid (isR sg sl ⟨k, n⟩ = false) := by show _ = _; simp [isR, k1, k2, k3]
        go_enter Try.func31, Try.ntmps31
        go_wp2
        go_ret
        exact ⟨ret_b HV.out.symm, HF.out⟩
end Go.Proofs.Ytodmkjeankbieab

/- The walks of the reference of chapter 6: move, moves, register. -/
namespace Go.Proofs.Ytodmkjeankbieab
open Go.RowKit Go.Sort

theorem mvR_c {sg sl : Int} {to fr : PlaceV} {n : Nat} : mvR sg sl ⟨to, fr, true, n⟩ = (isR sg sl to && decide (fr.k = 0 ∧ fr.n = 0 ∧ to.k = 1)) := rfl
theorem mvR_n {sg sl : Int} {to fr : PlaceV} {n : Nat} : mvR sg sl ⟨to, fr, false, n⟩ = (isR sg sl to && ((decide (n = 0) && isR sg sl fr) && if to.k = 3 then decide (fr.k ≠ 3) else decide (fr.k = 3 ∨ fr.k = to.k))) := rfl

set_option maxHeartbeats 1000000 in
set_option maxRecDepth 100000 in
theorem refMove_any (sg sl : Int) (m : Mv) (w : World) (h4 : 0 ≤ sg) (h16 : sg ≤ 16) (h2 : sg % 2 = 0) (hm : m.ok) : Calls Try.prog 99 #[tgV sg, .int .i64 sl, m.value] w fun e w' => e = .returned (.bool (mvR sg sl m)) ∧ Fr w w' := by
  obtain ⟨hto, hfr, _⟩ := hm
  obtain ⟨⟨tk, tn⟩, ⟨fk, fn⟩, c, n⟩ := m
  have HF0 := Lib.hid (show Fr w ((w.alloc (.cells #[.int .i64 sg] 47)).alloc (.cells #[.int .i64 tk, .int .i64 tn, .int .i64 fk, .int .i64 fn, .bool c, .int .u32 n] 74)) from ((Kept.refl _ w).alloc _).alloc _)
  have HB0 := Lib.hid ((Blk.new w 47 #[.int .i64 sg]).alloc (.cells #[.int .i64 tk, .int .i64 tn, .int .i64 fk, .int .i64 fn, .bool c, .int .u32 n] 74))
  have HB1 : Hid (Blk ((w.alloc (.cells #[.int .i64 sg] 47)).alloc (.cells #[.int .i64 tk, .int .i64 tn, .int .i64 fk, .int .i64 fn, .bool c, .int .u32 n] 74)) (w.heap.size + 1) 74 #[.int .i64 tk, .int .i64 tn, .int .i64 fk, .int .i64 fn, .bool c, .int .u32 n]) := by
    have := Blk.new (w.alloc (.cells #[.int .i64 sg] 47)) 74 #[.int .i64 tk, .int .i64 tn, .int .i64 fk, .int .i64 fn, .bool c, .int .u32 n]
    show Blk _ _ _ _
    simpa using this
  have HTo := Lib.hid (fun w => refIs_any sg sl ⟨tk, tn⟩ w h4 h16 h2 hto)
  have HFrm := Lib.hid (fun w => refIs_any sg sl ⟨fk, fn⟩ w h4 h16 h2 hfr)
  unfold tgV PlaceV.val at HTo HFrm
  simp only at HTo HFrm
  unfold tgV Mv.value
  simp only
  clear hto hfr
  go_enter Try.func99, Try.ntmps99
  go_wp2_with fail
  refine (HTo.out _).mono ?_
  rintro e w1 ⟨rfl, f1⟩
  have HF1 := Lib.hid (HF0.out.trans f1)
  have HB2 := Lib.hid (HB0.out.kept f1 (fun h => h))
  have HB3 := Lib.hid (HB1.out.kept f1 (fun h => h))
  have t0 := HB2.out.cell 0
  have m0 := HB3.out.cell 0
  have m2 := HB3.out.cell 2
  have m3 := HB3.out.cell 3
  have m4 := HB3.out.cell 4
  have m5 := HB3.out.cell 5
  have z0 := HB2.out.lt
  have z1 := HB3.out.lt
  simp only [List.getElem?_toArray, List.getElem?_cons_succ, List.getElem?_cons_zero] at t0 m0 m2 m3 m4 m5
  clear f1 HF0 HB0 HB1 HTo
  cases ht : isR sg sl ⟨tk, tn⟩ with
  | false =>
    have HV : Hid (mvR sg sl ⟨⟨tk, tn⟩, ⟨fk, fn⟩, c, n⟩ = false) := by
      show _ = _; unfold mvR; simp only; rw [ht]; rfl
    clear ht
    go_wp2
    go_ret
    exact ⟨ret_b HV.out.symm, HF1.out⟩
  | true =>
    cases c with
    | true =>
      have HV : Hid (mvR sg sl ⟨⟨tk, tn⟩, ⟨fk, fn⟩, true, n⟩ = decide (fk = 0 ∧ fn = 0 ∧ tk = 1)) := by
        show _ = _; rw [mvR_c, ht]; rfl
      clear ht
      go_wp2
      all_goals go_ret
      all_goals refine ⟨ret_b ?_, HF1.out⟩
      all_goals rw [HV.out, Bool.eq_iff_iff]
      all_goals simp only [Bool.and_eq_true, decide_eq_true_eq, beq_iff_eq, Bool.false_eq_true, false_iff]
      all_goals omega
    | false =>
      have HV : Hid (mvR sg sl ⟨⟨tk, tn⟩, ⟨fk, fn⟩, false, n⟩ = ((decide (n = 0) && isR sg sl ⟨fk, fn⟩) && if tk = 3 then decide (fk ≠ 3) else decide (fk = 3 ∨ fk = tk))) := by
        show _ = _; rw [mvR_n, ht]; rfl
      clear ht
      by_cases hn0 : n = 0
      · subst hn0
        go_wp2_with fail
        refine (HFrm.out _).mono ?_
        rintro e w2 ⟨rfl, f2⟩
        have HF2 := Lib.hid (HF1.out.trans f2)
        have HB4 := Lib.hid (HB3.out.kept f2 (fun h => h))
        have m0 := HB4.out.cell 0
        have m2 := HB4.out.cell 2
        have z1 := HB4.out.lt
        simp only [List.getElem?_toArray, List.getElem?_cons_succ, List.getElem?_cons_zero] at m0 m2
        clear f2
        cases hi : isR sg sl ⟨fk, fn⟩ with
        | false =>
          rw [hi] at HV
          clear hi
          go_wp2
          go_ret
          refine ⟨ret_b ?_, HF2.out⟩
          rw [HV.out]
          rfl
        | true =>
          rw [hi] at HV
          clear hi
          go_wp2
          all_goals go_ret
          all_goals refine ⟨ret_b ?_, HF2.out⟩
          all_goals rw [HV.out]
          · rename_i e
            rw [beq_iff_eq] at e
            rw [if_pos e, Bool.eq_iff_iff]
            simp
          · rename_i e e2
            rw [beq_eq_false_iff_ne] at e
            rw [if_neg e, e2]
            simp
          · rename_i e e2
            rw [beq_eq_false_iff_ne] at e
            rw [if_neg e, Bool.eq_iff_iff]
            simp
      · have hn1 : ((n : Int) != 0) = true := by simpa using hn0
        go_wp2
        go_ret
        refine ⟨ret_b ?_, HF1.out⟩
        rw [HV.out, decide_eq_false hn0]
        rfl

def mrTo (sg sl : Int) (l : List Mv) (k : Nat) : Prop := (l.take k).all (mvR sg sl) = true
theorem mrTo_s {sg sl : Int} {l : List Mv} {k : Nat} {m : Mv} (h : mrTo sg sl l k) (hm : l[k]? = some m) (hf : mvR sg sl m = true) : mrTo sg sl l (k + 1) := by
  unfold mrTo at *
  rw [List.take_add_one, List.all_append, h, hm]
  simp [hf]
theorem mrTo_no {sg sl : Int} {l : List Mv} {k : Nat} {m : Mv} (hm : l[k]? = some m) (hf : mvR sg sl m = false) : mvsR sg sl l = false := by
  unfold mvsR
  rw [show l.all (mvR sg sl) = false from by rw [List.all_eq_false]; exact ⟨m, List.mem_of_getElem? hm, by rw [hf]; decide⟩]
  simp
theorem mrTo_all {sg sl : Int} {l : List Mv} (h : mrTo sg sl l l.length) (h6 : l.length ≤ 6) : mvsR sg sl l = true := by
  unfold mrTo at h
  rw [List.take_length] at h
  unfold mvsR
  rw [h, decide_eq_true h6]
  rfl

set_option maxHeartbeats 1000000 in
set_option maxRecDepth 100000 in
theorem refMoves6_any (R : Nat → Prop) (v : Value) (l : List Mv) (sg sl : Int) (w : World) (h : RdMv w R v l) (h4 : 0 ≤ sg) (h16 : sg ≤ 16) (h2 : sg % 2 = 0) :
    Calls Try.prog 68 #[tgV sg, .int .i64 sl, v] w fun e w' => e = .returned (.bool (mvsR sg sl l)) ∧ Fr w w' := by
  obtain ⟨A, c, rfl, hl, hr, ho⟩ := h
  have HR := Lib.hid hr
  have HO := Lib.hid ho
  unfold maxLen at hl
  clear hr ho
  unfold tgV
  have HF0 := Lib.hid (show Fr w (w.alloc (.cells #[.int .i64 sg] 47)) from (Kept.refl _ w).alloc _)
  have HB0 := Lib.hid (Blk.new w 47 #[.int .i64 sg])
  have HM := Lib.hid (fun m (hm : m.ok) w => refMove_any sg sl m w h4 h16 h2 hm)
  unfold tgV at HM
  by_cases h6 : l.length ≤ 6
  · have h6' : (l.length : Int) ≤ 6 := by omega
    go_enter Try.func68, Try.ntmps68
    go_wp2
    go_loopw [7] (fun i wr => ∃ k : Nat, k ≤ l.length ∧ i = .int .i64 k ∧ Hid (mrTo sg sl l k) ∧ Hid (Blk wr w.heap.size 47 #[.int .i64 sg]) ∧ Hid (Fr w wr)) (fun i _ => l.length - (intOf i).toNat)
    case atStart => exact ⟨0, by omega, rfl, rfl, HB0, HF0⟩
    case round =>
      obtain ⟨k, hk, rfl, hto, hb, hf⟩ := hrel
      have t0 := hb.out.cell 0
      have z0 := hb.out.lt
      simp only [List.getElem?_toArray, List.getElem?_cons_succ, List.getElem?_cons_zero] at t0
      by_cases hlt : k < l.length
      · have hx : l[k]? = some l[k] := List.getElem?_eq_getElem hlt
        obtain ⟨b, off, rfl, _, d0, d1, d2, d3, d4, d5⟩ := (HR.out.kept hf.out (fun _ _ h => h)).mv hx
        have hmok := HO.out _ (List.mem_of_getElem? hx)
        have HX := Lib.hid hx
        have hk0 : (0 : Int) ≤ (k : Int) := Int.natCast_nonneg _
        have hk1 : (k : Int) < (l.length : Int) := by omega
        clear hx
        generalize l[k] = m at *
        have HMm := Lib.hid (fun w => HM.out m hmok w)
        have zb := cell_lt d0
        clear hmok
        obtain ⟨⟨tk, tn⟩, ⟨fk, fn⟩, cb, n⟩ := m
        unfold Mv.value at HMm
        simp only at *
        have q_t0 := cell_regrown t0
        have q_d0 := cell_regrown d0
        have q_d1 := cell_regrown d1
        have q_d2 := cell_regrown d2
        have q_d3 := cell_regrown d3
        have q_d4 := cell_regrown d4
        have q_d5 := cell_regrown d5
        cases hm : mvR sg sl ⟨⟨tk, tn⟩, ⟨fk, fn⟩, cb, n⟩ with
        | false =>
          have HV := Lib.hid (mrTo_no HX.out hm)
          rw [hm] at HMm
          clear hm
          go_wp2
          refine wp_region_quiet_below (by kernel_rfl) (by kernel_rfl) ?_
          repeat (quiet_step (refine Calls.regrown_of ((HMm.out _).mono fun e w' h => ⟨h.1, h.2.below⟩)))
          refine wpQuiet_nil ?_
          intro _ hw2
          obtain ⟨pq, rfl⟩ := hw2
          go_wp2
          go_ret
          exact ⟨ret_b HV.out.symm, hf.out.trans (kept_of_regrown _ _)⟩
        | true =>
          have HV := Lib.hid (mrTo_s hto.out HX.out hm)
          rw [hm] at HMm
          clear hm
          go_wp2
          refine wp_region_quiet_below (by kernel_rfl) (by kernel_rfl) ?_
          repeat (quiet_step (refine Calls.regrown_of ((HMm.out _).mono fun e w' h => ⟨h.1, h.2.below⟩)))
          refine wpQuiet_nil ?_
          intro _ hw2
          obtain ⟨pq, rfl⟩ := hw2
          go_wp2
          go_roundw
          case rel => exact ⟨k + 1, by omega, by go_num, HV, Lib.hid (hb.out.kept (kept_of_regrown (S := fun _ => False) _ _) (fun h => h)), Lib.hid (hf.out.trans (kept_of_regrown _ _))⟩
          case measure => simp [intOf]; omega
      · obtain rfl : k = l.length := by omega
        have HV := Lib.hid (mrTo_all hto.out h6)
        go_wp2
        go_ret
        exact ⟨ret_b HV.out.symm, hf.out⟩
  · have h6' : ¬ (l.length : Int) ≤ 6 := by omega
    have HV : Hid (mvsR sg sl l = false) := by show _ = _; unfold mvsR; rw [decide_eq_false h6]; rfl
    go_enter Try.func68, Try.ntmps68
    go_wp2
    go_ret
    exact ⟨ret_b HV.out.symm, HF0.out⟩

set_option maxHeartbeats 1000000 in
set_option maxRecDepth 100000 in
theorem refRegister_any (R : Nat → Prop) (v : Value) (p : Pg) (sg t : Int) (a : PlaceV) (w : World) (h : RdPg w R v p) (h4 : 0 ≤ sg) (h16 : sg ≤ 16) (h2 : sg % 2 = 0) (ha : a.ok) (ht : 0 ≤ t ∧ t < p.wide.length) :
    Calls Try.prog 67 #[v, tgV sg, .int .i64 t, a.val] w fun e w' => e = .returned (.bool (regR p.wide sg t a)) ∧ Fr w w' := by
  obtain ⟨vw, vc, rfl, ⟨A, c, rfl, hl, hr⟩, ⟨A', c', rfl, hl', _, _⟩⟩ := h
  obtain ⟨b, off, rfl, _, hcell⟩ := hr.2 (by omega)
  obtain ⟨x, hx⟩ : ∃ x, p.wide[t.toNat]? = some x := ⟨_, List.getElem?_eq_getElem (by omega)⟩
  have d0 := hcell t.toNat (.bool x) (by rw [List.getElem?_map, hx]; rfl)
  have zb := cell_lt d0
  have HW := Lib.hid (wd_get hx)
  obtain ⟨t0, t1⟩ := ht
  unfold maxLen at hl hl'
  obtain ⟨k, n⟩ := a
  have HI := Lib.hid (fun w => refIs_any sg 0 ⟨k, n⟩ w h4 h16 h2 ha)
  unfold tgV PlaceV.val at HI ⊢
  simp only at HI ⊢
  have HF := Lib.hid (show Fr w (((w.alloc (.cells #[.slice (some ⟨b, off, none⟩) p.wide.length c, .slice A' p.code.length c'] 25)).alloc (.cells #[.int .i64 sg] 47)).alloc (.cells #[.int .i64 k, .int .i64 n] 57)) from (((Kept.refl _ w).alloc _).alloc _).alloc _)
  have d3 := (Fr.cell HF.out zb (o := off + t.toNat)).trans d0
  clear hcell hr hx ha
  cases x with
  | true =>
    by_cases hk : k = 2
    · subst hk
      have HV : Hid (regR p.wide sg t ⟨2, n⟩ = isR sg 0 ⟨2, n⟩) := by show _ = _; unfold regR; rw [HW.out]; rfl
      go_enter Try.func67, Try.ntmps67
      go_wp2_with fail
      refine (HI.out _).mono ?_
      rintro e w2 ⟨rfl, f2⟩
      have HF2 := Lib.hid (HF.out.trans f2)
      clear f2
      go_wp2
      go_ret
      exact ⟨ret_b HV.out.symm, HF2.out⟩
    · have hk' : (k == 2) = false := by simpa using hk
      have HV : Hid (regR p.wide sg t ⟨k, n⟩ = false) := by show _ = _; unfold regR; rw [HW.out]; simp [hk]
      clear hk
      go_enter Try.func67, Try.ntmps67
      go_wp2
      go_ret
      exact ⟨ret_b HV.out.symm, HF.out⟩
  | false =>
    by_cases hk : k = 1
    · subst hk
      have HV : Hid (regR p.wide sg t ⟨1, n⟩ = isR sg 0 ⟨1, n⟩) := by show _ = _; unfold regR; rw [HW.out]; rfl
      go_enter Try.func67, Try.ntmps67
      go_wp2_with fail
      refine (HI.out _).mono ?_
      rintro e w2 ⟨rfl, f2⟩
      have HF2 := Lib.hid (HF.out.trans f2)
      clear f2
      go_wp2
      go_ret
      exact ⟨ret_b HV.out.symm, HF2.out⟩
    · have hk' : (k == 1) = false := by simpa using hk
      have HV : Hid (regR p.wide sg t ⟨k, n⟩ = false) := by show _ = _; unfold regR; rw [HW.out]; simp [hk]
      clear hk
      go_enter Try.func67, Try.ntmps67
      go_wp2
      go_ret
      exact ⟨ret_b HV.out.symm, HF.out⟩
end Go.Proofs.Ytodmkjeankbieab
