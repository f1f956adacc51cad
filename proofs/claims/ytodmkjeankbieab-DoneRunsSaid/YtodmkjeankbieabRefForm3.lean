/- The walk of the reference's May. -/
import Derived.Test.YtodmkjeankbieabRefForm2
namespace Go.Proofs.Ytodmkjeankbieab
open Go.RowKit Go.Sort

def lenB (p : Pg) : Bool := decide (1 ≤ p.wide.length) && decide (p.wide.length ≤ 12) && decide (1 ≤ p.code.length) && decide (p.code.length ≤ 40)
theorem mayR_len {p : Pg} (h : lenB p = false) : mayR p = false := by unfold mayR lenB at *; rw [h]; rfl
theorem mayR_all {p : Pg} (h : lenB p = true) : mayR p = p.code.all (insR p) := by unfold mayR lenB at *; rw [h]; rfl

set_option maxHeartbeats 1000000 in
set_option maxRecDepth 100000 in
theorem refMay_any (R : Nat → Prop) (v : Value) (p : Pg) (w : World) (h : RdPg w R v p) :
    Calls Try.prog 20 #[v] w fun e w' => e = .returned (.bool (mayB p)) ∧ Fr w w' := by
  rw [mayB_eq]
  have H := Lib.hid h
  obtain ⟨vw, vc, rfl, ⟨A, c, rfl, hl, hr⟩, ⟨A', c', rfl, hl', hr', ho'⟩⟩ := h
  unfold maxLen at hl hl'
  clear hr ho'
  have HR := Lib.hid hr'
  clear hr'
  by_cases hlen : 1 ≤ p.wide.length ∧ p.wide.length ≤ 12 ∧ 1 ≤ p.code.length ∧ p.code.length ≤ 40
  · have HA := Lib.hid (mayR_all (p := p) (by unfold lenB; simp [hlen]))
    obtain ⟨l1, l2, l3, l4⟩ := hlen
    go_enter Try.func20, Try.ntmps20
    go_wp2
    go_loopw [3] (fun i wr => ∃ k : Nat, k ≤ p.code.length ∧ i = .int .i64 k ∧ Hid (allTo p insR k) ∧ Blk wr w.heap.size 25 #[.slice A p.wide.length c, .slice A' p.code.length c'] ∧ Fr w wr) (fun i _ => p.code.length - (intOf i).toNat)
    case atStart => exact ⟨0, by omega, rfl, allTo_0 p insR, Blk.new w _ _, (Kept.refl _ w).alloc _⟩
    case round =>
      obtain ⟨k, hk, rfl, hall, hblk, hfr⟩ := hrel
      have c0 := hblk.cell 0
      have c1 := hblk.cell 1
      simp only [List.getElem?_toArray, List.getElem?_cons_succ, List.getElem?_cons_zero] at c0 c1
      have hsz := hblk.lt
      have HB := Lib.hid hblk
      have HF := Lib.hid hfr
      clear hblk hfr
      by_cases hlt : k < p.code.length
      · have hx : p.code[k]? = some p.code[k] := List.getElem?_eq_getElem hlt
        obtain ⟨b, off, rfl, _, d0, d1, d2, d3, d4, d5⟩ := (HR.out.kept HF.out (fun _ _ h => h)).ins hx
        have HX := Lib.hid hx
        clear hx
        generalize p.code[k] = i at *
        have hb := cell_lt d0
        have hk0 : (0 : Int) ≤ (k : Int) := Int.natCast_nonneg _
        have hk1 : (k : Int) < (p.code.length : Int) := by omega
        have HI := Lib.hid (fun (d : Nat) (os : Array Obj) => refIns_any R _ p i (grow (redrawn wr d) os) (H.out.kept (HF.out.trans (kept_of_regrown (S := fun _ => False) (w := wr) d os)) (fun _ _ h => h)))
        have q0 := cell_regrown c0
        have q1 := cell_regrown c1
        have r0 := cell_regrown d0
        have r1 := cell_regrown d1
        have r2 := cell_regrown d2
        have r3 := cell_regrown d3
        have r4 := cell_regrown d4
        have r5 := cell_regrown d5
        cases hi : insR p i with
        | true =>
          have HN := Lib.hid (allTo_s hall.out HX.out hi)
          rw [hi] at HI
          clear hi
          go_wp2
          refine wp_region_quiet_below (by kernel_rfl) (by kernel_rfl) ?_
          repeat (quiet_step (refine Calls.regrown_of ((HI.out _ _).mono fun e w' h => ⟨h.1, h.2.below⟩)))
          refine wpQuiet_nil ?_
          intro _ hw2
          obtain ⟨pq, rfl⟩ := hw2
          go_wp2
          go_roundw
          case rel => exact ⟨k + 1, by omega, by go_num, HN, HB.out.kept (kept_of_regrown (S := fun _ => False) _ _) (fun h => h), HF.out.trans (kept_of_regrown _ _)⟩
          case measure => simp [intOf]; omega
        | false =>
          have HN : Hid (mayR p = false) := by show _ = _; rw [HA.out]; exact allTo_no (f := insR) HX.out hi
          rw [hi] at HI
          clear hi
          go_wp2
          refine wp_region_quiet_below (by kernel_rfl) (by kernel_rfl) ?_
          repeat (quiet_step (refine Calls.regrown_of ((HI.out _ _).mono fun e w' h => ⟨h.1, h.2.below⟩)))
          refine wpQuiet_nil ?_
          intro _ hw2
          obtain ⟨pq, rfl⟩ := hw2
          go_wp2
          go_ret
          exact ⟨ret_b HN.out.symm, HF.out.trans (kept_of_regrown _ _)⟩
      · obtain rfl : k = p.code.length := by omega
        have HN : Hid (mayR p = true) := by show _ = _; rw [HA.out]; exact allTo_all hall.out
        clear hall hk
        go_wp2
        go_ret
        exact ⟨ret_b HN.out.symm, HF.out⟩
  · have HN := Lib.hid (mayR_len (p := p) (by unfold lenB; rw [Bool.eq_false_iff]; intro h; simp at h; omega))
    go_enter Try.func20, Try.ntmps20
    go_wp2
    all_goals first
      | (exfalso; omega)
      | (go_ret; exact ⟨ret_b HN.out.symm, (Kept.refl _ w).alloc _⟩)
end Go.Proofs.Ytodmkjeankbieab
