/- The walk of layout.May; how an instruction of a program is read. -/
import Derived.Test.YtodmkjeankbieabForm
namespace Go.Proofs.Ytodmkjeankbieab
open Go.RowKit Go.Sort

theorem Reads.ins {w : World} {R : Nat → Prop} {A : Option Addr} {n k : Nat} {l : List In} {i : In} (h : Reads w R 6 A n (l.flatMap In.cells)) (hm : l[k]? = some i) :
    ∃ b off, A = some ⟨b, off, none⟩ ∧ R b ∧ w.cell? ⟨b, off + k * 6, none⟩ = some (.int .i64 i.op) ∧ w.cell? ⟨b, off + k * 6 + 1, none⟩ = some (.int .i64 i.d) ∧ w.cell? ⟨b, off + k * 6 + 2, none⟩ = some (.int .i64 i.a) ∧
      w.cell? ⟨b, off + k * 6 + 3, none⟩ = some (.int .i64 i.b) ∧ w.cell? ⟨b, off + k * 6 + 4, none⟩ = some (.int .i64 i.c) ∧ w.cell? ⟨b, off + k * 6 + 5, none⟩ = some (.int .u32 i.n) := by
  obtain ⟨e, h2⟩ := h.elem In.len (by omega)
  have hk : k < l.length := (List.getElem?_eq_some_iff.1 hm).1
  obtain ⟨b, off, hA, hR, hc⟩ := h2 (by omega)
  exact ⟨b, off, hA, hR, hc k i hm 0 _ rfl, hc k i hm 1 _ rfl, hc k i hm 2 _ rfl, hc k i hm 3 _ rfl, hc k i hm 4 _ rfl, hc k i hm 5 _ rfl⟩
theorem pg_code {w : World} {R : Nat → Prop} {A : Option Addr} {c : Nat} {vw : Value} {p : Pg} (h : RdPg w R (.agg #[vw, .slice A p.code.length c]) p) : Reads w R 6 A p.code.length (p.code.flatMap In.cells) := by
  obtain ⟨vw, vc', e, _, ⟨A1, c1, e1, _, hr, _⟩⟩ := h
  cases e
  cases e1
  exact hr
theorem Fr.refl_ (w : World) : Fr w w := Kept.refl _ w

def allTo (p : Pg) (f : Pg → In → Bool) (k : Nat) : Prop := (p.code.take k).all (f p) = true
theorem allTo_0 (p : Pg) (f : Pg → In → Bool) : allTo p f 0 := rfl
theorem allTo_s {p : Pg} {f : Pg → In → Bool} {k : Nat} {i : In} (h : allTo p f k) (hi : p.code[k]? = some i) (hf : f p i = true) : allTo p f (k + 1) := by
  unfold allTo at *
  rw [List.take_add_one, List.all_append, h, hi]
  simp [hf]
theorem allTo_no {p : Pg} {f : Pg → In → Bool} {k : Nat} {i : In} (hi : p.code[k]? = some i) (hf : f p i = false) : p.code.all (f p) = false := by
  rw [List.all_eq_false]
  exact ⟨i, List.mem_of_getElem? hi, by rw [hf]; decide⟩
theorem allTo_all {p : Pg} {f : Pg → In → Bool} (h : allTo p f p.code.length) : p.code.all (f p) = true := by
  unfold allTo at h; rwa [List.take_length] at h

set_option maxHeartbeats 1000000 in
set_option maxRecDepth 100000 in
theorem May_any (R : Nat → Prop) (v : Value) (p : Pg) (w : World) (h : RdPg w R v p) :
    Calls Try.prog 52 #[v] w fun e w' => e = .returned (.bool (mayB p)) ∧ Fr w w' := by
  have H := Lib.hid h
  obtain ⟨vw, vc, rfl, ⟨A, c, rfl, hl, hr⟩, ⟨A', c', rfl, hl', hr', ho'⟩⟩ := h
  unfold maxLen at hl hl'
  clear hr ho'
  have HR := Lib.hid hr'
  clear hr'
  go_enter Try.func52, Try.ntmps52
  go_wp2
  go_loopw [8] (fun i wr => ∃ k : Nat, k ≤ p.code.length ∧ i = .int .i64 k ∧ Hid (allTo p insB k) ∧ Blk wr w.heap.size 25 #[.slice A p.wide.length c, .slice A' p.code.length c'] ∧ Fr w wr) (fun i _ => p.code.length - (intOf i).toNat)
  case atStart => exact ⟨0, by omega, rfl, allTo_0 p insB, Blk.new w _ _, (Kept.refl _ w).alloc _⟩
  case round =>
    obtain ⟨k, hk, rfl, hall, hblk, hfr⟩ := hrel
    have c0 := hblk.cell 0
    have c1 := hblk.cell 1
    simp only [List.getElem?_toArray, List.getElem?_cons_succ, List.getElem?_cons_zero] at c0 c1
    have hsz := hblk.lt
    have HB := Lib.hid hblk
    have HF := Lib.hid hfr
    clear hblk hfr
    by_cases hlt : k < p.code.length
    · have hx : p.code[k]? = some p.code[k] := List.getElem?_eq_getElem hlt
      obtain ⟨b, off, rfl, _, d0, d1, d2, d3, d4, d5⟩ := (HR.out.kept HF.out (fun _ _ h => h)).ins hx
      have HX := Lib.hid hx
      clear hx
      generalize p.code[k] = i at *
      have hb := cell_lt d0
      go_wp2_with fail
      refine (ins_any R _ p i _ (H.out.kept (HF.out.alloc _) (fun _ _ h => h))).mono ?_
      rintro e w1 ⟨rfl, f1⟩
      have f2 : Fr w w1 := (HF.out.alloc _).trans f1
      have HB1 := Lib.hid ((HB.out.alloc _).kept f1 (fun h => h))
      cases hi : insB p i with
      | true =>
        have HN := Lib.hid (allTo_s hall.out HX.out hi)
        clear hi
        go_wp2
        go_roundw
        case rel => exact ⟨k + 1, by omega, by go_num, HN, HB1.out, f2⟩
        case measure => simp [intOf]; omega
      | false =>
        have HN : Hid (mayB p = false) := by show _ = _; unfold mayB; rw [allTo_no (f := insB) HX.out hi]; rfl
        clear hi
        go_wp2
        go_ret
        exact ⟨ret_b HN.out.symm, f2⟩
    · obtain rfl : k = p.code.length := by omega
      have HN : Hid (mayB p = (decide (1 ≤ p.wide.length) && decide (p.wide.length ≤ 12) && decide (1 ≤ p.code.length) && decide (p.code.length ≤ 40))) := by
        show _ = _; unfold mayB; rw [allTo_all hall.out, Bool.true_and]
      clear hall hk
      go_wp2
      all_goals go_ret
      all_goals refine ⟨ret_b ?_, HF.out⟩
      all_goals rw [HN.out]
      all_goals (rw [Bool.eq_iff_iff]; simp; omega)
end Go.Proofs.Ytodmkjeankbieab
