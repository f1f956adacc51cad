/- The walks of chapter 2: layout.Shape, temp, ins, May. -/
import Derived.Test.YtodmkjeankbieabProg
import Derived.Test.YtodmkjeankbieabFormPlain
import Derived.Test.YtodmkjeankbieabMem
import Derived.WalkKit
import Derived.ProofKit
import Derived.WalkSpells
import Derived.WalkLawsBesides
import Derived.Lib.Hide
import Derived.Outline
import Derived.BigQuiet
import Derived.Deep.QuietTactic
import Derived.Lib.QuietBelow
namespace Go.Proofs.Ytodmkjeankbieab
open Go.RowKit Go.Sort

/-- a shape's letters as a string -/
def shapeS (op : Int) : ByteArray := ⟨(shape op).toArray⟩

theorem sh_c {op n : Int} (h : (op == n) = true) : Ending.returned (.tuple #[.string (shapeS n), .bool (known n)]) = .returned (.tuple #[.string (shapeS op), .bool (known op)]) := by
  rw [beq_iff_eq] at h; rw [h]
theorem sh_op {op : Int} (h1 : 20 < op) (h2 : op ≤ 26) : Ending.returned (.tuple #[.string ⟨#[110, 110, 110, 45, 45]⟩, .bool true]) = .returned (.tuple #[.string (shapeS op), .bool (known op)]) := by
  unfold shapeS; rw [shape_op h1 h2, show known op = true from decide_eq_true (by omega)]
theorem sh_wide {op : Int} (h1 : 40 < op) (h2 : op ≤ 45) : Ending.returned (.tuple #[.string ⟨#[119, 119, 119, 45, 45]⟩, .bool true]) = .returned (.tuple #[.string (shapeS op), .bool (known op)]) := by
  unfold shapeS; rw [shape_wide h1 h2, show known op = true from decide_eq_true (by omega)]
theorem sh_none {op : Int} (h1 : (op == 1) = false) (h2 : (op == 2) = false) (h3 : (op == 3) = false) (h4 : (op == 4) = false) (h5 : (op == 5) = false) (h6 : (op == 6) = false) (h7 : (op == 7) = false) (h8 : (op == 8) = false)
    (h9 : (op == 9) = false) (h10 : (op == 10) = false) (h20 : 26 < op ∨ op ≤ 20) (h40 : 45 < op ∨ op ≤ 40) : Ending.returned (.tuple #[.string ⟨#[]⟩, .bool false]) = .returned (.tuple #[.string (shapeS op), .bool (known op)]) := by
  simp only [beq_eq_false_iff_ne] at *
  have e : shape op = [] := by
    unfold shape
    iterate 12 rw [if_neg (by omega)]
  unfold shapeS; rw [e, show known op = false from decide_eq_false (by omega)]

theorem Shape_any (op : Int) (w : World) :
    Calls Try.prog 81 #[.int .i64 op] w fun e w' => e = .returned (.tuple #[.string (shapeS op), .bool (known op)]) ∧ w = w' := by
  go_enter Try.func81, Try.ntmps81
  go_wp2
  all_goals go_ret2
  · exact ⟨sh_c ‹(op == 1) = true›, rfl⟩
  · exact ⟨sh_c ‹(op == 2) = true›, rfl⟩
  · exact ⟨sh_c ‹(op == 3) = true›, rfl⟩
  · exact ⟨sh_c ‹(op == 4) = true›, rfl⟩
  · exact ⟨sh_c ‹(op == 5) = true›, rfl⟩
  · exact ⟨sh_c ‹(op == 6) = true›, rfl⟩
  · exact ⟨sh_c ‹(op == 7) = true›, rfl⟩
  · exact ⟨sh_c ‹(op == 8) = true›, rfl⟩
  · exact ⟨sh_c ‹(op == 9) = true›, rfl⟩
  · exact ⟨sh_c ‹(op == 10) = true›, rfl⟩
  · exact ⟨sh_op ‹_› ‹_›, rfl⟩
  · exact ⟨sh_wide ‹_› ‹_›, rfl⟩
  all_goals exact ⟨sh_none ‹_› ‹_› ‹_› ‹_› ‹_› ‹_› ‹_› ‹_› ‹_› ‹_› (by first | exact Or.inl ‹_› | exact Or.inr ‹_›) (by first | exact Or.inl ‹_› | exact Or.inr ‹_›), rfl⟩

/-! ### a field, by a letter -/
theorem nat_eq {a b : Nat} : ((a : Int) == (b : Int)) = decide (a = b) := by
  rw [Bool.eq_iff_iff]; simp; omega
theorem wd_get {wide : List Bool} {n : Int} {b : Bool} (h : wide[n.toNat]? = some b) : wd wide n = b := by
  unfold wd; rw [List.getD_eq_getElem?_getD, h]; rfl

set_option maxHeartbeats 400000 in
set_option maxRecDepth 100000 in
theorem temp_any (R : Nat → Prop) (v : Value) (p : Pg) (n : Int) (l : UInt8) (w : World) (h : RdPg w R v p) :
    Calls Try.prog 111 #[v, .int .i64 n, .int .u8 (l.toNat : Int)] w fun e w' => e = .returned (.bool (tempB p.wide n l)) ∧ Fr w w' := by
  obtain ⟨vw, vc, rfl, ⟨A, c, rfl, hl, hr⟩, hc⟩ := h
  unfold maxLen at hl
  by_cases h45 : l = 45
  · subst h45
    go_enter Try.func111, Try.ntmps111
    go_wp2
    go_ret
    exact ⟨ret_b (by unfold tempB; rw [if_pos rfl]; rfl), (Kept.refl _ w).alloc _⟩
  · have e45 : ((l.toNat : Int) == 45) = false := by rw [beq_eq_false_iff_ne]; intro hc; exact h45 (UInt8.toNat_inj.1 (by simpa using Int.ofNat_inj.1 hc))
    by_cases hin : 0 ≤ n ∧ n < p.wide.length
    · obtain ⟨h0, h1⟩ := hin
      obtain ⟨b, off, rfl, _, hcell⟩ := hr.2 (by omega)
      have hx : p.wide[n.toNat]? = some p.wide[n.toNat] := List.getElem?_eq_getElem (by omega)
      have hw := Lib.hid (wd_get hx)
      have c0 := hcell n.toNat (.bool p.wide[n.toNat]) (by rw [List.getElem?_map, hx]; rfl)
      generalize p.wide[n.toNat] = x at *
      have hb := cell_lt c0
      have hfin : Hid (tempB p.wide n l = (decide (l = 120) || (x == decide (l = 119)))) := by
        show _ = _
        unfold tempB; rw [if_neg h45, decide_eq_true (⟨h0, h1⟩ : 0 ≤ n ∧ n < p.wide.length), hw.out]; rfl
      clear hx hcell hr hc h45
      by_cases h120 : l = 120
      · subst h120
        go_enter Try.func111, Try.ntmps111
        go_wp2
        go_ret
        exact ⟨ret_b (by rw [hfin.out]; rfl), (Kept.refl _ w).alloc _⟩
      · have e120 : ((l.toNat : Int) == 120) = false := by rw [beq_eq_false_iff_ne]; intro hc; exact h120 (UInt8.toNat_inj.1 (by simpa using Int.ofNat_inj.1 hc))
        have e119 : Hid (((l.toNat : Int) == 119) = decide (l = 119)) := by
          show _ = _
          by_cases h : l = 119
          · subst h; rfl
          · rw [decide_eq_false h, beq_eq_false_iff_ne]; intro hc; exact h (UInt8.toNat_inj.1 (by simpa using Int.ofNat_inj.1 hc))
        go_enter Try.func111, Try.ntmps111
        go_wp2
        go_ret
        exact ⟨ret_b (by rw [hfin.out, decide_eq_false h120, Bool.false_or, ← e119.out]), (Kept.refl _ w).alloc _⟩
    · have hfin : Hid (tempB p.wide n l = false) := by
        show _ = _
        unfold tempB; rw [if_neg h45, decide_eq_false hin]; rfl
      clear hr hc h45
      by_cases h0 : 0 ≤ n
      · have h1 : ¬ n < (p.wide.length : Int) := fun h => hin ⟨h0, h⟩
        clear hin
        go_enter Try.func111, Try.ntmps111
        go_wp2
        go_ret
        exact ⟨ret_b hfin.out.symm, (Kept.refl _ w).alloc _⟩
      · clear hin
        go_enter Try.func111, Try.ntmps111
        go_wp2
        go_ret
        exact ⟨ret_b hfin.out.symm, (Kept.refl _ w).alloc _⟩
theorem Kept.drewN {S : Nat → Prop} {a w : World} (h : Kept S a w) (n : Nat) : Kept S a (w.drewN n) := ⟨h.os, h.tape, h.output, h.size, h.block⟩
/-! ### an instruction -/
theorem shape_letters {op : Int} (h : known op = true) : ∃ l0 l1 l2 l3 l4 : UInt8, shape op = [l0, l1, l2, l3, l4] := by
  rcases known_cases h with rfl | rfl | rfl | rfl | rfl | rfl | rfl | rfl | rfl | rfl | ⟨h1, h2⟩ | ⟨h1, h2⟩
  case inr.inr.inr.inr.inr.inr.inr.inr.inr.inr.inl => exact ⟨_, _, _, _, _, shape_op h1 h2⟩
  case inr.inr.inr.inr.inr.inr.inr.inr.inr.inr.inr => exact ⟨_, _, _, _, _, shape_wide h1 h2⟩
  all_goals exact ⟨_, _, _, _, _, rfl⟩

/-- what stands in memory while an instruction is looked at -/
structure InsMem (w wr : World) (vw vc : Value) (i : In) : Prop where
  bp : Blk wr w.heap.size 25 #[vw, vc]
  bi : Blk wr (w.heap.size + 1) 45 #[.int .i64 i.op, .int .i64 i.d, .int .i64 i.a, .int .i64 i.b, .int .i64 i.c, .int .u32 i.n]
  fr : Fr w wr

theorem InsMem.below {w wr w2 : World} {vw vc : Value} {i : In} (h : InsMem w wr vw vc i) (hb : Fr wr w2) : InsMem w w2 vw vc i :=
  ⟨h.bp.kept hb (fun h => h), h.bi.kept hb (fun h => h), h.fr.trans hb⟩
/-- the rest of an instruction's look: width of a move, C, N -/
def restB (p : Pg) (i : In) (l3 l4 : UInt8) : Bool :=
  !(decide (i.op = 2) && (wd p.wide i.d != wd p.wide i.a)) && ((if l3 = 99 then decide (0 ≤ i.c ∧ i.c < p.code.length) else decide (i.c = 0)) && (decide (l4 = 110) || decide (i.n = 0)))
theorem insB_no {p : Pg} {i : In} (h : known i.op = false) : insB p i = false := by unfold insB; rw [h]; rfl
theorem insB_no0 {p : Pg} {i : In} {l0 l1 l2 l3 l4 : UInt8} (hls : shape i.op = [l0, l1, l2, l3, l4]) (h : tempB p.wide i.d l0 = false) : insB p i = false := by unfold insB; simp [hls, h]
theorem insB_no1 {p : Pg} {i : In} {l0 l1 l2 l3 l4 : UInt8} (hls : shape i.op = [l0, l1, l2, l3, l4]) (h : tempB p.wide i.a l1 = false) : insB p i = false := by unfold insB; simp [hls, h]
theorem insB_no2 {p : Pg} {i : In} {l0 l1 l2 l3 l4 : UInt8} (hls : shape i.op = [l0, l1, l2, l3, l4]) (h : tempB p.wide i.b l2 = false) : insB p i = false := by unfold insB; simp [hls, h]
theorem insB_rest {p : Pg} {i : In} {l0 l1 l2 l3 l4 : UInt8} (hk : known i.op = true) (hls : shape i.op = [l0, l1, l2, l3, l4]) (h0 : tempB p.wide i.d l0 = true) (h1 : tempB p.wide i.a l1 = true) (h2 : tempB p.wide i.b l2 = true) : insB p i = restB p i l3 l4 := by
  unfold insB restB; simp [hls, h0, h1, h2, hk]

def tailB (p : Pg) (c : Int) (n : Nat) (l3 l4 : UInt8) : Bool := (if l3 = 99 then decide (0 ≤ c ∧ c < p.code.length) else decide (c = 0)) && (decide (l4 = 110) || decide (n = 0))
theorem byte_eq {l : UInt8} {k : Nat} (hk : k < 256) : ((l.toNat : Int) == (k : Int)) = decide (l = UInt8.ofNat k) := by
  rw [Bool.eq_iff_iff, beq_iff_eq, decide_eq_true_iff, Int.ofNat_inj, ← UInt8.toNat_inj]
  have : (UInt8.ofNat k).toNat = k := by simp; omega
  rw [this]
theorem b99 (l : UInt8) : ((l.toNat : Int) == 99) = decide (l = 99) := byte_eq (k := 99) (by decide)
theorem b110 (l : UInt8) : ((l.toNat : Int) == 110) = decide (l = 110) := byte_eq (k := 110) (by decide)
theorem pg_wide {w : World} {R : Nat → Prop} {A : Option Addr} {c : Nat} {vc : Value} {p : Pg} (h : RdPg w R (.agg #[.slice A p.wide.length c, vc]) p) : Reads w R 1 A p.wide.length (p.wide.map Value.bool) := by
  obtain ⟨vw, vc', e, ⟨A1, c1, e1, _, hr⟩, _⟩ := h
  cases e
  cases e1
  exact hr
theorem rest_ne {p : Pg} {op d a b c : Int} {n : Nat} {l3 l4 : UInt8} (h : (op == 2) = false) : restB p ⟨op, d, a, b, c, n⟩ l3 l4 = tailB p c n l3 l4 := by
  rw [beq_eq_false_iff_ne] at h; unfold restB tailB; simp [h]
theorem rest_2 {p : Pg} {d a b c : Int} {n : Nat} {l3 l4 : UInt8} {x y : Bool} (hx : wd p.wide d = x) (hy : wd p.wide a = y) : restB p ⟨2, d, a, b, c, n⟩ l3 l4 = (!(x != y) && tailB p c n l3 l4) := by
  unfold restB tailB; simp [hx, hy]
theorem tw_c {p : Pg} {c : Int} {n : Nat} {l3 l4 : UInt8} (h3 : ((l3.toNat : Int) == 99) = true) (h0 : 0 ≤ c) (h1 : c < p.code.length) : tailB p c n l3 l4 = (((l4.toNat : Int) == 110) || ((n : Int) == 0)) := by
  rw [b99] at h3
  rw [b110]
  have h3 := of_decide_eq_true h3
  unfold tailB
  rw [if_pos h3, decide_eq_true ⟨h0, h1⟩, Bool.true_and]
  congr 1
  rw [Bool.eq_iff_iff]; simp
theorem tw_cn {p : Pg} {c : Int} {n : Nat} {l3 l4 : UInt8} (h3 : ((l3.toNat : Int) == 99) = true) (h : c < 0 ∨ (p.code.length : Int) ≤ c) : tailB p c n l3 l4 = false := by
  rw [b99] at h3
  have h3 := of_decide_eq_true h3
  unfold tailB
  rw [if_pos h3, decide_eq_false (by omega), Bool.false_and]
theorem tw_0 {p : Pg} {c : Int} {n : Nat} {l3 l4 : UInt8} (h3 : ((l3.toNat : Int) == 99) = false) (h : c = 0) : tailB p c n l3 l4 = (((l4.toNat : Int) == 110) || ((n : Int) == 0)) := by
  rw [b99] at h3
  rw [b110]
  have h3 := of_decide_eq_false h3
  unfold tailB
  rw [if_neg h3, decide_eq_true h, Bool.true_and]
  congr 1
  rw [Bool.eq_iff_iff]; simp
theorem tw_0n {p : Pg} {c : Int} {n : Nat} {l3 l4 : UInt8} (h3 : ((l3.toNat : Int) == 99) = false) (h : ¬ c = 0) : tailB p c n l3 l4 = false := by
  rw [b99] at h3
  have h3 := of_decide_eq_false h3
  unfold tailB
  rw [if_neg h3, decide_eq_false h, Bool.false_and]
theorem or_110 {l : UInt8} {n : Nat} (h : (l.toNat : Int) = 110) : (((l.toNat : Int) == 110) || ((n : Int) == 0)) = true := by simp [h]
theorem or_n110 {l : UInt8} {n : Nat} (h : ¬ (l.toNat : Int) = 110) : (((l.toNat : Int) == 110) || ((n : Int) == 0)) = ((n : Int) == 0) := by simp [h]
theorem shape_2 {l0 l1 l2 l3 l4 : UInt8} (h : shape 2 = [l0, l1, l2, l3, l4]) : l0 = 120 ∧ l1 = 120 ∧ l3 = 45 ∧ l4 = 45 := by
  have e : shape 2 = [120, 120, 45, 45, 45] := rfl
  rw [e] at h
  simp at h
  obtain ⟨h0, h1, _, h3, h4⟩ := h
  exact ⟨h0.symm, h1.symm, h3.symm, h4.symm⟩
theorem temp_x {wide : List Bool} {n : Int} (h : tempB wide n 120 = true) : 0 ≤ n ∧ n < wide.length := by
  unfold tempB at h
  rw [if_neg (by decide)] at h
  simp only [Bool.and_eq_true, decide_eq_true_eq] at h
  exact h.1

/-- what the loop over the fields holds -/
def InsRel (p : Pg) (op d a b cc : Int) (n : Nat) (l0 l1 l2 : UInt8) (k : Int) : Prop :=
  (k = 0 ∨ (k = 1 ∧ tempB p.wide d l0 = true) ∨ (k = 2 ∧ tempB p.wide d l0 = true ∧ tempB p.wide a l1 = true) ∨ (k = 3 ∧ tempB p.wide d l0 = true ∧ tempB p.wide a l1 = true ∧ tempB p.wide b l2 = true))

set_option maxHeartbeats 1000000 in
set_option maxRecDepth 100000 in
theorem ins_any (R : Nat → Prop) (v : Value) (p : Pg) (i : In) (w : World) (h : RdPg w R v p) :
    Calls Try.prog 89 #[v, i.val] w fun e w' => e = .returned (.bool (insB p i)) ∧ Fr w w' := by
  have H := Lib.hid h
  obtain ⟨vw, vc, rfl, ⟨A, c, rfl, hl, hr⟩, ⟨A', c', rfl, hl', hr', ho'⟩⟩ := h
  unfold maxLen at hl hl'
  cases hk : known i.op with
  | false =>
    have hfin := Lib.hid (insB_no (p := p) hk)
    have hS := Lib.hid (fun w => Shape_any i.op w)
    rw [hk] at hS
    clear hr hr' ho' H hk
    obtain ⟨op, d, a, b, cc, n⟩ := i
    unfold In.val
    go_enter Try.func89, Try.ntmps89
    go_wp2_with (go_at_call 81; refine (hS.out _).mono ?_; rintro e w' ⟨rfl, rfl⟩)
    go_ret
    exact ⟨ret_b hfin.out.symm, ((Kept.refl _ w).alloc _).alloc _⟩
  | true =>
    obtain ⟨l0, l1, l2, l3, l4, hls⟩ := shape_letters hk
    have hS := Lib.hid (fun w => Shape_any i.op w)
    rw [hk, show shapeS i.op = ⟨#[l0, l1, l2, l3, l4]⟩ by unfold shapeS; rw [hls]] at hS
    have HK := Lib.hid hk
    have HLS := Lib.hid hls
    clear hr hr' ho' hk hls
    obtain ⟨op, d, a, b, cc, n⟩ := i
    unfold In.val
    simp only at hS HK HLS
    go_enter Try.func89, Try.ntmps89
    go_wp2_with (go_at_call 81; refine (hS.out _).mono ?_; rintro e w' ⟨rfl, rfl⟩)
    go_loopw [25] (fun i wr => ∃ k : Int, i = .int .i64 k ∧ Hid (InsRel p op d a b cc n l0 l1 l2 k) ∧ InsMem w wr (.slice A p.wide.length c) (.slice A' p.code.length c') ⟨op, d, a, b, cc, n⟩) (fun i _ => 3 - (intOf i).toNat)
    case atStart =>
      refine ⟨0, rfl, Or.inl rfl, (Blk.new w _ _).alloc _, ?_, ((Kept.refl _ w).alloc _).alloc _⟩
      have := Blk.new (w.alloc (.cells #[Value.slice A p.wide.length c, Value.slice A' p.code.length c'] 25)) 45 #[.int .i64 op, .int .i64 d, .int .i64 a, .int .i64 b, .int .i64 cc, .int .u32 n]
      simpa using this
    case round =>
      obtain ⟨k, rfl, hrel, hmem⟩ := hrel
      have HM := Lib.hid hmem
      have c0 := hmem.bp.cell 0
      have c1 := hmem.bp.cell 1
      simp only [List.getElem?_toArray, List.getElem?_cons_succ, List.getElem?_cons_zero] at c0 c1
      have hp2 := H.out.kept hmem.fr (fun _ _ h => h)
      have HT := Lib.hid (fun (n : Int) (l : UInt8) (d : Nat) (os : Array Obj) => temp_any R _ p n l (grow (redrawn wr d) os) (hp2.kept (kept_of_regrown (S := fun _ => False) (w := wr) d os) (fun _ _ h => h)))
      clear hp2 hmem
      have q0 := cell_regrown c0
      have q1 := cell_regrown c1
      rcases hrel.out with rfl | ⟨rfl, t0⟩ | ⟨rfl, t0, t1⟩ | ⟨rfl, t0, t1, t2⟩
      · clear hrel
        cases ht : tempB p.wide d l0 with
        | false =>
          have hfin := Lib.hid (insB_no0 (p := p) (i := ⟨op, d, a, b, cc, n⟩) HLS.out ht)
          have HT0 := Lib.hid (fun d' os => HT.out d l0 d' os)
          have hix : ∀ w, (Instr.index 152 (.agg #[.int .i64 d, .int .i64 a, .int .i64 b]) (.int .i64 0)).run Try.prog w = .ok (.int .i64 d) w := fun _ => by kernel_rfl
          rw [ht] at HT0
          clear ht HT 
          go_wp2
          refine wp_region_quiet_below (by kernel_rfl) (by kernel_rfl) ?_
          repeat (quiet_step (refine Calls.regrown_of ((HT0.out _ _).mono fun e w' h => ⟨h.1, h.2.below⟩)))
          refine wpQuiet_nil ?_
          intro _ hw2
          obtain ⟨pq, rfl⟩ := hw2
          go_wp2
          go_ret
          exact ⟨ret_b hfin.out.symm, HM.out.fr.trans (kept_of_regrown _ _)⟩
        | true =>
          have hnext : Hid (InsRel p op d a b cc n l0 l1 l2 1) := Or.inr (Or.inl ⟨rfl, ht⟩)
          have HT0 := Lib.hid (fun d' os => HT.out d l0 d' os)
          have hix : ∀ w, (Instr.index 152 (.agg #[.int .i64 d, .int .i64 a, .int .i64 b]) (.int .i64 0)).run Try.prog w = .ok (.int .i64 d) w := fun _ => by kernel_rfl
          rw [ht] at HT0
          clear ht HT 
          go_wp2
          refine wp_region_quiet_below (by kernel_rfl) (by kernel_rfl) ?_
          repeat (quiet_step (refine Calls.regrown_of ((HT0.out _ _).mono fun e w' h => ⟨h.1, h.2.below⟩)))
          refine wpQuiet_nil ?_
          intro _ hw2
          obtain ⟨pq, rfl⟩ := hw2
          go_wp2
          go_roundw
          case rel => exact ⟨1, rfl, hnext, HM.out.below (kept_of_regrown _ _)⟩
          case measure => simp [intOf]
      · clear hrel
        cases ht : tempB p.wide a l1 with
        | false =>
          have hfin := Lib.hid (insB_no1 (p := p) (i := ⟨op, d, a, b, cc, n⟩) HLS.out ht)
          have HT0 := Lib.hid (fun d' os => HT.out a l1 d' os)
          have hix : ∀ w, (Instr.index 152 (.agg #[.int .i64 d, .int .i64 a, .int .i64 b]) (.int .i64 1)).run Try.prog w = .ok (.int .i64 a) w := fun _ => by kernel_rfl
          rw [ht] at HT0
          clear ht HT t0
          go_wp2
          refine wp_region_quiet_below (by kernel_rfl) (by kernel_rfl) ?_
          repeat (quiet_step (refine Calls.regrown_of ((HT0.out _ _).mono fun e w' h => ⟨h.1, h.2.below⟩)))
          refine wpQuiet_nil ?_
          intro _ hw2
          obtain ⟨pq, rfl⟩ := hw2
          go_wp2
          go_ret
          exact ⟨ret_b hfin.out.symm, HM.out.fr.trans (kept_of_regrown _ _)⟩
        | true =>
          have hnext : Hid (InsRel p op d a b cc n l0 l1 l2 2) := Or.inr (Or.inr (Or.inl ⟨rfl, t0, ht⟩))
          have HT0 := Lib.hid (fun d' os => HT.out a l1 d' os)
          have hix : ∀ w, (Instr.index 152 (.agg #[.int .i64 d, .int .i64 a, .int .i64 b]) (.int .i64 1)).run Try.prog w = .ok (.int .i64 a) w := fun _ => by kernel_rfl
          rw [ht] at HT0
          clear ht HT t0
          go_wp2
          refine wp_region_quiet_below (by kernel_rfl) (by kernel_rfl) ?_
          repeat (quiet_step (refine Calls.regrown_of ((HT0.out _ _).mono fun e w' h => ⟨h.1, h.2.below⟩)))
          refine wpQuiet_nil ?_
          intro _ hw2
          obtain ⟨pq, rfl⟩ := hw2
          go_wp2
          go_roundw
          case rel => exact ⟨2, rfl, hnext, HM.out.below (kept_of_regrown _ _)⟩
          case measure => simp [intOf]
      · clear hrel
        cases ht : tempB p.wide b l2 with
        | false =>
          have hfin := Lib.hid (insB_no2 (p := p) (i := ⟨op, d, a, b, cc, n⟩) HLS.out ht)
          have HT0 := Lib.hid (fun d' os => HT.out b l2 d' os)
          have hix : ∀ w, (Instr.index 152 (.agg #[.int .i64 d, .int .i64 a, .int .i64 b]) (.int .i64 2)).run Try.prog w = .ok (.int .i64 b) w := fun _ => by kernel_rfl
          rw [ht] at HT0
          clear ht HT t0 t1
          go_wp2
          refine wp_region_quiet_below (by kernel_rfl) (by kernel_rfl) ?_
          repeat (quiet_step (refine Calls.regrown_of ((HT0.out _ _).mono fun e w' h => ⟨h.1, h.2.below⟩)))
          refine wpQuiet_nil ?_
          intro _ hw2
          obtain ⟨pq, rfl⟩ := hw2
          go_wp2
          go_ret
          exact ⟨ret_b hfin.out.symm, HM.out.fr.trans (kept_of_regrown _ _)⟩
        | true =>
          have hnext : Hid (InsRel p op d a b cc n l0 l1 l2 3) := Or.inr (Or.inr (Or.inr ⟨rfl, t0, t1, ht⟩))
          have HT0 := Lib.hid (fun d' os => HT.out b l2 d' os)
          have hix : ∀ w, (Instr.index 152 (.agg #[.int .i64 d, .int .i64 a, .int .i64 b]) (.int .i64 2)).run Try.prog w = .ok (.int .i64 b) w := fun _ => by kernel_rfl
          rw [ht] at HT0
          clear ht HT t0 t1
          go_wp2
          refine wp_region_quiet_below (by kernel_rfl) (by kernel_rfl) ?_
          repeat (quiet_step (refine Calls.regrown_of ((HT0.out _ _).mono fun e w' h => ⟨h.1, h.2.below⟩)))
          refine wpQuiet_nil ?_
          intro _ hw2
          obtain ⟨pq, rfl⟩ := hw2
          go_wp2
          go_roundw
          case rel => exact ⟨3, rfl, hnext, HM.out.below (kept_of_regrown _ _)⟩
          case measure => simp [intOf]
      · have hfin := Lib.hid (insB_rest (p := p) (i := ⟨op, d, a, b, cc, n⟩) HK.out HLS.out t0 t1 t2)
        clear hrel HT q0 q1
        have d0 := HM.out.bi.cell 0
        have d1 := HM.out.bi.cell 1
        have d2 := HM.out.bi.cell 2
        have d4 := HM.out.bi.cell 4
        have d5 := HM.out.bi.cell 5
        simp only [List.getElem?_toArray, List.getElem?_cons_succ, List.getElem?_cons_zero] at d0 d1 d2 d4 d5
        go_wp2
        by_cases h2 : op = 2
        · subst h2
          obtain ⟨rfl, rfl, rfl, rfl⟩ := shape_2 HLS.out
          obtain ⟨g0, g1⟩ := temp_x t0
          obtain ⟨g2, g3⟩ := temp_x t1
          have hr := pg_wide (H.out.kept HM.out.fr (fun _ _ h => h))
          obtain ⟨b1, off, rfl, _, hcell⟩ := hr.2 (by omega)
          have hx : p.wide[d.toNat]? = some p.wide[d.toNat] := List.getElem?_eq_getElem (by omega)
          have hy : p.wide[a.toNat]? = some p.wide[a.toNat] := List.getElem?_eq_getElem (by omega)
          have r0 := hcell d.toNat (.bool p.wide[d.toNat]) (by rw [List.getElem?_map, hx]; rfl)
          have r1 := hcell a.toNat (.bool p.wide[a.toNat]) (by rw [List.getElem?_map, hy]; rfl)
          have hw := Lib.hid (rest_2 (p := p) (d := d) (a := a) (b := b) (c := cc) (n := n) (l3 := 45) (l4 := 45) (wd_get hx) (wd_get hy))
          clear t0 t1 t2 hcell hr hx hy
          generalize p.wide[d.toNat] = x at *
          generalize p.wide[a.toNat] = y at *
          cases x <;> cases y
          case true.true | false.false =>
            go_quiet (fail)
            go_wp2
            all_goals go_ret
            all_goals refine ⟨ret_b ?_, HM.out.fr.trans ((Kept.refl _ wr).drewN nq)⟩
            all_goals rw [hfin.out, hw.out]
            all_goals show _ = tailB p cc n 45 45
            all_goals first
              | (rw [tw_0 (l3 := 45) ‹_› ‹_›]; exact (or_110 (l := 45) ‹_›).symm)
              | (rw [tw_0 (l3 := 45) ‹_› ‹_›]; rfl)
              | (rw [tw_0n (l3 := 45) ‹_› ‹_›])
              | (rw [tw_c (l3 := 45) ‹_› ‹_› ‹_›]; exact (or_110 (l := 45) ‹_›).symm)
              | (rw [tw_c (l3 := 45) ‹_› ‹_› ‹_›]; rfl)
              | (rw [tw_cn (l3 := 45) ‹_› (Or.inr ‹_›)])
              | (rw [tw_cn (l3 := 45) ‹_› (Or.inl ‹_›)])
          all_goals
            go_quiet (fail)
            go_wp2
            go_ret
            refine ⟨ret_b ?_, HM.out.fr.trans ((Kept.refl _ wr).drewN nq)⟩
            rw [hfin.out, hw.out]
            rfl
        · have e2 : (op == 2) = false := by rw [beq_eq_false_iff_ne]; exact h2
          clear h2 t0 t1 t2
          go_quiet (fail)
          go_wp2
          all_goals go_ret
          all_goals refine ⟨ret_b ?_, HM.out.fr.trans ((Kept.refl _ wr).drewN nq)⟩
          all_goals rw [hfin.out, rest_ne e2]
          · rw [tw_c (l3 := l3) ‹_› ‹_› ‹_›]; exact (or_110 (l := l4) ‹_›).symm
          · rw [tw_c (l3 := l3) ‹_› ‹_› ‹_›]; rfl
          · rw [tw_cn (l3 := l3) ‹_› (Or.inr ‹_›)]
          · rw [tw_cn (l3 := l3) ‹_› (Or.inl ‹_›)]
          · rw [tw_0 (l3 := l3) ‹_› ‹_›]; exact (or_110 (l := l4) ‹_›).symm
          · rw [tw_0 (l3 := l3) ‹_› ‹_›]; rfl
          · rw [tw_0n (l3 := l3) ‹_› ‹_›]
end Go.Proofs.Ytodmkjeankbieab
