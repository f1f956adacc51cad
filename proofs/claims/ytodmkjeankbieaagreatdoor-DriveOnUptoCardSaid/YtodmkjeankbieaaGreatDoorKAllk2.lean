/- Texts of this claim, packed. -/
import Derived.Test.YtodmkjeankbieaaGreatDoorKAllk0
import Derived.Test.YtodmkjeankbieaaGreatDoorRows
import Derived.WalkKit
import Derived.ProofKit
import Derived.OpenShut
import Derived.Carry
import Derived.Lib.SmallJoins
import Derived.Test.YtodmkjeankbieaaGreatDoorProg
import Derived.WalkSpells
import Derived.WalkLawsBesides
import Derived.Lib.Hide
import Derived.Outline
import Derived.BigQuiet
import Derived.Deep.QuietTactic
import Derived.Deep.RegionHeld3
set_option linter.all false
namespace Go.Proofs.YtodmkjeankbieaaGreatDoor
open Go.ChangeShapes Go.WideShapes Go.ChangeAt Go.RowKit

theorem own : ownKnob Tryz.prog.godebug = none := by kernel_rfl
theorem laidOk : laidOutB Tryz.prog = true := by kernel_rfl

theorem trodAll_stays {H : Type} {enc : TypeId × Value → H} {P : Program} (laidOk : laidOutB P = true) {W W' : World} (hb : Below W.heap.size W W') : ∀ (ts : List TypeId) (vs : List Value) (ds : List (DataW H)) (ps : List MemPlace),
   ts.all (fun t => P.readableRec t && decide (t < P.types.size)) = true → (∀ x ∈ ps, x.block < W.heap.size) →
   DataW.TrodAll enc P W 0 (fun _ => true) true ts vs ds ps → DataW.TrodAll enc P W' 0 (fun b => decide (b < W.heap.size)) true ts vs ds ps
 | [], [], [], _, _, _, h => h
 | t :: ts, v :: vs, d :: ds, ps, hr, hlt, h => by
   obtain ⟨p, q, h1, h2, rfl⟩ := h
   simp only [List.all_cons, Bool.and_eq_true, decide_eq_true_eq] at hr
   refine ⟨p, q, Below.trod laidOk hr.1.1 hr.1.2 h1 hb (fun x hx => hlt x (List.mem_append_left _ hx)), ?_, rfl⟩
   exact trodAll_stays laidOk hb ts vs ds q hr.2 (fun x hx => hlt x (List.mem_append_right _ hx)) h2
 | [], _ :: _, _, _, _, _, h => h.elim
 | [], [], _ :: _, _, _, _, h => h.elim
 | _ :: _, [], _, _, _, _, h => h.elim
 | _ :: _, _ :: _, [], _, _, _, h => h.elim

theorem law_post {H : Type} {enc : TypeId × Value → H} {f : Func} {s : ChangeSpec} {W W' : World} {args : Array Value} {ds gs : List (DataW H)} {before : List MemPlace}
   (hr : (f.params.toList.all fun t => Tryz.prog.readableRec t && decide (t < Tryz.prog.types.size)) = true) (hv : s.vars = []) (hres : f.resultTypes = #[4]) (hW : DataW.Whole enc Tryz.prog f.params.toList s.vars false W args.toList ds gs before)
   (hfn : s.fn H (ds ++ gs) = { results := [.lit (.bool true)], args := ds }) (hb : Below W.heap.size W W') :
   ∃ v, Ending.returned (.bool true) = .returned v ∧ s.post enc Tryz.prog f false true false false W args v W' := by
 have hlt : ∀ x ∈ before, x.block < W.heap.size := fun x hx => hW.lt x hx
 have hW' := hW
 obtain ⟨p, q, hA, hV, rfl, _, _⟩ := hW
 have hq : q = [] := by
   rw [hv] at hV
   exact (trodVars_none hV).2
 subst hq
 have hg : gs = [] := by
   rw [hv] at hV
   exact (trodVars_none hV).1
 subst hg
 refine ⟨_, rfl, ds, [], p ++ [], [], p, [], hW', ?_, ?_, ?_, hb.frame _, fun h => by cases h⟩
 · rw [hfn, hres]
   exact trodAll_cons_mk (shut_bool Tryz.underlying4 _) trodAll_mk0
 · rw [hfn]
   exact trodAll_stays laidOk hb _ _ _ _ hr (fun x hx => hlt x (by simpa using hx)) hA
 · rw [hv]
   have : (s.fn H (ds ++ [])).vars = [] := by rw [hfn]
   rw [this]
   rfl

end Go.Proofs.YtodmkjeankbieaaGreatDoor


namespace Go.Proofs.YtodmkjeankbieaaGreatDoor
open Go.RowKit Go.Sort

def shapeS (op : Int) : ByteArray := ⟨(shape op).toArray⟩

theorem sh_c {op n : Int} (h : (op == n) = true) : Ending.returned (.tuple #[.string (shapeS n), .bool (known n)]) = .returned (.tuple #[.string (shapeS op), .bool (known op)]) := by
 rw [beq_iff_eq] at h; rw [h]
theorem sh_op {op : Int} (h1 : 20 < op) (h2 : op ≤ 26) : Ending.returned (.tuple #[.string ⟨#[110, 110, 110, 45, 45]⟩, .bool true]) = .returned (.tuple #[.string (shapeS op), .bool (known op)]) := by
 unfold shapeS; rw [shape_op h1 h2, show known op = true from decide_eq_true (by omega)]
theorem sh_wide {op : Int} (h1 : 40 < op) (h2 : op ≤ 45) : Ending.returned (.tuple #[.string ⟨#[119, 119, 119, 45, 45]⟩, .bool true]) = .returned (.tuple #[.string (shapeS op), .bool (known op)]) := by
 unfold shapeS; rw [shape_wide h1 h2, show known op = true from decide_eq_true (by omega)]
theorem sh_none {op : Int} (h1 : (op == 1) = false) (h2 : (op == 2) = false) (h3 : (op == 3) = false) (h4 : (op == 4) = false) (h5 : (op == 5) = false) (h6 : (op == 6) = false) (h7 : (op == 7) = false) (h8 : (op == 8) = false)
   (h9 : (op == 9) = false) (h10 : (op == 10) = false) (h20 : 26 < op ∨ op ≤ 20) (h40 : 45 < op ∨ op ≤ 40) : Ending.returned (.tuple #[.string ⟨#[]⟩, .bool false]) = .returned (.tuple #[.string (shapeS op), .bool (known op)]) := by
 simp only [beq_eq_false_iff_ne] at *
 have e : shape op = [] := by
   unfold shape
   iterate 12 rw [if_neg (by omega)]
 unfold shapeS; rw [e, show known op = false from decide_eq_false (by omega)]

theorem Shape_any (op : Int) (w : World) :
   Calls Tryz.prog 51 #[.int .i64 op] w fun e w' => e = .returned (.tuple #[.string (shapeS op), .bool (known op)]) ∧ w = w' := by
 go_enter Tryz.func51, Tryz.ntmps51
 go_wp2
 all_goals go_ret2
 · exact ⟨sh_c ‹(op == 1) = true›, rfl⟩
 · exact ⟨sh_c ‹(op == 2) = true›, rfl⟩
 · exact ⟨sh_c ‹(op == 3) = true›, rfl⟩
 · exact ⟨sh_c ‹(op == 4) = true›, rfl⟩
 · exact ⟨sh_c ‹(op == 5) = true›, rfl⟩
 · exact ⟨sh_c ‹(op == 6) = true›, rfl⟩
 · exact ⟨sh_c ‹(op == 7) = true›, rfl⟩
 · exact ⟨sh_c ‹(op == 8) = true›, rfl⟩
 · exact ⟨sh_c ‹(op == 9) = true›, rfl⟩
 · exact ⟨sh_c ‹(op == 10) = true›, rfl⟩
 · exact ⟨sh_op ‹_› ‹_›, rfl⟩
 · exact ⟨sh_wide ‹_› ‹_›, rfl⟩
 all_goals exact ⟨sh_none ‹_› ‹_› ‹_› ‹_› ‹_› ‹_› ‹_› ‹_› ‹_› ‹_› (by first | exact Or.inl ‹_› | exact Or.inr ‹_›) (by first | exact Or.inl ‹_› | exact Or.inr ‹_›), rfl⟩

theorem wd_get {wide : List Bool} {n : Int} {b : Bool} (h : wide[n.toNat]? = some b) : wd wide n = b := by
 unfold wd; rw [List.getD_eq_getElem?_getD, h]; rfl

set_option maxHeartbeats 400000 in
set_option maxRecDepth 100000 in
theorem temp_any (R : Nat → Prop) (v : Value) (p : Pg) (n : Int) (l : UInt8) (w : World) (h : RdPg w R v p) :
   Calls Tryz.prog 78 #[v, .int .i64 n, .int .u8 (l.toNat : Int)] w fun e w' => e = .returned (.bool (tempB p.wide n l)) ∧ Fr w w' := by
 obtain ⟨vw, vc, rfl, ⟨A, c, rfl, hl, hr⟩, hc⟩ := h
 unfold maxLen at hl
 by_cases h45 : l = 45
 · subst h45
   go_enter Tryz.func78, Tryz.ntmps78
   go_wp2
   go_ret
   exact ⟨ret_b (by unfold tempB; rw [if_pos rfl]; rfl), (Kept.refl _ w).alloc _⟩
 · have e45 : ((l.toNat : Int) == 45) = false := by rw [beq_eq_false_iff_ne]; intro hc; exact h45 (UInt8.toNat_inj.1 (by simpa using Int.ofNat_inj.1 hc))
   by_cases hin : 0 ≤ n ∧ n < p.wide.length
   · obtain ⟨h0, h1⟩ := hin
     obtain ⟨b, off, rfl, _, hcell⟩ := hr.2 (by omega)
     have hx : p.wide[n.toNat]? = some p.wide[n.toNat] := List.getElem?_eq_getElem (by omega)
     have hw := Lib.hid (wd_get hx)
     have c0 := hcell n.toNat (.bool p.wide[n.toNat]) (by rw [List.getElem?_map, hx]; rfl)
     generalize p.wide[n.toNat] = x at *
     have hb := cell_lt c0
     have hfin : Hid (tempB p.wide n l = (decide (l = 120) || (x == decide (l = 119)))) := by
       show _ = _
       unfold tempB; rw [if_neg h45, decide_eq_true (⟨h0, h1⟩ : 0 ≤ n ∧ n < p.wide.length), hw.out]; rfl
     clear hx hcell hr hc h45
     by_cases h120 : l = 120
     · subst h120
       go_enter Tryz.func78, Tryz.ntmps78
       go_wp2
       go_ret
       exact ⟨ret_b (by rw [hfin.out]; rfl), (Kept.refl _ w).alloc _⟩
     · have e120 : ((l.toNat : Int) == 120) = false := by rw [beq_eq_false_iff_ne]; intro hc; exact h120 (UInt8.toNat_inj.1 (by simpa using Int.ofNat_inj.1 hc))
       have e119 : Hid (((l.toNat : Int) == 119) = decide (l = 119)) := by
         show _ = _
         by_cases h : l = 119
         · subst h; rfl
         · rw [decide_eq_false h, beq_eq_false_iff_ne]; intro hc; exact h (UInt8.toNat_inj.1 (by simpa using Int.ofNat_inj.1 hc))
       go_enter Tryz.func78, Tryz.ntmps78
       go_wp2
       go_ret
       exact ⟨ret_b (by rw [hfin.out, decide_eq_false h120, Bool.false_or, ← e119.out]), (Kept.refl _ w).alloc _⟩
   · have hfin : Hid (tempB p.wide n l = false) := by
       show _ = _
       unfold tempB; rw [if_neg h45, decide_eq_false hin]; rfl
     clear hr hc h45
     by_cases h0 : 0 ≤ n
     · have h1 : ¬ n < (p.wide.length : Int) := fun h => hin ⟨h0, h⟩
       clear hin
       go_enter Tryz.func78, Tryz.ntmps78
       go_wp2
       go_ret
       exact ⟨ret_b hfin.out.symm, (Kept.refl _ w).alloc _⟩
     · clear hin
       go_enter Tryz.func78, Tryz.ntmps78
       go_wp2
       go_ret
       exact ⟨ret_b hfin.out.symm, (Kept.refl _ w).alloc _⟩
theorem Kept.drewN {S : Nat → Prop} {a w : World} (h : Kept S a w) (n : Nat) : Kept S a (w.drewN n) := ⟨h.os, h.tape, h.output, h.size, h.block⟩
theorem shape_letters {op : Int} (h : known op = true) : ∃ l0 l1 l2 l3 l4 : UInt8, shape op = [l0, l1, l2, l3, l4] := by
 rcases known_cases h with rfl | rfl | rfl | rfl | rfl | rfl | rfl | rfl | rfl | rfl | ⟨h1, h2⟩ | ⟨h1, h2⟩
 case inr.inr.inr.inr.inr.inr.inr.inr.inr.inr.inl => exact ⟨_, _, _, _, _, shape_op h1 h2⟩
 case inr.inr.inr.inr.inr.inr.inr.inr.inr.inr.inr => exact ⟨_, _, _, _, _, shape_wide h1 h2⟩
 all_goals exact ⟨_, _, _, _, _, rfl⟩

structure InsMem (w wr : World) (vw vc : Value) (i : In) : Prop where
 bp : Blk wr w.heap.size 28 #[vw, vc]
 bi : Blk wr (w.heap.size + 1) 45 #[.int .i64 i.op, .int .i64 i.d, .int .i64 i.a, .int .i64 i.b, .int .i64 i.c, .int .u32 i.n]
 fr : Fr w wr

theorem InsMem.below {w wr w2 : World} {vw vc : Value} {i : In} (h : InsMem w wr vw vc i) (hb : Fr wr w2) : InsMem w w2 vw vc i :=
 ⟨h.bp.kept hb (fun h => h), h.bi.kept hb (fun h => h), h.fr.trans hb⟩
def restB (p : Pg) (i : In) (l3 l4 : UInt8) : Bool :=
 !(decide (i.op = 2) && (wd p.wide i.d != wd p.wide i.a)) && ((if l3 = 99 then decide (0 ≤ i.c ∧ i.c < p.code.length) else decide (i.c = 0)) && (decide (l4 = 110) || decide (i.n = 0)))
theorem insB_no {p : Pg} {i : In} (h : known i.op = false) : insB p i = false := by unfold insB; rw [h]; rfl
theorem insB_no0 {p : Pg} {i : In} {l0 l1 l2 l3 l4 : UInt8} (hls : shape i.op = [l0, l1, l2, l3, l4]) (h : tempB p.wide i.d l0 = false) : insB p i = false := by unfold insB; simp [hls, h]
theorem insB_no1 {p : Pg} {i : In} {l0 l1 l2 l3 l4 : UInt8} (hls : shape i.op = [l0, l1, l2, l3, l4]) (h : tempB p.wide i.a l1 = false) : insB p i = false := by unfold insB; simp [hls, h]
theorem insB_no2 {p : Pg} {i : In} {l0 l1 l2 l3 l4 : UInt8} (hls : shape i.op = [l0, l1, l2, l3, l4]) (h : tempB p.wide i.b l2 = false) : insB p i = false := by unfold insB; simp [hls, h]
theorem insB_rest {p : Pg} {i : In} {l0 l1 l2 l3 l4 : UInt8} (hk : known i.op = true) (hls : shape i.op = [l0, l1, l2, l3, l4]) (h0 : tempB p.wide i.d l0 = true) (h1 : tempB p.wide i.a l1 = true) (h2 : tempB p.wide i.b l2 = true) : insB p i = restB p i l3 l4 := by
 unfold insB restB; simp [hls, h0, h1, h2, hk]

def tailB (p : Pg) (c : Int) (n : Nat) (l3 l4 : UInt8) : Bool := (if l3 = 99 then decide (0 ≤ c ∧ c < p.code.length) else decide (c = 0)) && (decide (l4 = 110) || decide (n = 0))
theorem byte_eq {l : UInt8} {k : Nat} (hk : k < 256) : ((l.toNat : Int) == (k : Int)) = decide (l = UInt8.ofNat k) := by
 rw [Bool.eq_iff_iff, beq_iff_eq, decide_eq_true_iff, Int.ofNat_inj, ← UInt8.toNat_inj]
 have : (UInt8.ofNat k).toNat = k := by simp; omega
 rw [this]
theorem b99 (l : UInt8) : ((l.toNat : Int) == 99) = decide (l = 99) := byte_eq (k := 99) (by decide)
theorem b110 (l : UInt8) : ((l.toNat : Int) == 110) = decide (l = 110) := byte_eq (k := 110) (by decide)
theorem pg_wide {w : World} {R : Nat → Prop} {A : Option Addr} {c : Nat} {vc : Value} {p : Pg} (h : RdPg w R (.agg #[.slice A p.wide.length c, vc]) p) : Reads w R 1 A p.wide.length (p.wide.map Value.bool) := by
 obtain ⟨vw, vc', e, ⟨A1, c1, e1, _, hr⟩, _⟩ := h
 cases e
 cases e1
 exact hr
theorem rest_ne {p : Pg} {op d a b c : Int} {n : Nat} {l3 l4 : UInt8} (h : (op == 2) = false) : restB p ⟨op, d, a, b, c, n⟩ l3 l4 = tailB p c n l3 l4 := by
 rw [beq_eq_false_iff_ne] at h; unfold restB tailB; simp [h]
theorem rest_2 {p : Pg} {d a b c : Int} {n : Nat} {l3 l4 : UInt8} {x y : Bool} (hx : wd p.wide d = x) (hy : wd p.wide a = y) : restB p ⟨2, d, a, b, c, n⟩ l3 l4 = (!(x != y) && tailB p c n l3 l4) := by
 unfold restB tailB; simp [hx, hy]
theorem tw_c {p : Pg} {c : Int} {n : Nat} {l3 l4 : UInt8} (h3 : ((l3.toNat : Int) == 99) = true) (h0 : 0 ≤ c) (h1 : c < p.code.length) : tailB p c n l3 l4 = (((l4.toNat : Int) == 110) || ((n : Int) == 0)) := by
 rw [b99] at h3
 rw [b110]
 have h3 := of_decide_eq_true h3
 unfold tailB
 rw [if_pos h3, decide_eq_true ⟨h0, h1⟩, Bool.true_and]
 congr 1
 rw [Bool.eq_iff_iff]; simp
theorem tw_cn {p : Pg} {c : Int} {n : Nat} {l3 l4 : UInt8} (h3 : ((l3.toNat : Int) == 99) = true) (h : c < 0 ∨ (p.code.length : Int) ≤ c) : tailB p c n l3 l4 = false := by
 rw [b99] at h3
 have h3 := of_decide_eq_true h3
 unfold tailB
 rw [if_pos h3, decide_eq_false (by omega), Bool.false_and]
theorem tw_0 {p : Pg} {c : Int} {n : Nat} {l3 l4 : UInt8} (h3 : ((l3.toNat : Int) == 99) = false) (h : c = 0) : tailB p c n l3 l4 = (((l4.toNat : Int) == 110) || ((n : Int) == 0)) := by
 rw [b99] at h3
 rw [b110]
 have h3 := of_decide_eq_false h3
 unfold tailB
 rw [if_neg h3, decide_eq_true h, Bool.true_and]
 congr 1
 rw [Bool.eq_iff_iff]; simp
theorem tw_0n {p : Pg} {c : Int} {n : Nat} {l3 l4 : UInt8} (h3 : ((l3.toNat : Int) == 99) = false) (h : ¬ c = 0) : tailB p c n l3 l4 = false := by
 rw [b99] at h3
 have h3 := of_decide_eq_false h3
 unfold tailB
 rw [if_neg h3, decide_eq_false h, Bool.false_and]
theorem or_110 {l : UInt8} {n : Nat} (h : (l.toNat : Int) = 110) : (((l.toNat : Int) == 110) || ((n : Int) == 0)) = true := by simp [h]
theorem shape_2 {l0 l1 l2 l3 l4 : UInt8} (h : shape 2 = [l0, l1, l2, l3, l4]) : l0 = 120 ∧ l1 = 120 ∧ l3 = 45 ∧ l4 = 45 := by
 have e : shape 2 = [120, 120, 45, 45, 45] := rfl
 rw [e] at h
 simp at h
 obtain ⟨h0, h1, _, h3, h4⟩ := h
 exact ⟨h0.symm, h1.symm, h3.symm, h4.symm⟩
theorem temp_x {wide : List Bool} {n : Int} (h : tempB wide n 120 = true) : 0 ≤ n ∧ n < wide.length := by
 unfold tempB at h
 rw [if_neg (by decide)] at h
 simp only [Bool.and_eq_true, decide_eq_true_eq] at h
 exact h.1

def InsRel (p : Pg) (op d a b cc : Int) (n : Nat) (l0 l1 l2 : UInt8) (k : Int) : Prop :=
 (k = 0 ∨ (k = 1 ∧ tempB p.wide d l0 = true) ∨ (k = 2 ∧ tempB p.wide d l0 = true ∧ tempB p.wide a l1 = true) ∨ (k = 3 ∧ tempB p.wide d l0 = true ∧ tempB p.wide a l1 = true ∧ tempB p.wide b l2 = true))

set_option maxHeartbeats 1000000 in
set_option maxRecDepth 100000 in
theorem ins_any (R : Nat → Prop) (v : Value) (p : Pg) (i : In) (w : World) (h : RdPg w R v p) :
   Calls Tryz.prog 55 #[v, i.val] w fun e w' => e = .returned (.bool (insB p i)) ∧ Fr w w' := by
 have H := Lib.hid h
 obtain ⟨vw, vc, rfl, ⟨A, c, rfl, hl, hr⟩, ⟨A', c', rfl, hl', hr', ho'⟩⟩ := h
 unfold maxLen at hl hl'
 cases hk : known i.op with
 | false =>
   have hfin := Lib.hid (insB_no (p := p) hk)
   have hS := Lib.hid (fun w => Shape_any i.op w)
   rw [hk] at hS
   clear hr hr' ho' H hk
   obtain ⟨op, d, a, b, cc, n⟩ := i
   unfold In.val
   go_enter Tryz.func55, Tryz.ntmps55
   go_wp2_with (go_at_call 51; refine (hS.out _).mono ?_; rintro e w' ⟨rfl, rfl⟩)
   go_ret
   exact ⟨ret_b hfin.out.symm, ((Kept.refl _ w).alloc _).alloc _⟩
 | true =>
   obtain ⟨l0, l1, l2, l3, l4, hls⟩ := shape_letters hk
   have hS := Lib.hid (fun w => Shape_any i.op w)
   rw [hk, show shapeS i.op = ⟨#[l0, l1, l2, l3, l4]⟩ by unfold shapeS; rw [hls]] at hS
   have HK := Lib.hid hk
   have HLS := Lib.hid hls
   clear hr hr' ho' hk hls
   obtain ⟨op, d, a, b, cc, n⟩ := i
   unfold In.val
   simp only at hS HK HLS
   go_enter Tryz.func55, Tryz.ntmps55
   go_wp2_with (go_at_call 51; refine (hS.out _).mono ?_; rintro e w' ⟨rfl, rfl⟩)
   go_loopw [25] (fun i wr => ∃ k : Int, i = .int .i64 k ∧ Hid (InsRel p op d a b cc n l0 l1 l2 k) ∧ InsMem w wr (.slice A p.wide.length c) (.slice A' p.code.length c') ⟨op, d, a, b, cc, n⟩) (fun i _ => 3 - (intOf i).toNat)
   case atStart =>
     refine ⟨0, rfl, Or.inl rfl, (Blk.new w _ _).alloc _, ?_, ((Kept.refl _ w).alloc _).alloc _⟩
     have := Blk.new (w.alloc (.cells #[Value.slice A p.wide.length c, Value.slice A' p.code.length c'] 28)) 45 #[.int .i64 op, .int .i64 d, .int .i64 a, .int .i64 b, .int .i64 cc, .int .u32 n]
     simpa using this
   case round =>
     obtain ⟨k, rfl, hrel, hmem⟩ := hrel
     have HM := Lib.hid hmem
     have c0 := hmem.bp.cell 0
     have c1 := hmem.bp.cell 1
     simp only [List.getElem?_toArray, List.getElem?_cons_succ, List.getElem?_cons_zero] at c0 c1
     have hp2 := H.out.kept hmem.fr (fun _ _ h => h)
     have HT := Lib.hid (fun (n : Int) (l : UInt8) (d : Nat) (os : Array Obj) => temp_any R _ p n l (grow (redrawn wr d) os) (hp2.kept (kept_of_regrown (S := fun _ => False) (w := wr) d os) (fun _ _ h => h)))
     clear hp2 hmem
     have q0 := cell_regrown c0
     have q1 := cell_regrown c1
     rcases hrel.out with rfl | ⟨rfl, t0⟩ | ⟨rfl, t0, t1⟩ | ⟨rfl, t0, t1, t2⟩
     · clear hrel
       cases ht : tempB p.wide d l0 with
       | false =>
         have hfin := Lib.hid (insB_no0 (p := p) (i := ⟨op, d, a, b, cc, n⟩) HLS.out ht)
         have HT0 := Lib.hid (fun d' os => HT.out d l0 d' os)
         have hix : ∀ w, (Instr.index 144 (.agg #[.int .i64 d, .int .i64 a, .int .i64 b]) (.int .i64 0)).run Tryz.prog w = .ok (.int .i64 d) w := fun _ => by kernel_rfl
         rw [ht] at HT0
         clear ht HT 
         go_wp2
         refine wp_region_quiet_below (by kernel_rfl) (by kernel_rfl) ?_
         repeat (quiet_step (refine Calls.regrown_of ((HT0.out _ _).mono fun e w' h => ⟨h.1, h.2.below⟩)))
         refine wpQuiet_nil ?_
         intro _ hw2
         obtain ⟨pq, rfl⟩ := hw2
         go_wp2
         go_ret
         exact ⟨ret_b hfin.out.symm, HM.out.fr.trans (kept_of_regrown _ _)⟩
       | true =>
         have hnext : Hid (InsRel p op d a b cc n l0 l1 l2 1) := Or.inr (Or.inl ⟨rfl, ht⟩)
         have HT0 := Lib.hid (fun d' os => HT.out d l0 d' os)
         have hix : ∀ w, (Instr.index 144 (.agg #[.int .i64 d, .int .i64 a, .int .i64 b]) (.int .i64 0)).run Tryz.prog w = .ok (.int .i64 d) w := fun _ => by kernel_rfl
         rw [ht] at HT0
         clear ht HT 
         go_wp2
         refine wp_region_quiet_below (by kernel_rfl) (by kernel_rfl) ?_
         repeat (quiet_step (refine Calls.regrown_of ((HT0.out _ _).mono fun e w' h => ⟨h.1, h.2.below⟩)))
         refine wpQuiet_nil ?_
         intro _ hw2
         obtain ⟨pq, rfl⟩ := hw2
         go_wp2
         go_roundw
         case rel => exact ⟨1, rfl, hnext, HM.out.below (kept_of_regrown _ _)⟩
         case measure => simp [intOf]
     · clear hrel
       cases ht : tempB p.wide a l1 with
       | false =>
         have hfin := Lib.hid (insB_no1 (p := p) (i := ⟨op, d, a, b, cc, n⟩) HLS.out ht)
         have HT0 := Lib.hid (fun d' os => HT.out a l1 d' os)
         have hix : ∀ w, (Instr.index 144 (.agg #[.int .i64 d, .int .i64 a, .int .i64 b]) (.int .i64 1)).run Tryz.prog w = .ok (.int .i64 a) w := fun _ => by kernel_rfl
         rw [ht] at HT0
         clear ht HT t0
         go_wp2
         refine wp_region_quiet_below (by kernel_rfl) (by kernel_rfl) ?_
         repeat (quiet_step (refine Calls.regrown_of ((HT0.out _ _).mono fun e w' h => ⟨h.1, h.2.below⟩)))
         refine wpQuiet_nil ?_
         intro _ hw2
         obtain ⟨pq, rfl⟩ := hw2
         go_wp2
         go_ret
         exact ⟨ret_b hfin.out.symm, HM.out.fr.trans (kept_of_regrown _ _)⟩
       | true =>
         have hnext : Hid (InsRel p op d a b cc n l0 l1 l2 2) := Or.inr (Or.inr (Or.inl ⟨rfl, t0, ht⟩))
         have HT0 := Lib.hid (fun d' os => HT.out a l1 d' os)
         have hix : ∀ w, (Instr.index 144 (.agg #[.int .i64 d, .int .i64 a, .int .i64 b]) (.int .i64 1)).run Tryz.prog w = .ok (.int .i64 a) w := fun _ => by kernel_rfl
         rw [ht] at HT0
         clear ht HT t0
         go_wp2
         refine wp_region_quiet_below (by kernel_rfl) (by kernel_rfl) ?_
         repeat (quiet_step (refine Calls.regrown_of ((HT0.out _ _).mono fun e w' h => ⟨h.1, h.2.below⟩)))
         refine wpQuiet_nil ?_
         intro _ hw2
         obtain ⟨pq, rfl⟩ := hw2
         go_wp2
         go_roundw
         case rel => exact ⟨2, rfl, hnext, HM.out.below (kept_of_regrown _ _)⟩
         case measure => simp [intOf]
     · clear hrel
       cases ht : tempB p.wide b l2 with
       | false =>
         have hfin := Lib.hid (insB_no2 (p := p) (i := ⟨op, d, a, b, cc, n⟩) HLS.out ht)
         have HT0 := Lib.hid (fun d' os => HT.out b l2 d' os)
         have hix : ∀ w, (Instr.index 144 (.agg #[.int .i64 d, .int .i64 a, .int .i64 b]) (.int .i64 2)).run Tryz.prog w = .ok (.int .i64 b) w := fun _ => by kernel_rfl
         rw [ht] at HT0
         clear ht HT t0 t1
         go_wp2
         refine wp_region_quiet_below (by kernel_rfl) (by kernel_rfl) ?_
         repeat (quiet_step (refine Calls.regrown_of ((HT0.out _ _).mono fun e w' h => ⟨h.1, h.2.below⟩)))
         refine wpQuiet_nil ?_
         intro _ hw2
         obtain ⟨pq, rfl⟩ := hw2
         go_wp2
         go_ret
         exact ⟨ret_b hfin.out.symm, HM.out.fr.trans (kept_of_regrown _ _)⟩
       | true =>
         have hnext : Hid (InsRel p op d a b cc n l0 l1 l2 3) := Or.inr (Or.inr (Or.inr ⟨rfl, t0, t1, ht⟩))
         have HT0 := Lib.hid (fun d' os => HT.out b l2 d' os)
         have hix : ∀ w, (Instr.index 144 (.agg #[.int .i64 d, .int .i64 a, .int .i64 b]) (.int .i64 2)).run Tryz.prog w = .ok (.int .i64 b) w := fun _ => by kernel_rfl
         rw [ht] at HT0
         clear ht HT t0 t1
         go_wp2
         refine wp_region_quiet_below (by kernel_rfl) (by kernel_rfl) ?_
         repeat (quiet_step (refine Calls.regrown_of ((HT0.out _ _).mono fun e w' h => ⟨h.1, h.2.below⟩)))
         refine wpQuiet_nil ?_
         intro _ hw2
         obtain ⟨pq, rfl⟩ := hw2
         go_wp2
         go_roundw
         case rel => exact ⟨3, rfl, hnext, HM.out.below (kept_of_regrown _ _)⟩
         case measure => simp [intOf]
     · have hfin := Lib.hid (insB_rest (p := p) (i := ⟨op, d, a, b, cc, n⟩) HK.out HLS.out t0 t1 t2)
       clear hrel HT q0 q1
       have d0 := HM.out.bi.cell 0
       have d1 := HM.out.bi.cell 1
       have d2 := HM.out.bi.cell 2
       have d4 := HM.out.bi.cell 4
       have d5 := HM.out.bi.cell 5
       simp only [List.getElem?_toArray, List.getElem?_cons_succ, List.getElem?_cons_zero] at d0 d1 d2 d4 d5
       go_wp2
       by_cases h2 : op = 2
       · subst h2
         obtain ⟨rfl, rfl, rfl, rfl⟩ := shape_2 HLS.out
         obtain ⟨g0, g1⟩ := temp_x t0
         obtain ⟨g2, g3⟩ := temp_x t1
         have hr := pg_wide (H.out.kept HM.out.fr (fun _ _ h => h))
         obtain ⟨b1, off, rfl, _, hcell⟩ := hr.2 (by omega)
         have hx : p.wide[d.toNat]? = some p.wide[d.toNat] := List.getElem?_eq_getElem (by omega)
         have hy : p.wide[a.toNat]? = some p.wide[a.toNat] := List.getElem?_eq_getElem (by omega)
         have r0 := hcell d.toNat (.bool p.wide[d.toNat]) (by rw [List.getElem?_map, hx]; rfl)
         have r1 := hcell a.toNat (.bool p.wide[a.toNat]) (by rw [List.getElem?_map, hy]; rfl)
         have hw := Lib.hid (rest_2 (p := p) (d := d) (a := a) (b := b) (c := cc) (n := n) (l3 := 45) (l4 := 45) (wd_get hx) (wd_get hy))
         clear t0 t1 t2 hcell hr hx hy
         generalize p.wide[d.toNat] = x at *
         generalize p.wide[a.toNat] = y at *
         cases x <;> cases y
         case true.true | false.false =>
           go_quiet (fail)
           go_wp2
           all_goals go_ret
           all_goals refine ⟨ret_b ?_, HM.out.fr.trans ((Kept.refl _ wr).drewN nq)⟩
           all_goals rw [hfin.out, hw.out]
           all_goals show _ = tailB p cc n 45 45
           all_goals first
             | (rw [tw_0 (l3 := 45) ‹_› ‹_›]; exact (or_110 (l := 45) ‹_›).symm)
             | (rw [tw_0 (l3 := 45) ‹_› ‹_›]; rfl)
             | (rw [tw_0n (l3 := 45) ‹_› ‹_›])
             | (rw [tw_c (l3 := 45) ‹_› ‹_› ‹_›]; exact (or_110 (l := 45) ‹_›).symm)
             | (rw [tw_c (l3 := 45) ‹_› ‹_› ‹_›]; rfl)
             | (rw [tw_cn (l3 := 45) ‹_› (Or.inr ‹_›)])
             | (rw [tw_cn (l3 := 45) ‹_› (Or.inl ‹_›)])
         all_goals
           go_quiet (fail)
           go_wp2
           go_ret
           refine ⟨ret_b ?_, HM.out.fr.trans ((Kept.refl _ wr).drewN nq)⟩
           rw [hfin.out, hw.out]
           rfl
       · have e2 : (op == 2) = false := by rw [beq_eq_false_iff_ne]; exact h2
         clear h2 t0 t1 t2
         go_quiet (fail)
         go_wp2
         all_goals go_ret
         all_goals refine ⟨ret_b ?_, HM.out.fr.trans ((Kept.refl _ wr).drewN nq)⟩
         all_goals rw [hfin.out, rest_ne e2]
         · rw [tw_c (l3 := l3) ‹_› ‹_› ‹_›]; exact (or_110 (l := l4) ‹_›).symm
         · rw [tw_c (l3 := l3) ‹_› ‹_› ‹_›]; rfl
         · rw [tw_cn (l3 := l3) ‹_› (Or.inr ‹_›)]
         · rw [tw_cn (l3 := l3) ‹_› (Or.inl ‹_›)]
         · rw [tw_0 (l3 := l3) ‹_› ‹_›]; exact (or_110 (l := l4) ‹_›).symm
         · rw [tw_0 (l3 := l3) ‹_› ‹_›]; rfl
         · rw [tw_0n (l3 := l3) ‹_› ‹_›]
end Go.Proofs.YtodmkjeankbieaaGreatDoor


namespace Go.Proofs.YtodmkjeankbieaaGreatDoor
open Go.RowKit Go.Sort

theorem Reads.ins {w : World} {R : Nat → Prop} {A : Option Addr} {n k : Nat} {l : List In} {i : In} (h : Reads w R 6 A n (l.flatMap In.cells)) (hm : l[k]? = some i) :
   ∃ b off, A = some ⟨b, off, none⟩ ∧ R b ∧ w.cell? ⟨b, off + k * 6, none⟩ = some (.int .i64 i.op) ∧ w.cell? ⟨b, off + k * 6 + 1, none⟩ = some (.int .i64 i.d) ∧ w.cell? ⟨b, off + k * 6 + 2, none⟩ = some (.int .i64 i.a) ∧
     w.cell? ⟨b, off + k * 6 + 3, none⟩ = some (.int .i64 i.b) ∧ w.cell? ⟨b, off + k * 6 + 4, none⟩ = some (.int .i64 i.c) ∧ w.cell? ⟨b, off + k * 6 + 5, none⟩ = some (.int .u32 i.n) := by
 obtain ⟨e, h2⟩ := h.elem In.len (by omega)
 have hk : k < l.length := (List.getElem?_eq_some_iff.1 hm).1
 obtain ⟨b, off, hA, hR, hc⟩ := h2 (by omega)
 exact ⟨b, off, hA, hR, hc k i hm 0 _ rfl, hc k i hm 1 _ rfl, hc k i hm 2 _ rfl, hc k i hm 3 _ rfl, hc k i hm 4 _ rfl, hc k i hm 5 _ rfl⟩
theorem pg_code {w : World} {R : Nat → Prop} {A : Option Addr} {c : Nat} {vw : Value} {p : Pg} (h : RdPg w R (.agg #[vw, .slice A p.code.length c]) p) : Reads w R 6 A p.code.length (p.code.flatMap In.cells) := by
 obtain ⟨vw, vc', e, _, ⟨A1, c1, e1, _, hr, _⟩⟩ := h
 cases e
 cases e1
 exact hr
def allTo (p : Pg) (f : Pg → In → Bool) (k : Nat) : Prop := (p.code.take k).all (f p) = true
theorem allTo_0 (p : Pg) (f : Pg → In → Bool) : allTo p f 0 := rfl
theorem allTo_s {p : Pg} {f : Pg → In → Bool} {k : Nat} {i : In} (h : allTo p f k) (hi : p.code[k]? = some i) (hf : f p i = true) : allTo p f (k + 1) := by
 unfold allTo at *
 rw [List.take_add_one, List.all_append, h, hi]
 simp [hf]
theorem allTo_no {p : Pg} {f : Pg → In → Bool} {k : Nat} {i : In} (hi : p.code[k]? = some i) (hf : f p i = false) : p.code.all (f p) = false := by
 rw [List.all_eq_false]
 exact ⟨i, List.mem_of_getElem? hi, by rw [hf]; decide⟩
theorem allTo_all {p : Pg} {f : Pg → In → Bool} (h : allTo p f p.code.length) : p.code.all (f p) = true := by
 unfold allTo at h; rwa [List.take_length] at h

set_option maxHeartbeats 1000000 in
set_option maxRecDepth 100000 in
theorem May_any (R : Nat → Prop) (v : Value) (p : Pg) (w : World) (h : RdPg w R v p) :
   Calls Tryz.prog 27 #[v] w fun e w' => e = .returned (.bool (mayB p)) ∧ Fr w w' := by
 have H := Lib.hid h
 obtain ⟨vw, vc, rfl, ⟨A, c, rfl, hl, hr⟩, ⟨A', c', rfl, hl', hr', ho'⟩⟩ := h
 unfold maxLen at hl hl'
 clear hr ho'
 have HR := Lib.hid hr'
 clear hr'
 go_enter Tryz.func27, Tryz.ntmps27
 go_wp2
 go_loopw [8] (fun i wr => ∃ k : Nat, k ≤ p.code.length ∧ i = .int .i64 k ∧ Hid (allTo p insB k) ∧ Blk wr w.heap.size 28 #[.slice A p.wide.length c, .slice A' p.code.length c'] ∧ Fr w wr) (fun i _ => p.code.length - (intOf i).toNat)
 case atStart => exact ⟨0, by omega, rfl, allTo_0 p insB, Blk.new w _ _, (Kept.refl _ w).alloc _⟩
 case round =>
   obtain ⟨k, hk, rfl, hall, hblk, hfr⟩ := hrel
   have c0 := hblk.cell 0
   have c1 := hblk.cell 1
   simp only [List.getElem?_toArray, List.getElem?_cons_succ, List.getElem?_cons_zero] at c0 c1
   have hsz := hblk.lt
   have HB := Lib.hid hblk
   have HF := Lib.hid hfr
   clear hblk hfr
   by_cases hlt : k < p.code.length
   · have hx : p.code[k]? = some p.code[k] := List.getElem?_eq_getElem hlt
     obtain ⟨b, off, rfl, _, d0, d1, d2, d3, d4, d5⟩ := (HR.out.kept HF.out (fun _ _ h => h)).ins hx
     have HX := Lib.hid hx
     clear hx
     generalize p.code[k] = i at *
     have hb := cell_lt d0
     go_wp2_with fail
     refine (ins_any R _ p i _ (H.out.kept (HF.out.alloc _) (fun _ _ h => h))).mono ?_
     rintro e w1 ⟨rfl, f1⟩
     have f2 : Fr w w1 := (HF.out.alloc _).trans f1
     have HB1 := Lib.hid ((HB.out.alloc _).kept f1 (fun h => h))
     cases hi : insB p i with
     | true =>
       have HN := Lib.hid (allTo_s hall.out HX.out hi)
       clear hi
       go_wp2
       go_roundw
       case rel => exact ⟨k + 1, by omega, by go_num, HN, HB1.out, f2⟩
       case measure => simp [intOf]; omega
     | false =>
       have HN : Hid (mayB p = false) := by show _ = _; unfold mayB; rw [allTo_no (f := insB) HX.out hi]; rfl
       clear hi
       go_wp2
       go_ret
       exact ⟨ret_b HN.out.symm, f2⟩
   · obtain rfl : k = p.code.length := by omega
     have HN : Hid (mayB p = (decide (1 ≤ p.wide.length) && decide (p.wide.length ≤ 12) && decide (1 ≤ p.code.length) && decide (p.code.length ≤ 40))) := by
       show _ = _; unfold mayB; rw [allTo_all hall.out, Bool.true_and]
     clear hall hk
     go_wp2
     all_goals go_ret
     all_goals refine ⟨ret_b ?_, HF.out⟩
     all_goals rw [HN.out]
     all_goals (rw [Bool.eq_iff_iff]; simp; omega)
end Go.Proofs.YtodmkjeankbieaaGreatDoor


namespace Go.Proofs.YtodmkjeankbieaaGreatDoor
open Go.RowKit Go.Sort

theorem step_app {P : Program} {w : World} {ops : Array Oper} {o : Oper} {a : Act} {K : Act → World → Prop} {Q : Exit → Act → World → Prop} {E : Prop} (hgd : o.guard = none) {base : Nat} {t e : TypeId} {size bytes : Nat} (hT : SlTy P t e size bytes) (s x : Operand)
   (ho : o.op = .call { callee := .builtin .append, args := #[s, x], argTypes := #[t, t] })
   (v : Value) (n : Nat) (xs : List Value) (hs : a.eval s = v) (hown : w.ownsRow base e size v n xs)
   (R : Nat → Prop) (A : Option Addr) (m c : Nat) (news : List Value) (hx : a.eval x = .slice A m c) (hr : Reads w R size A m news) (h1 : ∀ u ∈ news, u.oneCell' = true)
   (hbytes : (n + m) * bytes ≤ 140737488355328) (h63 : n + m ≤ maxLen) (hbase : base ≤ w.heap.size)
   (h : ∀ v' w', w'.ownsRow base e size v' (n + m) (xs ++ news) → Kept (fun k => v.ownBlock = some k) w w' → (v'.ownBlock = v.ownBlock ∨ v'.ownBlock = some w.heap.size) → K (a.put o.dst v') w') :
   if Region.wanted o (yielded ops a.tmps) = true then Oper.wp P o a w K Q else E := by
 have hw : Region.wanted o (yielded ops a.tmps) = true := by simp [Region.wanted, hgd]
 rw [if_pos hw]
 exact wp_app w hT s x ho v n xs hs hown R A m c news hx hr h1 hbytes h63 hbase h

end Go.Proofs.YtodmkjeankbieaaGreatDoor


namespace Go.Proofs.YtodmkjeankbieaaGreatDoor
open Go.RowKit Go.Sort

theorem shape_bytes {op : Int} (h : known op = true) : ∃ l0 l1 l2 l3 l4 : UInt8, shapeS op = ⟨#[l0, l1, l2, l3, l4]⟩ ∧ ((l0.toNat : Int) != 45) = gvs op ∧ ((l1.toNat : Int) != 45) = decide (0 < many op) ∧ ((l2.toNat : Int) != 45) = decide (1 < many op) := by
 obtain ⟨l0, l1, l2, l3, l4, hls⟩ := shape_letters h
 obtain ⟨s0, s1, s2⟩ := shape_there h
 rw [hls] at s0 s1 s2
 simp only [List.getD_cons_zero, List.getD_cons_succ] at s0 s1 s2
 have hb : ∀ l : UInt8, ((l.toNat : Int) != 45) = !decide (l = 45) := by
   intro l
   have := byte_eq (l := l) (k := 45) (by decide)
   rw [bne, show ((l.toNat : Int) == 45) = ((l.toNat : Int) == ((45 : Nat) : Int)) from rfl, this]
   rfl
 refine ⟨l0, l1, l2, l3, l4, by unfold shapeS; rw [hls], ?_, ?_, ?_⟩
 · rw [hb, s0, Bool.not_not]
 · rw [hb, s1, Bool.not_not]
 · rw [hb, s2, Bool.not_not]

set_option maxHeartbeats 400000 in
set_option maxRecDepth 100000 in
theorem Gives_any (i : In) (w : World) (hk : known i.op = true) :
   Calls Tryz.prog 21 #[i.val] w fun e w' => e = .returned (.bool (gvs i.op)) ∧ Fr w w' := by
 obtain ⟨l0, l1, l2, l3, l4, hs, h0, h1, h2⟩ := shape_bytes hk
 have hS := Lib.hid (fun w => Shape_any i.op w)
 rw [hs] at hS
 have H0 := Lib.hid h0
 clear hk hs h0 h1 h2
 obtain ⟨op, d, a, b, cc, n⟩ := i
 unfold In.val
 simp only at hS H0 ⊢
 go_enter Tryz.func21, Tryz.ntmps21
 go_wp2_with (go_at_call 51; refine (hS.out _).mono ?_; rintro e w' ⟨rfl, rfl⟩)
 go_ret
 exact ⟨ret_b H0.out, (Kept.refl _ w).alloc _⟩

def RdI (w : World) (R : Nat → Prop) (v : Value) (l : List Int) : Prop := ∃ A c, v = .slice A l.length c ∧ Reads w R 1 A l.length (l.map (Value.int .i64))
theorem RdI.kept {w w' : World} {R S : Nat → Prop} {v : Value} {l : List Int} (h : RdI w R v l) (hk : Kept S w w') (hs : ∀ b, R b → ¬ S b) : RdI w' R v l :=
 let ⟨A, c, e, hr⟩ := h
 ⟨A, c, e, hr.kept hk hs⟩
theorem RdI.at_ {w : World} {R : Nat → Prop} {v : Value} {l : List Int} (h : RdI w R v l) {k : Nat} {x : Int} (hx : l[k]? = some x) : ∃ b off c, v = .slice (some ⟨b, off, none⟩) l.length c ∧ R b ∧ b < w.heap.size ∧ w.cell? ⟨b, off + k, none⟩ = some (.int .i64 x) := by
 obtain ⟨A, c, rfl, hr⟩ := h
 have hk : k < l.length := (List.getElem?_eq_some_iff.1 hx).1
 obtain ⟨b, off, rfl, hR, hc⟩ := hr.2 (by omega)
 have := hc k (.int .i64 x) (by rw [List.getElem?_map, hx]; rfl)
 exact ⟨b, off, c, rfl, hR, cell_lt this, this⟩
theorem RdI.of_own {w : World} {base : Nat} {v : Value} {l : List Int} (h : w.ownsRow base 3 1 v l.length (l.map (Value.int .i64))) : RdI w (fun b => base ≤ b) v l := by
 obtain ⟨A, c, hv, _, hr⟩ := own_reads h
 exact ⟨A, c, hv, hr.more (fun b hb => hb.1)⟩

theorem slInt' : SlTy Tryz.prog 119 3 1 8 := SlTy.mk' (z := .int .i64 0) Tryz.underlying119 (by kernel_rfl) rfl (by decide)

def usesTo (op a b : Int) (k : Nat) : List Int := ([a, b].take (many op)).take k
theorem usesTo_no {op a b : Int} {k : Nat} (h : ¬ k < many op) : usesTo op a b (k + 1) = usesTo op a b k := by
 unfold usesTo
 rw [List.take_take, List.take_take, Nat.min_eq_right (by omega), Nat.min_eq_right (by omega)]
theorem usesTo_yes {op a b x : Int} {k : Nat} (h : k < many op) (hx : [a, b][k]? = some x) : usesTo op a b (k + 1) = usesTo op a b k ++ [x] := by
 unfold usesTo
 rw [List.take_add_one, List.getElem?_take, if_pos h, hx]
 rfl
theorem usesTo_2 (i : In) : usesTo i.op i.a i.b 2 = uses i := by
 unfold usesTo uses
 rw [List.take_of_length_le (by simp; omega)]
theorem usesTo_len (op a b : Int) (k : Nat) : (usesTo op a b k).length ≤ 2 := by unfold usesTo; simp; omega

structure UsMem (w wr : World) (i : In) (v : Value) (l : List Int) : Prop where
 bi : Blk wr w.heap.size 45 #[.int .i64 i.op, .int .i64 i.d, .int .i64 i.a, .int .i64 i.b, .int .i64 i.c, .int .u32 i.n]
 ow : wr.ownsRow w.heap.size 3 1 v l.length (l.map (Value.int .i64))
 fr : Fr w wr

set_option maxHeartbeats 1000000 in
set_option maxRecDepth 100000 in
theorem Uses_any (i : In) (w : World) (hk : known i.op = true) :
   Calls Tryz.prog 50 #[i.val] w fun e w' => ∃ v, e = .returned v ∧ RdI w' (fun b => w.heap.size ≤ b) v (uses i) ∧ Fr w w' := by
 obtain ⟨l0, l1, l2, l3, l4, hs, _, h1, h2⟩ := shape_bytes hk
 have hS := Lib.hid (fun w => Shape_any i.op w)
 rw [hs] at hS
 have HU := Lib.hid (usesTo_2 i)
 have H1 := Lib.hid h1
 have H2 := Lib.hid h2
 clear hk hs h1 h2
 obtain ⟨op, d, a, b, cc, n⟩ := i
 unfold In.val
 simp only at hS H1 H2 HU ⊢
 go_enter Tryz.func50, Tryz.ntmps50
 go_wp2_with (go_at_call 51; refine (hS.out _).mono ?_; rintro e w' ⟨rfl, rfl⟩)
 go_loopw [5, 19] (fun v i wr => ∃ k : Int, (k = 0 ∨ k = 1 ∨ k = 2) ∧ i = .int .i64 k ∧ Hid (UsMem w wr ⟨op, d, a, b, cc, n⟩ v (usesTo op a b k.toNat))) (fun _ i _ => 2 - (intOf i).toNat)
 case atStart => exact ⟨0, Or.inl rfl, rfl, ⟨Blk.new w _ _, ⟨rfl, Or.inl ⟨rfl, rfl⟩⟩, (Kept.refl _ w).alloc _⟩⟩
 case round =>
   obtain ⟨k, hk, rfl, hmem⟩ := hrel
   have z0 := hmem.out.bi.lt
   have HM := Lib.hid hmem.out.bi
   have HF := Lib.hid hmem.out.fr
   rcases hk with rfl | rfl | rfl
   · have hix : ∀ w, (Instr.index 161 (.agg #[.int .i64 a, .int .i64 b]) (.int .i64 0)).run Tryz.prog w = .ok (.int .i64 a) w := fun _ => by kernel_rfl
     have HO := Lib.hid (show wr.ownsRow w.heap.size 3 1 u5 (usesTo op a b 0).length ((usesTo op a b 0).map (Value.int .i64)) from hmem.out.ow)
     have hll := usesTo_len op a b 0
     by_cases hm : 0 < many op
     · have hb : ((((⟨#[l0, l1, l2, l3, l4]⟩ : ByteArray)[1]'(by show 1 < 5; decide)).toNat : Int) != 45) = true := H1.out.trans (decide_eq_true hm)
       have HY := Lib.hid (usesTo_yes (op := op) (a := a) (b := b) (k := 0) (x := a) hm rfl)
       clear hm
       go_wp2_with (at_builtin
                    refine wpList_app (base := w.heap.size) _ rfl slInt' (.tmp 28) (.tmp 30) rfl u5 _ _ rfl (World.ownsRow.alloc HO.out _) (fun _ => True) _ 1 1 _ rfl (Reads.lit' (by simp) trivial rfl) ?_ ?_ ?_ ?_ ?_
                    · simp [Value.oneCell']
                    · omega
                    · unfold maxLen; omega
                    · simp; omega
                    intro v1 w1 hown1 hk1 hat1)
       have HB1 := Lib.hid (Blk.kept (HM.out.alloc _) hk1 (own_blk_ne HO.out HM.out (by decide)))
       have HF1 := Lib.hid (Kept.app (HF.out.alloc _) (World.ownsRow.alloc HO.out _) hk1)
       have HO1 : Hid (w1.ownsRow w.heap.size 3 1 v1 (usesTo op a b 1).length ((usesTo op a b 1).map (Value.int .i64))) := by
         show World.ownsRow _ _ _ _ _ _ _
         rw [HY.out, List.length_append, List.map_append]
         exact hown1
       clear hown1 hk1 hat1
       go_wp2
       go_roundw
       case rel => exact ⟨1, Or.inr (Or.inl rfl), rfl, ⟨HB1.out, HO1.out, HF1.out⟩⟩
       case measure => simp [intOf]
     · have hb : ((((⟨#[l0, l1, l2, l3, l4]⟩ : ByteArray)[1]'(by show 1 < 5; decide)).toNat : Int) != 45) = false := H1.out.trans (decide_eq_false hm)
       have HY := Lib.hid (usesTo_no (op := op) (a := a) (b := b) (k := 0) hm)
       clear hm
       go_wp2
       go_roundw
       case rel => exact ⟨1, Or.inr (Or.inl rfl), rfl, ⟨HM.out, by show World.ownsRow _ _ _ _ _ (usesTo op a b 1).length ((usesTo op a b 1).map _); rw [HY.out]; exact HO.out, HF.out⟩⟩
       case measure => simp [intOf]
   · have hix : ∀ w, (Instr.index 161 (.agg #[.int .i64 a, .int .i64 b]) (.int .i64 1)).run Tryz.prog w = .ok (.int .i64 b) w := fun _ => by kernel_rfl
     have HO := Lib.hid (show wr.ownsRow w.heap.size 3 1 u5 (usesTo op a b 1).length ((usesTo op a b 1).map (Value.int .i64)) from hmem.out.ow)
     have hll := usesTo_len op a b 1
     by_cases hm : 1 < many op
     · have hb : ((((⟨#[l0, l1, l2, l3, l4]⟩ : ByteArray)[2]'(by show 2 < 5; decide)).toNat : Int) != 45) = true := H2.out.trans (decide_eq_true hm)
       have HY := Lib.hid (usesTo_yes (op := op) (a := a) (b := b) (k := 1) (x := b) hm rfl)
       clear hm
       go_wp2_with (at_builtin
                    refine wpList_app (base := w.heap.size) _ rfl slInt' (.tmp 28) (.tmp 30) rfl u5 _ _ rfl (World.ownsRow.alloc HO.out _) (fun _ => True) _ 1 1 _ rfl (Reads.lit' (by simp) trivial rfl) ?_ ?_ ?_ ?_ ?_
                    · simp [Value.oneCell']
                    · omega
                    · unfold maxLen; omega
                    · simp; omega
                    intro v1 w1 hown1 hk1 hat1)
       have HB1 := Lib.hid (Blk.kept (HM.out.alloc _) hk1 (own_blk_ne HO.out HM.out (by decide)))
       have HF1 := Lib.hid (Kept.app (HF.out.alloc _) (World.ownsRow.alloc HO.out _) hk1)
       have HO1 : Hid (w1.ownsRow w.heap.size 3 1 v1 (usesTo op a b 2).length ((usesTo op a b 2).map (Value.int .i64))) := by
         show World.ownsRow _ _ _ _ _ _ _
         rw [HY.out, List.length_append, List.map_append]
         exact hown1
       clear hown1 hk1 hat1
       go_wp2
       go_roundw
       case rel => exact ⟨2, Or.inr (Or.inr rfl), rfl, ⟨HB1.out, HO1.out, HF1.out⟩⟩
       case measure => simp [intOf]
     · have hb : ((((⟨#[l0, l1, l2, l3, l4]⟩ : ByteArray)[2]'(by show 2 < 5; decide)).toNat : Int) != 45) = false := H2.out.trans (decide_eq_false hm)
       have HY := Lib.hid (usesTo_no (op := op) (a := a) (b := b) (k := 1) hm)
       clear hm
       go_wp2
       go_roundw
       case rel => exact ⟨2, Or.inr (Or.inr rfl), rfl, ⟨HM.out, by show World.ownsRow _ _ _ _ _ (usesTo op a b 2).length ((usesTo op a b 2).map _); rw [HY.out]; exact HO.out, HF.out⟩⟩
       case measure => simp [intOf]
   · go_wp2
     go_ret
     have h2 : wr.ownsRow w.heap.size 3 1 u5 (usesTo op a b 2).length ((usesTo op a b 2).map (Value.int .i64)) := hmem.out.ow
     rw [show usesTo op a b 2 = uses ⟨op, d, a, b, cc, n⟩ from HU.out] at h2
     exact ⟨_, rfl, RdI.of_own h2, HF.out⟩

theorem RdI.lit {w : World} {B g c : Nat} {e : TypeId} {l : List Int} {cs : Array Value} (hg : g = w.heap.size) (hB : B ≤ g) (hl : cs = (l.map (Value.int .i64)).toArray) : RdI (w.alloc (.cells cs e)) (fun b => B ≤ b) (.slice (some ⟨g, 0, none⟩) l.length c) l := by
 refine ⟨_, _, rfl, ?_⟩
 have := Reads.lit' (w := w) (R := fun b => B ≤ b) (e := e) (size := 1) (n := l.length) (cs := cs) hg hB (by rw [hl]; simp)
 rw [hl] at this
 simpa [hl] using this
theorem nexts_8 {op d a b c k : Int} {n : Nat} (h : (op == 8) = true) : nexts ⟨op, d, a, b, c, n⟩ k = [c] := by
 rw [beq_iff_eq] at h; unfold nexts; rw [if_pos h]
theorem nexts_9 {op d a b c k : Int} {n : Nat} (h : (op == 9) = true) : nexts ⟨op, d, a, b, c, n⟩ k = [k + 1, c] := by
 rw [beq_iff_eq] at h; subst h; rfl
theorem nexts_10 {op d a b c k : Int} {n : Nat} (h : (op == 10) = true) : nexts ⟨op, d, a, b, c, n⟩ k = [] := by
 rw [beq_iff_eq] at h; subst h; rfl
theorem nexts_o {op d a b c k : Int} {n : Nat} (h : (op == 8) = false) (h' : (op == 9) = false) (h'' : (op == 10) = false) : nexts ⟨op, d, a, b, c, n⟩ k = [k + 1] := by
 rw [beq_eq_false_iff_ne] at h h' h''; unfold nexts; rw [if_neg h, if_neg h'', if_neg h']

set_option maxRecDepth 100000 in
theorem Nexts_any (i : In) (k : Int) (w : World) (h0 : 0 ≤ k) (h1 : k ≤ 1000) :
   Calls Tryz.prog 52 #[i.val, .int .i64 k] w fun e w' => ∃ v, e = .returned v ∧ RdI w' (fun b => w.heap.size ≤ b) v (nexts i k) ∧ Fr w w' := by
 obtain ⟨op, d, a, b, cc, n⟩ := i
 unfold In.val
 simp only
 go_enter Tryz.func52, Tryz.ntmps52
 go_wp2
 all_goals go_ret
 · rw [nexts_8 ‹_›]
   refine ⟨_, rfl, RdI.lit (g := w.heap.size + 1) (c := 1) (l := [cc]) (cs := #[.int .i64 cc]) ?_ ?_ rfl, ((Kept.refl _ w).alloc _).alloc _⟩
   · simp
   · omega
 · rw [nexts_9 ‹_›]
   refine ⟨_, rfl, RdI.lit (g := w.heap.size + 1) (c := 2) (l := [k + 1, cc]) (cs := #[.int .i64 (k + 1), .int .i64 cc]) ?_ ?_ rfl, ((Kept.refl _ w).alloc _).alloc _⟩
   · simp
   · omega
 · rw [nexts_10 ‹_›]
   exact ⟨_, rfl, ⟨none, 0, rfl, Reads.none_⟩, (Kept.refl _ w).alloc _⟩
 · rw [nexts_o ‹_› ‹_› ‹_›]
   refine ⟨_, rfl, RdI.lit (g := w.heap.size + 1) (c := 1) (l := [k + 1]) (cs := #[.int .i64 (k + 1)]) ?_ ?_ rfl, ((Kept.refl _ w).alloc _).alloc _⟩
   · simp
   · omega

end Go.Proofs.YtodmkjeankbieaaGreatDoor

