/- Texts of this claim, packed. -/
import Derived.Test.YtodmkjeankbieaaGreatDoorKAllk17
set_option linter.all false
namespace Go.Proofs.YtodmkjeankbieaaGreatDoor
open Go.RowKit Go.Sort

def mvTo (sg sl : Int) (l : List Mv) (k : Nat) : Prop := (l.take k).all (mvB sg sl) = true
theorem mvTo_s {sg sl : Int} {l : List Mv} {k : Nat} {m : Mv} (h : mvTo sg sl l k) (hm : l[k]? = some m) (hf : mvB sg sl m = true) : mvTo sg sl l (k + 1) := by
 unfold mvTo at *
 rw [List.take_add_one, List.all_append, h, hm]
 simp [hf]
theorem mvTo_no {sg sl : Int} {l : List Mv} {k : Nat} {m : Mv} (hm : l[k]? = some m) (hf : mvB sg sl m = false) : mvsB sg sl l = false := by
 unfold mvsB
 rw [show l.all (mvB sg sl) = false from by rw [List.all_eq_false]; exact ⟨m, List.mem_of_getElem? hm, by rw [hf]; decide⟩]
 rfl
theorem mvTo_all {sg sl : Int} {l : List Mv} (h : mvTo sg sl l l.length) : mvsB sg sl l = decide ((l.length : Int) ≤ 6) := by
 unfold mvTo at h
 rw [List.take_length] at h
 unfold mvsB
 rw [h, Bool.true_and, decide_eq_decide]
 omega

set_option maxHeartbeats 1000000 in
set_option maxRecDepth 100000 in
theorem moves_any' (R : Nat → Prop) (v : Value) (l : List Mv) (sg sl : Int) (w : World) (h : RdMv w R v l) (h4 : 4 ≤ sg) (h16 : sg ≤ 16) :
   Calls Tryz.prog 88 #[tgV sg, .int .i64 sl, v] w fun e w' => e = .returned (.bool (mvsB sg sl l)) ∧ Fr w w' := by
 obtain ⟨A, c, rfl, hl, hr, ho⟩ := h
 have HR := Lib.hid hr
 unfold maxLen at hl
 clear hr ho
 unfold tgV
 have HF0 := Lib.hid (show Fr w (w.alloc (.cells #[.int .i64 sg] 52)) from (Kept.refl _ w).alloc _)
 have HB0 := Lib.hid (Blk.new w 52 #[.int .i64 sg])
 have HM := Lib.hid (fun m w => move_any sg sl m w h4 h16)
 unfold tgV at HM
 go_enter Tryz.func88, Tryz.ntmps88
 go_wp2
 go_loopw [11] (fun i wr => ∃ k : Nat, k ≤ l.length ∧ i = .int .i64 k ∧ Hid (mvTo sg sl l k) ∧ Hid (Blk wr w.heap.size 52 #[.int .i64 sg]) ∧ Hid (Fr w wr)) (fun i _ => l.length - (intOf i).toNat)
 case atStart => exact ⟨0, by omega, rfl, rfl, HB0, HF0⟩
 case round =>
   obtain ⟨k, hk, rfl, hto, hb, hf⟩ := hrel
   have t0 := hb.out.cell 0
   have z0 := hb.out.lt
   simp only [List.getElem?_toArray, List.getElem?_cons_succ, List.getElem?_cons_zero] at t0
   by_cases hlt : k < l.length
   · have hx : l[k]? = some l[k] := List.getElem?_eq_getElem hlt
     obtain ⟨b, off, rfl, _, d0, d1, d2, d3, d4, d5⟩ := (HR.out.kept hf.out (fun _ _ h => h)).mv hx
     have HX := Lib.hid hx
     have hk0 : (0 : Int) ≤ (k : Int) := Int.natCast_nonneg _
     have hk1 : (k : Int) < (l.length : Int) := by omega
     clear hx
     generalize l[k] = m at *
     have HMm := Lib.hid (HM.out m)
     have zb := cell_lt d0
     obtain ⟨⟨tk, tn⟩, ⟨fk, fn⟩, cb, n⟩ := m
     unfold Mv.value at HMm
     simp only at *
     have HFA := Lib.hid (hf.out.alloc (.cells #[.int .i64 tk, .int .i64 tn, .int .i64 fk, .int .i64 fn, .bool cb, .int .u32 n] 141))
     have HBA := Lib.hid (hb.out.alloc (.cells #[.int .i64 tk, .int .i64 tn, .int .i64 fk, .int .i64 fn, .bool cb, .int .u32 n] 141))
     cases hm : mvB sg sl ⟨⟨tk, tn⟩, ⟨fk, fn⟩, cb, n⟩ with
     | false =>
       have HV := Lib.hid (mvTo_no HX.out hm)
       rw [hm] at HMm
       clear hm
       go_wp2_with fail
       refine (HMm.out _).mono ?_
       rintro e w2 ⟨rfl, f2⟩
       have HF2 := Lib.hid (HFA.out.trans f2)
       clear f2
       go_wp2
       go_ret
       exact ⟨ret_b HV.out.symm, HF2.out⟩
     | true =>
       have HV := Lib.hid (mvTo_s hto.out HX.out hm)
       rw [hm] at HMm
       clear hm
       go_wp2_with fail
       refine (HMm.out _).mono ?_
       rintro e w2 ⟨rfl, f2⟩
       have HF2 := Lib.hid (HFA.out.trans f2)
       have HB2 := Lib.hid (HBA.out.kept f2 (fun h => h))
       clear f2
       go_wp2
       go_roundw
       case rel => exact ⟨k + 1, by omega, by go_num, HV, HB2, HF2⟩
       case measure => simp [intOf]; omega
   · obtain rfl : k = l.length := by omega
     have HV := Lib.hid (mvTo_all hto.out)
     go_wp2
     go_ret
     exact ⟨ret_b HV.out.symm, hf.out⟩

def RwV.value (x : RwV) : Value := .agg #[.int .i64 x.r.d.k, .int .i64 x.r.d.n, .int .i64 x.r.a.k, .int .i64 x.r.a.n, .int .i64 x.r.b.k, .int .i64 x.r.b.n, x.vb, x.va]

structure RowMem (w wr : World) (vw vc : Value) (sg : Int) (ci cr : Array Value) : Prop where
 bp : Blk wr w.heap.size 28 #[vw, vc]
 bt : Blk wr (w.heap.size + 1) 52 #[.int .i64 sg]
 bi : Blk wr (w.heap.size + 2) 45 ci
 br : Blk wr (w.heap.size + 3) 102 cr
 fr : Fr w wr
theorem RowMem.keep {w wr w2 : World} {vw vc : Value} {sg : Int} {ci cr : Array Value} (h : RowMem w wr vw vc sg ci cr) (hk : Fr wr w2) : RowMem w w2 vw vc sg ci cr :=
 ⟨h.bp.kept hk (fun h => h), h.bt.kept hk (fun h => h), h.bi.kept hk (fun h => h), h.br.kept hk (fun h => h), h.fr.trans hk⟩

theorem plB_45 {wide : List Bool} {sg sl t : Int} {k n : Int} : plB wide sg sl 45 t ⟨k, n⟩ = ((k == 0) && (n == 0)) := by
 unfold plB kindV
 rw [Bool.eq_iff_iff]; simp
theorem plB_x {wide : List Bool} {sg sl t : Int} {l : UInt8} {k n : Int} {x : Bool} (hl : l ≠ 45) (hx : wd wide t = x) : plB wide sg sl l t ⟨k, n⟩ = ((k == if x then 2 else 1) && isB sg sl ⟨k, n⟩) := by
 unfold plB kindV
 rw [if_neg hl, hx]
 cases x <;> rw [Bool.eq_iff_iff] <;> simp
def RowRel (P0 P1 P2 : Bool) (k : Int) : Prop := k = 0 ∨ (k = 1 ∧ P0 = true) ∨ (k = 2 ∧ P0 = true ∧ P1 = true) ∨ (k = 3 ∧ P0 = true ∧ P1 = true ∧ P2 = true)
def rowRest (op sg sl : Int) (before after : List Mv) : Bool := mvsB sg sl before && mvsB sg sl after && (!decide (8 ≤ op ∧ op ≤ 10) || decide (after.length = 0))
theorem rwB_split {p : Pg} {sg sl : Int} {i : In} {r : Rw} {l0 l1 l2 l3 l4 : UInt8} (hls : shape i.op = [l0, l1, l2, l3, l4]) :
   rwB p sg sl i r = ((plB p.wide sg sl l0 i.d r.d && plB p.wide sg sl l1 i.a r.a && plB p.wide sg sl l2 i.b r.b) && rowRest i.op sg sl r.before r.after) := by
 unfold rwB rowRest
 rw [hls]
 simp only [List.getD_cons_zero, List.getD_cons_succ, Bool.and_assoc]

set_option maxHeartbeats 4000000 in
set_option maxRecDepth 100000 in
theorem row_any (R R' : Nat → Prop) (v vb va : Value) (p : Pg) (sg sl : Int) (i : In) (r : Rw) (w : World) (h : RdPg w R v p) (hb : RdMv w R' vb r.before) (ha : RdMv w R' va r.after) (h4 : 4 ≤ sg) (h16 : sg ≤ 16) (hI : insB p i = true) (hl0 : 1 ≤ p.wide.length) :
   Calls Tryz.prog 67 #[v, tgV sg, .int .i64 sl, i.val, RwV.value ⟨r, vb, va⟩] w fun e w' => e = .returned (.bool (rwB p sg sl i r)) ∧ Fr w w' := by
 obtain ⟨vw, vc, rfl, ⟨A, c, rfl, hl, hr⟩, ⟨A', c', rfl, hl', hr', ho'⟩⟩ := h
 have HR := Lib.hid hr
 have HB := Lib.hid hb
 have HA := Lib.hid ha
 unfold maxLen at hl hl'
 clear hr hr' ho' hb ha
 have hok := insOk hI
 have hk := hok.kn
 obtain ⟨⟨ha0, ha1⟩, ⟨hb0, hb1⟩, ⟨hd0, hd1⟩, hc0⟩ := ins_fields hI hl0
 obtain ⟨l0, l1, l2, l3, l4, hls⟩ := shape_letters hk
 have hS := Lib.hid (fun w => Shape_any i.op w)
 rw [hk, show shapeS i.op = ⟨#[l0, l1, l2, l3, l4]⟩ by unfold shapeS; rw [hls]] at hS
 have HSP := Lib.hid (rwB_split (p := p) (sg := sg) (sl := sl) (r := r) hls)
 have HIS := Lib.hid (fun a w => is_any sg sl a w h4 h16)
 unfold tgV PlaceV.val at HIS
 obtain ⟨x0, ix0⟩ : ∃ x, p.wide[i.d.toNat]? = some x := ⟨_, List.getElem?_eq_getElem (by omega)⟩
 obtain ⟨x1, ix1⟩ : ∃ x, p.wide[i.a.toNat]? = some x := ⟨_, List.getElem?_eq_getElem (by omega)⟩
 obtain ⟨x2, ix2⟩ : ∃ x, p.wide[i.b.toNat]? = some x := ⟨_, List.getElem?_eq_getElem (by omega)⟩
 have HWD := Lib.hid (And.intro (wd_get ix0) (And.intro (wd_get ix1) (wd_get ix2)))
 have HCELL := Lib.hid (fun (w2 : World) (hf : Fr w w2) => (HR.out.kept hf (fun _ _ h => h)).2 (by omega))
 clear hok hk hls hI
 obtain ⟨op, d, a, b, cc, n⟩ := i
 obtain ⟨⟨dk, dn⟩, ⟨ak, an⟩, ⟨bk, bn⟩, before, after⟩ := r
 unfold In.val RwV.value tgV
 simp only at *
 have HMB := Lib.hid (fun (w2 : World) (hf : Fr w w2) => moves_any' R' vb before sg sl w2 (HB.out.kept hf (fun _ _ h => h)) h4 h16)
 have HMA := Lib.hid (fun (w2 : World) (hf : Fr w w2) => moves_any' R' va after sg sl w2 (HA.out.kept hf (fun _ _ h => h)) h4 h16)
 unfold tgV at HMB HMA
 obtain ⟨Ab, cb, rfl, _⟩ := id HB.out
 obtain ⟨Aa, ca, rfl, hla, _⟩ := id HA.out
 unfold maxLen at hla
 have HM0 : Hid (RowMem w ((((w.alloc (.cells #[.slice A p.wide.length c, .slice A' p.code.length c'] 28)).alloc (.cells #[.int .i64 sg] 52)).alloc (.cells #[.int .i64 op, .int .i64 d, .int .i64 a, .int .i64 b, .int .i64 cc, .int .u32 n] 45)).alloc
     (.cells #[.int .i64 dk, .int .i64 dn, .int .i64 ak, .int .i64 an, .int .i64 bk, .int .i64 bn, .slice Ab before.length cb, .slice Aa after.length ca] 102))
     (.slice A p.wide.length c) (.slice A' p.code.length c') sg #[.int .i64 op, .int .i64 d, .int .i64 a, .int .i64 b, .int .i64 cc, .int .u32 n] #[.int .i64 dk, .int .i64 dn, .int .i64 ak, .int .i64 an, .int .i64 bk, .int .i64 bn, .slice Ab before.length cb, .slice Aa after.length ca]) := by
   refine ⟨(((Blk.new w _ _).alloc _).alloc _).alloc _, ?_, ?_, ?_, ((((Kept.refl _ w).alloc _).alloc _).alloc _).alloc _⟩
   · have := ((Blk.new (w.alloc (.cells #[.slice A p.wide.length c, .slice A' p.code.length c'] 28)) 52 #[.int .i64 sg]).alloc (.cells #[.int .i64 op, .int .i64 d, .int .i64 a, .int .i64 b, .int .i64 cc, .int .u32 n] 45)).alloc
       (.cells #[.int .i64 dk, .int .i64 dn, .int .i64 ak, .int .i64 an, .int .i64 bk, .int .i64 bn, .slice Ab before.length cb, .slice Aa after.length ca] 102)
     simpa using this
   · have := (Blk.new ((w.alloc (.cells #[.slice A p.wide.length c, .slice A' p.code.length c'] 28)).alloc (.cells #[.int .i64 sg] 52)) 45 #[.int .i64 op, .int .i64 d, .int .i64 a, .int .i64 b, .int .i64 cc, .int .u32 n]).alloc
       (.cells #[.int .i64 dk, .int .i64 dn, .int .i64 ak, .int .i64 an, .int .i64 bk, .int .i64 bn, .slice Ab before.length cb, .slice Aa after.length ca] 102)
     simpa using this
   · have := Blk.new (((w.alloc (.cells #[.slice A p.wide.length c, .slice A' p.code.length c'] 28)).alloc (.cells #[.int .i64 sg] 52)).alloc (.cells #[.int .i64 op, .int .i64 d, .int .i64 a, .int .i64 b, .int .i64 cc, .int .u32 n] 45)) 102
       #[.int .i64 dk, .int .i64 dn, .int .i64 ak, .int .i64 an, .int .i64 bk, .int .i64 bn, .slice Ab before.length cb, .slice Aa after.length ca]
     simpa using this
 go_enter Tryz.func67, Tryz.ntmps67
 go_wp2_with (go_at_call 51; refine (hS.out _).mono ?_; rintro e w' ⟨rfl, rfl⟩)
 go_loopw [30] (fun i wr => ∃ k : Int, i = .int .i64 k ∧ Hid (RowRel (plB p.wide sg sl l0 d ⟨dk, dn⟩) (plB p.wide sg sl l1 a ⟨ak, an⟩) (plB p.wide sg sl l2 b ⟨bk, bn⟩) k) ∧
   Hid (RowMem w wr (.slice A p.wide.length c) (.slice A' p.code.length c') sg #[.int .i64 op, .int .i64 d, .int .i64 a, .int .i64 b, .int .i64 cc, .int .u32 n] #[.int .i64 dk, .int .i64 dn, .int .i64 ak, .int .i64 an, .int .i64 bk, .int .i64 bn, .slice Ab before.length cb, .slice Aa after.length ca])) (fun i _ => 3 - (intOf i).toNat)
 case atStart => exact ⟨0, rfl, Or.inl rfl, HM0⟩
 case round =>
   obtain ⟨k, rfl, hrel, hm⟩ := hrel
   have p0 := hm.out.bp.cell 0
   have t0 := hm.out.bt.cell 0
   have i0 := hm.out.bi.cell 0
   have i1 := hm.out.bi.cell 1
   have i2 := hm.out.bi.cell 2
   have i3 := hm.out.bi.cell 3
   have zp := hm.out.bp.lt
   have zt := hm.out.bt.lt
   have zi := hm.out.bi.lt
   simp only [List.getElem?_toArray, List.getElem?_cons_succ, List.getElem?_cons_zero] at p0 t0 i0 i1 i2 i3
   obtain ⟨bw, ow, hAe, _, hcw⟩ := HCELL.out wr hm.out.fr
   subst hAe
   rcases hrel.out with rfl | ⟨rfl, q0⟩ | ⟨rfl, q0, q1⟩ | ⟨rfl, q0, q1, q2⟩
   · have hpi : ∀ w, (Instr.index 174 (.agg #[.int .i64 dk, .int .i64 dn, .int .i64 ak, .int .i64 an, .int .i64 bk, .int .i64 bn]) (.int .i64 0)).run Tryz.prog w = .ok (.agg #[.int .i64 dk, .int .i64 dn]) w := fun _ => by kernel_rfl
     have hpj : ∀ w, (Instr.index 144 (.agg #[.int .i64 d, .int .i64 a, .int .i64 b]) (.int .i64 0)).run Tryz.prog w = .ok (.int .i64 d) w := fun _ => by kernel_rfl
     have hkA : Fr wr (wr.alloc (.cells #[.int .i64 dk, .int .i64 dn] 99)) := (Kept.refl _ wr).alloc _
     have HMA1 := Lib.hid (hm.out.keep hkA)
     have HNX := Lib.hid (fun (hp : plB p.wide sg sl l0 d ⟨dk, dn⟩ = true) => (show RowRel (plB p.wide sg sl l0 d ⟨dk, dn⟩) (plB p.wide sg sl l1 a ⟨ak, an⟩) (plB p.wide sg sl l2 b ⟨bk, bn⟩) 1 from Or.inr (Or.inl ⟨rfl, hp⟩)))
     clear hrel HMB HMA hkA
     by_cases h45 : l0 = 45
     · have b45 : ((((⟨#[l0, l1, l2, l3, l4]⟩ : ByteArray)[0]'(by show 0 < 5; decide)).toNat : Int) == 45) = true := by
         show ((l0.toNat : Int) == 45) = true
         rw [h45]; rfl
       have H45 := Lib.hid h45
       have HP := Lib.hid (plB_45 (wide := p.wide) (sg := sg) (sl := sl) (t := d) (k := dk) (n := dn))
       clear h45
       by_cases hz : dk = 0 ∧ dn = 0
       · have hp : plB p.wide sg sl l0 d ⟨dk, dn⟩ = true := by rw [H45.out, HP.out, hz.1, hz.2]; rfl
         have hnext := Lib.hid (HNX.out hp)
         obtain ⟨e1, e2⟩ := hz
         subst e1; subst e2
         clear hp
         go_wp2
         go_roundw
         case rel => exact ⟨1, rfl, hnext, HMA1⟩
         case measure => simp [intOf]
       · have hp : Hid (plB p.wide sg sl l0 d ⟨dk, dn⟩ = false) := by
           show _ = _
           rw [H45.out, HP.out, Bool.and_eq_false_iff]
           by_cases e : dk = 0
           · exact Or.inr (by simpa using fun e2 => hz ⟨e, e2⟩)
           · exact Or.inl (by simpa using e)
         by_cases e : dk = 0
         · have e2 : (dn != 0) = true := by simpa using fun e2 => hz ⟨e, e2⟩
           subst e
           clear hz
           go_wp2
           all_goals go_ret
           all_goals refine ⟨ret_b ?_, HMA1.out.fr⟩
           all_goals rw [HSP.out, hp.out]
           all_goals simp
         · have e2 : (dk != 0) = true := by simpa using e
           clear hz e
           go_wp2
           all_goals go_ret
           all_goals refine ⟨ret_b ?_, HMA1.out.fr⟩
           all_goals rw [HSP.out, hp.out]
           all_goals simp
     · have e45 : ((((⟨#[l0, l1, l2, l3, l4]⟩ : ByteArray)[0]'(by show 0 < 5; decide)).toNat : Int) == 45) = false := by
         show ((l0.toNat : Int) == 45) = false
         rw [beq_eq_false_iff_ne]
         intro hc
         exact h45 (UInt8.toNat_inj.1 (by simpa using Int.ofNat_inj.1 hc))
       have cw := hcw d.toNat (.bool x0) (by rw [List.getElem?_map, ix0]; rfl)
       have zw := cell_lt cw
       have HPX := Lib.hid (plB_x (sg := sg) (sl := sl) (k := dk) (n := dn) h45 HWD.out.1)
       clear h45
       cases x0 with
       | true =>
         by_cases hkk : dk = 2
         · subst hkk
           have HII := Lib.hid (fun w => HIS.out ⟨2, dn⟩ w)
           simp only at HII
           cases hi : isB sg sl ⟨2, dn⟩ with
           | true =>
             have hp : plB p.wide sg sl l0 d ⟨2, dn⟩ = true := by rw [HPX.out, hi]; rfl
             have hnext := Lib.hid (HNX.out hp)
             rw [hi] at HII
             clear hp hi HPX
             go_wp2
             go_quiet (fail)
             go_wp2_with fail
             refine (HII.out _).mono ?_
             rintro e w2 ⟨rfl, f2⟩
             have HM2 := Lib.hid ((hm.out.keep ((Kept.refl (fun _ => False) wr).alloc (.cells #[.int .i64 2, .int .i64 dn] 99) |>.drewN nq)).keep f2)
             clear f2
             go_wp2
             go_roundw
             case rel => exact ⟨1, rfl, hnext, HM2⟩
             case measure => simp [intOf]
           | false =>
             have hp : Hid (plB p.wide sg sl l0 d ⟨2, dn⟩ = false) := by show _ = _; rw [HPX.out, hi]; rfl
             rw [hi] at HII
             clear hi HPX
             go_wp2
             go_quiet (fail)
             go_wp2_with fail
             refine (HII.out _).mono ?_
             rintro e w2 ⟨rfl, f2⟩
             have HM2 := Lib.hid ((hm.out.keep ((Kept.refl (fun _ => False) wr).alloc (.cells #[.int .i64 2, .int .i64 dn] 99) |>.drewN nq)).keep f2)
             clear f2
             go_wp2
             go_ret
             refine ⟨ret_b ?_, HM2.out.fr⟩
             rw [HSP.out, hp.out]
             simp
         · have hk' : (dk != 2) = true := by simpa using hkk
           have hp : Hid (plB p.wide sg sl l0 d ⟨dk, dn⟩ = false) := by
             show _ = _
             rw [HPX.out]
             simp [hkk]
           clear HPX hkk
           go_wp2
           go_quiet (fail)
           go_wp2
           go_ret
           refine ⟨ret_b ?_, HMA1.out.fr.drewN nq⟩
           rw [HSP.out, hp.out]
           simp
       | false =>
         by_cases hkk : dk = 1
         · subst hkk
           have HII := Lib.hid (fun w => HIS.out ⟨1, dn⟩ w)
           simp only at HII
           cases hi : isB sg sl ⟨1, dn⟩ with
           | true =>
             have hp : plB p.wide sg sl l0 d ⟨1, dn⟩ = true := by rw [HPX.out, hi]; rfl
             have hnext := Lib.hid (HNX.out hp)
             rw [hi] at HII
             clear hp hi HPX
             go_wp2
             go_quiet (fail)
             go_wp2_with fail
             refine (HII.out _).mono ?_
             rintro e w2 ⟨rfl, f2⟩
             have HM2 := Lib.hid ((hm.out.keep ((Kept.refl (fun _ => False) wr).alloc (.cells #[.int .i64 1, .int .i64 dn] 99) |>.drewN nq)).keep f2)
             clear f2
             go_wp2
             go_roundw
             case rel => exact ⟨1, rfl, hnext, HM2⟩
             case measure => simp [intOf]
           | false =>
             have hp : Hid (plB p.wide sg sl l0 d ⟨1, dn⟩ = false) := by show _ = _; rw [HPX.out, hi]; rfl
             rw [hi] at HII
             clear hi HPX
             go_wp2
             go_quiet (fail)
             go_wp2_with fail
             refine (HII.out _).mono ?_
             rintro e w2 ⟨rfl, f2⟩
             have HM2 := Lib.hid ((hm.out.keep ((Kept.refl (fun _ => False) wr).alloc (.cells #[.int .i64 1, .int .i64 dn] 99) |>.drewN nq)).keep f2)
             clear f2
             go_wp2
             go_ret
             refine ⟨ret_b ?_, HM2.out.fr⟩
             rw [HSP.out, hp.out]
             simp
         · have hk' : (dk != 1) = true := by simpa using hkk
           have hp : Hid (plB p.wide sg sl l0 d ⟨dk, dn⟩ = false) := by
             show _ = _
             rw [HPX.out]
             simp [hkk]
           clear HPX hkk
           go_wp2
           go_quiet (fail)
           go_wp2
           go_ret
           refine ⟨ret_b ?_, HMA1.out.fr.drewN nq⟩
           rw [HSP.out, hp.out]
           simp
   · have hpi : ∀ w, (Instr.index 174 (.agg #[.int .i64 dk, .int .i64 dn, .int .i64 ak, .int .i64 an, .int .i64 bk, .int .i64 bn]) (.int .i64 1)).run Tryz.prog w = .ok (.agg #[.int .i64 ak, .int .i64 an]) w := fun _ => by kernel_rfl
     have hpj : ∀ w, (Instr.index 144 (.agg #[.int .i64 d, .int .i64 a, .int .i64 b]) (.int .i64 1)).run Tryz.prog w = .ok (.int .i64 a) w := fun _ => by kernel_rfl
     have hkA : Fr wr (wr.alloc (.cells #[.int .i64 ak, .int .i64 an] 99)) := (Kept.refl _ wr).alloc _
     have HMA1 := Lib.hid (hm.out.keep hkA)
     have HNX := Lib.hid (fun (hp : plB p.wide sg sl l1 a ⟨ak, an⟩ = true) => (show RowRel (plB p.wide sg sl l0 d ⟨dk, dn⟩) (plB p.wide sg sl l1 a ⟨ak, an⟩) (plB p.wide sg sl l2 b ⟨bk, bn⟩) 2 from Or.inr (Or.inr (Or.inl ⟨rfl, q0, hp⟩))))
     clear hrel HMB HMA hkA
     by_cases h45 : l1 = 45
     · have b45 : ((((⟨#[l0, l1, l2, l3, l4]⟩ : ByteArray)[1]'(by show 1 < 5; decide)).toNat : Int) == 45) = true := by
         show ((l1.toNat : Int) == 45) = true
         rw [h45]; rfl
       have H45 := Lib.hid h45
       have HP := Lib.hid (plB_45 (wide := p.wide) (sg := sg) (sl := sl) (t := a) (k := ak) (n := an))
       clear h45
       by_cases hz : ak = 0 ∧ an = 0
       · have hp : plB p.wide sg sl l1 a ⟨ak, an⟩ = true := by rw [H45.out, HP.out, hz.1, hz.2]; rfl
         have hnext := Lib.hid (HNX.out hp)
         obtain ⟨e1, e2⟩ := hz
         subst e1; subst e2
         clear hp
         go_wp2
         go_roundw
         case rel => exact ⟨2, rfl, hnext, HMA1⟩
         case measure => simp [intOf]
       · have hp : Hid (plB p.wide sg sl l1 a ⟨ak, an⟩ = false) := by
           show _ = _
           rw [H45.out, HP.out, Bool.and_eq_false_iff]
           by_cases e : ak = 0
           · exact Or.inr (by simpa using fun e2 => hz ⟨e, e2⟩)
           · exact Or.inl (by simpa using e)
         by_cases e : ak = 0
         · have e2 : (an != 0) = true := by simpa using fun e2 => hz ⟨e, e2⟩
           subst e
           clear hz
           go_wp2
           all_goals go_ret
           all_goals refine ⟨ret_b ?_, HMA1.out.fr⟩
           all_goals rw [HSP.out, hp.out]
           all_goals simp
         · have e2 : (ak != 0) = true := by simpa using e
           clear hz e
           go_wp2
           all_goals go_ret
           all_goals refine ⟨ret_b ?_, HMA1.out.fr⟩
           all_goals rw [HSP.out, hp.out]
           all_goals simp
     · have e45 : ((((⟨#[l0, l1, l2, l3, l4]⟩ : ByteArray)[1]'(by show 1 < 5; decide)).toNat : Int) == 45) = false := by
         show ((l1.toNat : Int) == 45) = false
         rw [beq_eq_false_iff_ne]
         intro hc
         exact h45 (UInt8.toNat_inj.1 (by simpa using Int.ofNat_inj.1 hc))
       have cw := hcw a.toNat (.bool x1) (by rw [List.getElem?_map, ix1]; rfl)
       have zw := cell_lt cw
       have HPX := Lib.hid (plB_x (sg := sg) (sl := sl) (k := ak) (n := an) h45 HWD.out.2.1)
       clear h45
       cases x1 with
       | true =>
         by_cases hkk : ak = 2
         · subst hkk
           have HII := Lib.hid (fun w => HIS.out ⟨2, an⟩ w)
           simp only at HII
           cases hi : isB sg sl ⟨2, an⟩ with
           | true =>
             have hp : plB p.wide sg sl l1 a ⟨2, an⟩ = true := by rw [HPX.out, hi]; rfl
             have hnext := Lib.hid (HNX.out hp)
             rw [hi] at HII
             clear hp hi HPX
             go_wp2
             go_quiet (fail)
             go_wp2_with fail
             refine (HII.out _).mono ?_
             rintro e w2 ⟨rfl, f2⟩
             have HM2 := Lib.hid ((hm.out.keep ((Kept.refl (fun _ => False) wr).alloc (.cells #[.int .i64 2, .int .i64 an] 99) |>.drewN nq)).keep f2)
             clear f2
             go_wp2
             go_roundw
             case rel => exact ⟨2, rfl, hnext, HM2⟩
             case measure => simp [intOf]
           | false =>
             have hp : Hid (plB p.wide sg sl l1 a ⟨2, an⟩ = false) := by show _ = _; rw [HPX.out, hi]; rfl
             rw [hi] at HII
             clear hi HPX
             go_wp2
             go_quiet (fail)
             go_wp2_with fail
             refine (HII.out _).mono ?_
             rintro e w2 ⟨rfl, f2⟩
             have HM2 := Lib.hid ((hm.out.keep ((Kept.refl (fun _ => False) wr).alloc (.cells #[.int .i64 2, .int .i64 an] 99) |>.drewN nq)).keep f2)
             clear f2
             go_wp2
             go_ret
             refine ⟨ret_b ?_, HM2.out.fr⟩
             rw [HSP.out, hp.out]
             simp
         · have hk' : (ak != 2) = true := by simpa using hkk
           have hp : Hid (plB p.wide sg sl l1 a ⟨ak, an⟩ = false) := by
             show _ = _
             rw [HPX.out]
             simp [hkk]
           clear HPX hkk
           go_wp2
           go_quiet (fail)
           go_wp2
           go_ret
           refine ⟨ret_b ?_, HMA1.out.fr.drewN nq⟩
           rw [HSP.out, hp.out]
           simp
       | false =>
         by_cases hkk : ak = 1
         · subst hkk
           have HII := Lib.hid (fun w => HIS.out ⟨1, an⟩ w)
           simp only at HII
           cases hi : isB sg sl ⟨1, an⟩ with
           | true =>
             have hp : plB p.wide sg sl l1 a ⟨1, an⟩ = true := by rw [HPX.out, hi]; rfl
             have hnext := Lib.hid (HNX.out hp)
             rw [hi] at HII
             clear hp hi HPX
             go_wp2
             go_quiet (fail)
             go_wp2_with fail
             refine (HII.out _).mono ?_
             rintro e w2 ⟨rfl, f2⟩
             have HM2 := Lib.hid ((hm.out.keep ((Kept.refl (fun _ => False) wr).alloc (.cells #[.int .i64 1, .int .i64 an] 99) |>.drewN nq)).keep f2)
             clear f2
             go_wp2
             go_roundw
             case rel => exact ⟨2, rfl, hnext, HM2⟩
             case measure => simp [intOf]
           | false =>
             have hp : Hid (plB p.wide sg sl l1 a ⟨1, an⟩ = false) := by show _ = _; rw [HPX.out, hi]; rfl
             rw [hi] at HII
             clear hi HPX
             go_wp2
             go_quiet (fail)
             go_wp2_with fail
             refine (HII.out _).mono ?_
             rintro e w2 ⟨rfl, f2⟩
             have HM2 := Lib.hid ((hm.out.keep ((Kept.refl (fun _ => False) wr).alloc (.cells #[.int .i64 1, .int .i64 an] 99) |>.drewN nq)).keep f2)
             clear f2
             go_wp2
             go_ret
             refine ⟨ret_b ?_, HM2.out.fr⟩
             rw [HSP.out, hp.out]
             simp
         · have hk' : (ak != 1) = true := by simpa using hkk
           have hp : Hid (plB p.wide sg sl l1 a ⟨ak, an⟩ = false) := by
             show _ = _
             rw [HPX.out]
             simp [hkk]
           clear HPX hkk
           go_wp2
           go_quiet (fail)
           go_wp2
           go_ret
           refine ⟨ret_b ?_, HMA1.out.fr.drewN nq⟩
           rw [HSP.out, hp.out]
           simp
   · have hpi : ∀ w, (Instr.index 174 (.agg #[.int .i64 dk, .int .i64 dn, .int .i64 ak, .int .i64 an, .int .i64 bk, .int .i64 bn]) (.int .i64 2)).run Tryz.prog w = .ok (.agg #[.int .i64 bk, .int .i64 bn]) w := fun _ => by kernel_rfl
     have hpj : ∀ w, (Instr.index 144 (.agg #[.int .i64 d, .int .i64 a, .int .i64 b]) (.int .i64 2)).run Tryz.prog w = .ok (.int .i64 b) w := fun _ => by kernel_rfl
     have hkA : Fr wr (wr.alloc (.cells #[.int .i64 bk, .int .i64 bn] 99)) := (Kept.refl _ wr).alloc _
     have HMA1 := Lib.hid (hm.out.keep hkA)
     have HNX := Lib.hid (fun (hp : plB p.wide sg sl l2 b ⟨bk, bn⟩ = true) => (show RowRel (plB p.wide sg sl l0 d ⟨dk, dn⟩) (plB p.wide sg sl l1 a ⟨ak, an⟩) (plB p.wide sg sl l2 b ⟨bk, bn⟩) 3 from Or.inr (Or.inr (Or.inr ⟨rfl, q0, q1, hp⟩))))
     clear hrel HMB HMA hkA
     by_cases h45 : l2 = 45
     · have b45 : ((((⟨#[l0, l1, l2, l3, l4]⟩ : ByteArray)[2]'(by show 2 < 5; decide)).toNat : Int) == 45) = true := by
         show ((l2.toNat : Int) == 45) = true
         rw [h45]; rfl
       have H45 := Lib.hid h45
       have HP := Lib.hid (plB_45 (wide := p.wide) (sg := sg) (sl := sl) (t := b) (k := bk) (n := bn))
       clear h45
       by_cases hz : bk = 0 ∧ bn = 0
       · have hp : plB p.wide sg sl l2 b ⟨bk, bn⟩ = true := by rw [H45.out, HP.out, hz.1, hz.2]; rfl
         have hnext := Lib.hid (HNX.out hp)
         obtain ⟨e1, e2⟩ := hz
         subst e1; subst e2
         clear hp
         go_wp2
         go_roundw
         case rel => exact ⟨3, rfl, hnext, HMA1⟩
         case measure => simp [intOf]
       · have hp : Hid (plB p.wide sg sl l2 b ⟨bk, bn⟩ = false) := by
           show _ = _
           rw [H45.out, HP.out, Bool.and_eq_false_iff]
           by_cases e : bk = 0
           · exact Or.inr (by simpa using fun e2 => hz ⟨e, e2⟩)
           · exact Or.inl (by simpa using e)
         by_cases e : bk = 0
         · have e2 : (bn != 0) = true := by simpa using fun e2 => hz ⟨e, e2⟩
           subst e
           clear hz
           go_wp2
           all_goals go_ret
           all_goals refine ⟨ret_b ?_, HMA1.out.fr⟩
           all_goals rw [HSP.out, hp.out]
           all_goals simp
         · have e2 : (bk != 0) = true := by simpa using e
           clear hz e
           go_wp2
           all_goals go_ret
           all_goals refine ⟨ret_b ?_, HMA1.out.fr⟩
           all_goals rw [HSP.out, hp.out]
           all_goals simp
     · have e45 : ((((⟨#[l0, l1, l2, l3, l4]⟩ : ByteArray)[2]'(by show 2 < 5; decide)).toNat : Int) == 45) = false := by
         show ((l2.toNat : Int) == 45) = false
         rw [beq_eq_false_iff_ne]
         intro hc
         exact h45 (UInt8.toNat_inj.1 (by simpa using Int.ofNat_inj.1 hc))
       have cw := hcw b.toNat (.bool x2) (by rw [List.getElem?_map, ix2]; rfl)
       have zw := cell_lt cw
       have HPX := Lib.hid (plB_x (sg := sg) (sl := sl) (k := bk) (n := bn) h45 HWD.out.2.2)
       clear h45
       cases x2 with
       | true =>
         by_cases hkk : bk = 2
         · subst hkk
           have HII := Lib.hid (fun w => HIS.out ⟨2, bn⟩ w)
           simp only at HII
           cases hi : isB sg sl ⟨2, bn⟩ with
           | true =>
             have hp : plB p.wide sg sl l2 b ⟨2, bn⟩ = true := by rw [HPX.out, hi]; rfl
             have hnext := Lib.hid (HNX.out hp)
             rw [hi] at HII
             clear hp hi HPX
             go_wp2
             go_quiet (fail)
             go_wp2_with fail
             refine (HII.out _).mono ?_
             rintro e w2 ⟨rfl, f2⟩
             have HM2 := Lib.hid ((hm.out.keep ((Kept.refl (fun _ => False) wr).alloc (.cells #[.int .i64 2, .int .i64 bn] 99) |>.drewN nq)).keep f2)
             clear f2
             go_wp2
             go_roundw
             case rel => exact ⟨3, rfl, hnext, HM2⟩
             case measure => simp [intOf]
           | false =>
             have hp : Hid (plB p.wide sg sl l2 b ⟨2, bn⟩ = false) := by show _ = _; rw [HPX.out, hi]; rfl
             rw [hi] at HII
             clear hi HPX
             go_wp2
             go_quiet (fail)
             go_wp2_with fail
             refine (HII.out _).mono ?_
             rintro e w2 ⟨rfl, f2⟩
             have HM2 := Lib.hid ((hm.out.keep ((Kept.refl (fun _ => False) wr).alloc (.cells #[.int .i64 2, .int .i64 bn] 99) |>.drewN nq)).keep f2)
             clear f2
             go_wp2
             go_ret
             refine ⟨ret_b ?_, HM2.out.fr⟩
             rw [HSP.out, hp.out]
             simp
         · have hk' : (bk != 2) = true := by simpa using hkk
           have hp : Hid (plB p.wide sg sl l2 b ⟨bk, bn⟩ = false) := by
             show _ = _
             rw [HPX.out]
             simp [hkk]
           clear HPX hkk
           go_wp2
           go_quiet (fail)
           go_wp2
           go_ret
           refine ⟨ret_b ?_, HMA1.out.fr.drewN nq⟩
           rw [HSP.out, hp.out]
           simp
       | false =>
         by_cases hkk : bk = 1
         · subst hkk
           have HII := Lib.hid (fun w => HIS.out ⟨1, bn⟩ w)
           simp only at HII
           cases hi : isB sg sl ⟨1, bn⟩ with
           | true =>
             have hp : plB p.wide sg sl l2 b ⟨1, bn⟩ = true := by rw [HPX.out, hi]; rfl
             have hnext := Lib.hid (HNX.out hp)
             rw [hi] at HII
             clear hp hi HPX
             go_wp2
             go_quiet (fail)
             go_wp2_with fail
             refine (HII.out _).mono ?_
             rintro e w2 ⟨rfl, f2⟩
             have HM2 := Lib.hid ((hm.out.keep ((Kept.refl (fun _ => False) wr).alloc (.cells #[.int .i64 1, .int .i64 bn] 99) |>.drewN nq)).keep f2)
             clear f2
             go_wp2
             go_roundw
             case rel => exact ⟨3, rfl, hnext, HM2⟩
             case measure => simp [intOf]
           | false =>
             have hp : Hid (plB p.wide sg sl l2 b ⟨1, bn⟩ = false) := by show _ = _; rw [HPX.out, hi]; rfl
             rw [hi] at HII
             clear hi HPX
             go_wp2
             go_quiet (fail)
             go_wp2_with fail
             refine (HII.out _).mono ?_
             rintro e w2 ⟨rfl, f2⟩
             have HM2 := Lib.hid ((hm.out.keep ((Kept.refl (fun _ => False) wr).alloc (.cells #[.int .i64 1, .int .i64 bn] 99) |>.drewN nq)).keep f2)
             clear f2
             go_wp2
             go_ret
             refine ⟨ret_b ?_, HM2.out.fr⟩
             rw [HSP.out, hp.out]
             simp
         · have hk' : (bk != 1) = true := by simpa using hkk
           have hp : Hid (plB p.wide sg sl l2 b ⟨bk, bn⟩ = false) := by
             show _ = _
             rw [HPX.out]
             simp [hkk]
           clear HPX hkk
           go_wp2
           go_quiet (fail)
           go_wp2
           go_ret
           refine ⟨ret_b ?_, HMA1.out.fr.drewN nq⟩
           rw [HSP.out, hp.out]
           simp
   · have HV : Hid (rwB p sg sl ⟨op, d, a, b, cc, n⟩ ⟨⟨dk, dn⟩, ⟨ak, an⟩, ⟨bk, bn⟩, before, after⟩ = rowRest op sg sl before after) := by
       show _ = _
       rw [HSP.out, q0, q1, q2]
       rfl
     clear HSP hrel q0 q1 q2 HIS
     have r6 := hm.out.br.cell 6
     have r7 := hm.out.br.cell 7
     have zr := hm.out.br.lt
     simp only [List.getElem?_toArray, List.getElem?_cons_succ, List.getElem?_cons_zero] at r6 r7
     rcases (by omega : op < 8 ∨ (8 ≤ op ∧ op ≤ 10) ∨ (8 ≤ op ∧ 10 < op)) with h8 | ⟨h8, h10⟩ | ⟨h8, h10⟩
     ·
       have HV2 : Hid (rowRest op sg sl before after = (mvsB sg sl before && mvsB sg sl after)) := by
         show _ = _
         unfold rowRest
         rw [decide_eq_false (by omega)]
         simp
       cases hB : mvsB sg sl before with
       | false =>
         rw [hB] at HMB HV2
         clear hB
         go_wp2_with fail
         refine (HMB.out _ hm.out.fr).mono ?_
         rintro e w2 ⟨rfl, f2⟩
         have HF2 := Lib.hid (hm.out.fr.trans f2)
         clear f2
         go_wp2
         go_ret
         refine ⟨ret_b ?_, HF2.out⟩
         rw [HV.out, HV2.out]
         simp
       | true =>
         rw [hB] at HMB HV2
         clear hB
         go_wp2_with fail
         refine (HMB.out _ hm.out.fr).mono ?_
         rintro e w2 ⟨rfl, f2⟩
         have HM2 := Lib.hid (hm.out.keep f2)
         have t0 := HM2.out.bt.cell 0
         have r7 := HM2.out.br.cell 7
         have zt := HM2.out.bt.lt
         have zr := HM2.out.br.lt
         simp only [List.getElem?_toArray, List.getElem?_cons_succ, List.getElem?_cons_zero] at t0 r7
         clear f2
         cases hA : mvsB sg sl after with
         | false =>
           rw [hA] at HMA HV2
           clear hA
           go_wp2_with fail
           refine (HMA.out _ HM2.out.fr).mono ?_
           rintro e w3 ⟨rfl, f3⟩
           have HF3 := Lib.hid (HM2.out.fr.trans f3)
           clear f3
           go_wp2
           go_ret
           refine ⟨ret_b ?_, HF3.out⟩
           rw [HV.out, HV2.out]
           simp
         | true =>
           rw [hA] at HMA HV2
           clear hA
           go_wp2_with fail
           refine (HMA.out _ HM2.out.fr).mono ?_
           rintro e w3 ⟨rfl, f3⟩
           have HM3 := Lib.hid (HM2.out.keep f3)
           have r7 := HM3.out.br.cell 7
           have zr := HM3.out.br.lt
           simp only [List.getElem?_toArray, List.getElem?_cons_succ, List.getElem?_cons_zero] at r7
           clear f3
           go_wp2
           go_ret
           refine ⟨ret_b ?_, HM3.out.fr⟩
           rw [HV.out, HV2.out, Bool.eq_iff_iff]
           simp
     ·
       have HV2 : Hid (rowRest op sg sl before after = (mvsB sg sl before && mvsB sg sl after && decide (after.length = 0))) := by
         show _ = _
         unfold rowRest
         rw [decide_eq_true (by omega)]
         simp
       cases hB : mvsB sg sl before with
       | false =>
         rw [hB] at HMB HV2
         clear hB
         go_wp2_with fail
         refine (HMB.out _ hm.out.fr).mono ?_
         rintro e w2 ⟨rfl, f2⟩
         have HF2 := Lib.hid (hm.out.fr.trans f2)
         clear f2
         go_wp2
         go_ret
         refine ⟨ret_b ?_, HF2.out⟩
         rw [HV.out, HV2.out]
         simp
       | true =>
         rw [hB] at HMB HV2
         clear hB
         go_wp2_with fail
         refine (HMB.out _ hm.out.fr).mono ?_
         rintro e w2 ⟨rfl, f2⟩
         have HM2 := Lib.hid (hm.out.keep f2)
         have t0 := HM2.out.bt.cell 0
         have r7 := HM2.out.br.cell 7
         have zt := HM2.out.bt.lt
         have zr := HM2.out.br.lt
         simp only [List.getElem?_toArray, List.getElem?_cons_succ, List.getElem?_cons_zero] at t0 r7
         clear f2
         cases hA : mvsB sg sl after with
         | false =>
           rw [hA] at HMA HV2
           clear hA
           go_wp2_with fail
           refine (HMA.out _ HM2.out.fr).mono ?_
           rintro e w3 ⟨rfl, f3⟩
           have HF3 := Lib.hid (HM2.out.fr.trans f3)
           clear f3
           go_wp2
           go_ret
           refine ⟨ret_b ?_, HF3.out⟩
           rw [HV.out, HV2.out]
           simp
         | true =>
           rw [hA] at HMA HV2
           clear hA
           go_wp2_with fail
           refine (HMA.out _ HM2.out.fr).mono ?_
           rintro e w3 ⟨rfl, f3⟩
           have HM3 := Lib.hid (HM2.out.keep f3)
           have r7 := HM3.out.br.cell 7
           have zr := HM3.out.br.lt
           simp only [List.getElem?_toArray, List.getElem?_cons_succ, List.getElem?_cons_zero] at r7
           clear f3
           go_wp2
           go_ret
           refine ⟨ret_b ?_, HM3.out.fr⟩
           rw [HV.out, HV2.out, Bool.eq_iff_iff]
           simp
     ·
       have HV2 : Hid (rowRest op sg sl before after = (mvsB sg sl before && mvsB sg sl after)) := by
         show _ = _
         unfold rowRest
         rw [decide_eq_false (by omega)]
         simp
       cases hB : mvsB sg sl before with
       | false =>
         rw [hB] at HMB HV2
         clear hB
         go_wp2_with fail
         refine (HMB.out _ hm.out.fr).mono ?_
         rintro e w2 ⟨rfl, f2⟩
         have HF2 := Lib.hid (hm.out.fr.trans f2)
         clear f2
         go_wp2
         go_ret
         refine ⟨ret_b ?_, HF2.out⟩
         rw [HV.out, HV2.out]
         simp
       | true =>
         rw [hB] at HMB HV2
         clear hB
         go_wp2_with fail
         refine (HMB.out _ hm.out.fr).mono ?_
         rintro e w2 ⟨rfl, f2⟩
         have HM2 := Lib.hid (hm.out.keep f2)
         have t0 := HM2.out.bt.cell 0
         have r7 := HM2.out.br.cell 7
         have zt := HM2.out.bt.lt
         have zr := HM2.out.br.lt
         simp only [List.getElem?_toArray, List.getElem?_cons_succ, List.getElem?_cons_zero] at t0 r7
         clear f2
         cases hA : mvsB sg sl after with
         | false =>
           rw [hA] at HMA HV2
           clear hA
           go_wp2_with fail
           refine (HMA.out _ HM2.out.fr).mono ?_
           rintro e w3 ⟨rfl, f3⟩
           have HF3 := Lib.hid (HM2.out.fr.trans f3)
           clear f3
           go_wp2
           go_ret
           refine ⟨ret_b ?_, HF3.out⟩
           rw [HV.out, HV2.out]
           simp
         | true =>
           rw [hA] at HMA HV2
           clear hA
           go_wp2_with fail
           refine (HMA.out _ HM2.out.fr).mono ?_
           rintro e w3 ⟨rfl, f3⟩
           have HM3 := Lib.hid (HM2.out.keep f3)
           have r7 := HM3.out.br.cell 7
           have zr := HM3.out.br.lt
           simp only [List.getElem?_toArray, List.getElem?_cons_succ, List.getElem?_cons_zero] at r7
           clear f3
           go_wp2
           go_ret
           refine ⟨ret_b ?_, HM3.out.fr⟩
           rw [HV.out, HV2.out, Bool.eq_iff_iff]
           simp
end Go.Proofs.YtodmkjeankbieaaGreatDoor


namespace Go.Proofs.YtodmkjeankbieaaGreatDoor
open Go.RowKit Go.Sort

def rowTo (p : Pg) (sg sl : Int) (rows : List Rw) (k : Nat) : Prop := ((p.code.zip rows).take k).all (fun x => rwB p sg sl x.1 x.2) = true
theorem rowTo_s {p : Pg} {sg sl : Int} {rows : List Rw} {k : Nat} {i : In} {r : Rw} (h : rowTo p sg sl rows k) (hi : p.code[k]? = some i) (hr : rows[k]? = some r) (hf : rwB p sg sl i r = true) : rowTo p sg sl rows (k + 1) := by
 unfold rowTo at *
 have hz : (p.code.zip rows)[k]? = some (i, r) := by rw [List.getElem?_zip_eq_some]; exact ⟨hi, hr⟩
 rw [List.take_add_one, List.all_append, h, hz]
 simp [hf]
theorem rowTo_no {p : Pg} {sg sl : Int} {rows : List Rw} {k : Nat} {i : In} {r : Rw} (hi : p.code[k]? = some i) (hr : rows[k]? = some r) (hf : rwB p sg sl i r = false) : ((p.code.zip rows).all fun x => rwB p sg sl x.1 x.2) = false := by
 have hz : (p.code.zip rows)[k]? = some (i, r) := by rw [List.getElem?_zip_eq_some]; exact ⟨hi, hr⟩
 rw [List.all_eq_false]
 exact ⟨(i, r), List.mem_of_getElem? hz, by simp [hf]⟩
theorem rowTo_all {p : Pg} {sg sl : Int} {rows : List Rw} (h : rowTo p sg sl rows p.code.length) : ((p.code.zip rows).all fun x => rwB p sg sl x.1 x.2) = true := by
 unfold rowTo at h
 rwa [List.take_of_length_le (by simp; omega)] at h

structure PmMem (w wr : World) (vw vc : Value) (sg sl : Int) (vr : Value) : Prop where
 bp : Blk wr w.heap.size 28 #[vw, vc]
 bt : Blk wr (w.heap.size + 1) 52 #[.int .i64 sg]
 bl : Blk wr (w.heap.size + 2) 55 #[.int .i64 sl, vr]
 fr : Fr w wr
theorem PmMem.keep {w wr w2 : World} {vw vc vr : Value} {sg sl : Int} (h : PmMem w wr vw vc sg sl vr) (hk : Fr wr w2) : PmMem w w2 vw vc sg sl vr :=
 ⟨h.bp.kept hk (fun h => h), h.bt.kept hk (fun h => h), h.bl.kept hk (fun h => h), h.fr.trans hk⟩

set_option maxHeartbeats 4000000 in
set_option maxRecDepth 100000 in
theorem placeMay_any (R R' : Nat → Prop) (v vl : Value) (p : Pg) (sg : Int) (l : Pd) (w : World) (h : RdPg w R v p) (hL : RdPd w R' vl l) :
   Calls Tryz.prog 34 #[v, tgV sg, vl] w fun e w' => e = .returned (.bool (mayL p sg l)) ∧ Fr w w' := by
 have H := Lib.hid h
 obtain ⟨vw, vc, rfl, ⟨A, c, rfl, hl, hr⟩, ⟨A', c', rfl, hl', hr', ho'⟩⟩ := h
 obtain ⟨vr, lv, rfl, hsl, ⟨Ar, cr, rfl, hlr, hrr, hor⟩, hrows⟩ := hL
 have HC := Lib.hid hr'
 have HRW := Lib.hid hrr
 have HOR := Lib.hid (fun (w2 : World) (hf : Fr w w2) x hx => (hor x hx).kept hf (fun _ _ h => h))
 unfold maxLen at hl hl' hlr
 clear hr hr' ho' hrr hor
 obtain ⟨sl, rows⟩ := l
 simp only at hrows hsl ⊢
 have HROWS := Lib.hid hrows
 have hlen : rows.length = lv.length := by rw [hrows]; simp
 clear hrows
 have HMay := Lib.hid (fun w1 (hk : Fr w w1) => May_any R _ p w1 (H.out.kept hk (fun _ _ h => h)))
 have HTg := Lib.hid (fun w => Target_any sg w)
 unfold tgV at HTg ⊢
 have HM0 : Hid (PmMem w (((w.alloc (.cells #[.slice A p.wide.length c, .slice A' p.code.length c'] 28)).alloc (.cells #[.int .i64 sg] 52)).alloc (.cells #[.int .i64 sl, .slice Ar lv.length cr] 55)) (.slice A p.wide.length c) (.slice A' p.code.length c') sg sl (.slice Ar lv.length cr)) := by
   refine ⟨((Blk.new w _ _).alloc _).alloc _, ?_, ?_, (((Kept.refl _ w).alloc _).alloc _).alloc _⟩
   · have := (Blk.new (w.alloc (.cells #[.slice A p.wide.length c, .slice A' p.code.length c'] 28)) 52 #[.int .i64 sg]).alloc (.cells #[.int .i64 sl, .slice Ar lv.length cr] 55)
     simpa using this
   · have := Blk.new ((w.alloc (.cells #[.slice A p.wide.length c, .slice A' p.code.length c'] 28)).alloc (.cells #[.int .i64 sg] 52)) 55 #[.int .i64 sl, .slice Ar lv.length cr]
     simpa using this
 go_enter Tryz.func34, Tryz.ntmps34
 go_wp2_with fail
 refine (HMay.out _ HM0.out.fr).mono ?_
 rintro e w1 ⟨rfl, f1⟩
 have HM1 := Lib.hid (HM0.out.keep f1)
 have t0 := HM1.out.bt.cell 0
 have zt := HM1.out.bt.lt
 simp only [List.getElem?_toArray, List.getElem?_cons_succ, List.getElem?_cons_zero] at t0
 clear f1 HM0 HMay
 cases hmay : mayB p with
 | false =>
   have HV : Hid (mayL p sg ⟨sl, rows⟩ = false) := by show _ = _; unfold mayL; rw [hmay]; rfl
   clear hmay
   go_wp2
   go_ret
   exact ⟨ret_b HV.out.symm, HM1.out.fr⟩
 | true =>
   go_wp2_with fail
   refine (HTg.out _).mono ?_
   rintro e w2 ⟨rfl, f2⟩
   have HM2 := Lib.hid (HM1.out.keep f2)
   have p1 := HM2.out.bp.cell 1
   have s0 := HM2.out.bl.cell 0
   have s1 := HM2.out.bl.cell 1
   have zp := HM2.out.bp.lt
   have zs := HM2.out.bl.lt
   simp only [List.getElem?_toArray, List.getElem?_cons_succ, List.getElem?_cons_zero] at p1 s0 s1
   clear f2 HM1 HTg
   cases htg : tgB sg with
   | false =>
     have HV : Hid (mayL p sg ⟨sl, rows⟩ = false) := by show _ = _; unfold mayL; rw [hmay, htg]; rfl
     clear hmay htg
     go_wp2
     go_ret
     exact ⟨ret_b HV.out.symm, HM2.out.fr⟩
   | true =>
     have HV : Hid (mayL p sg ⟨sl, rows⟩ = (decide (0 ≤ sl) && decide (sl ≤ 12) && decide (lv.length = p.code.length) && (p.code.zip rows).all fun x => rwB p sg sl x.1 x.2)) := by
       show _ = _; unfold mayL; simp only; rw [hmay, htg, hlen]; simp only [Bool.true_and]
     by_cases hs : 0 ≤ sl ∧ sl ≤ 12 ∧ lv.length = p.code.length
     · obtain ⟨g0, g1, g2⟩ := hs
       have HV2 : Hid (mayL p sg ⟨sl, rows⟩ = (p.code.zip rows).all fun x => rwB p sg sl x.1 x.2) := by
         show _ = _; rw [HV.out, decide_eq_true g0, decide_eq_true g1, decide_eq_true g2]; rfl
       obtain ⟨t1, t2, t3⟩ := tg_facts htg
       obtain ⟨l1, l2, l3, l4⟩ := mayB_len hmay
       have HMAY := Lib.hid hmay
       have hl2 : ((lv.length : Nat) : Int) = (p.code.length : Int) := by omega
       rw [g2] at s1
       rw [g2] at HM2
       clear HV hmay htg hl2
       go_wp2
       go_loopw [39] (fun i wr => ∃ k : Nat, k ≤ p.code.length ∧ i = .int .i64 k ∧ Hid (rowTo p sg sl rows k) ∧ Hid (PmMem w wr (.slice A p.wide.length c) (.slice A' p.code.length c') sg sl (.slice Ar p.code.length cr))) (fun i _ => p.code.length - (intOf i).toNat)
       case atStart => exact ⟨0, by omega, rfl, rfl, HM2⟩
       case round =>
         obtain ⟨k, hk, rfl, hto, hm⟩ := hrel
         clear p1 s0 s1 zp zs t0 zt
         have p0 := hm.out.bp.cell 0
         have p1 := hm.out.bp.cell 1
         have t0 := hm.out.bt.cell 0
         have s0 := hm.out.bl.cell 0
         have zp := hm.out.bp.lt
         have zt := hm.out.bt.lt
         have zs := hm.out.bl.lt
         simp only [List.getElem?_toArray, List.getElem?_cons_succ, List.getElem?_cons_zero] at p0 p1 t0 s0
         by_cases hlt : k < p.code.length
         · have hx : p.code[k]? = some p.code[k] := List.getElem?_eq_getElem hlt
           have hltv : k < lv.length := by omega
           have hy : lv[k]? = some lv[k] := List.getElem?_eq_getElem hltv
           obtain ⟨bi, oi, rfl, _, j0, _⟩ := (HC.out.kept hm.out.fr (fun _ _ h => h)).ins hx
           obtain ⟨br, or_, hAr, _, r0, r1, r2, r3, r4, r5, r6, r7⟩ := (HRW.out.kept hm.out.fr (fun _ _ h => h)).rw hy
           subst hAr
           have hI := mayB_ins HMAY.out (List.mem_of_getElem? hx)
           have hxok := HOR.out wr hm.out.fr lv[k] (List.mem_of_getElem? hy)
           have hyr : rows[k]? = some lv[k].r := by rw [HROWS.out, List.getElem?_map, hy]; rfl
           have zr := cell_lt r0
           clear j0
           have hk0 : (0 : Int) ≤ (k : Int) := Int.natCast_nonneg _
           have hk1 : (k : Int) < (p.code.length : Int) := by omega
           have HX := Lib.hid (And.intro hx hyr)
           clear hx hy hyr
           generalize p.code[k] = i at *
           generalize lv[k] = rv at *
           obtain ⟨_, _, _, hvb, hva⟩ := hxok
           obtain ⟨r, vb, va⟩ := rv
           simp only at *
           obtain ⟨Ab, cb, evb, _⟩ := id hvb
           obtain ⟨Aa, ca, eva, _⟩ := id hva
           subst evb; subst eva
           have HP := H.out.kept hm.out.fr (fun _ _ h => h)
           have hf1 : Fr wr (wr.alloc (.cells #[.int .i64 r.d.k, .int .i64 r.d.n, .int .i64 r.a.k, .int .i64 r.a.n, .int .i64 r.b.k, .int .i64 r.b.n, .slice Ab r.before.length cb, .slice Aa r.after.length ca] 102)) := (Kept.refl _ wr).alloc _
           have HBR := Lib.hid (Blk.new wr 102 #[.int .i64 r.d.k, .int .i64 r.d.n, .int .i64 r.a.k, .int .i64 r.a.n, .int .i64 r.b.k, .int .i64 r.b.n, .slice Ab r.before.length cb, .slice Aa r.after.length ca])
           have HMR := Lib.hid (hm.out.keep hf1)
           have HRow := Lib.hid (fun (d : Nat) (os : Array Obj) => row_any R R' _ (.slice Ab r.before.length cb) (.slice Aa r.after.length ca) p sg sl i r (grow (redrawn (wr.alloc (.cells #[.int .i64 r.d.k, .int .i64 r.d.n, .int .i64 r.a.k, .int .i64 r.a.n, .int .i64 r.b.k, .int .i64 r.b.n, .slice Ab r.before.length cb, .slice Aa r.after.length ca] 102)) d) os)
             ((HP.kept hf1 (fun _ _ h => h)).kept (kept_of_regrown (S := fun _ => False) d os) (fun _ _ h => h)) ((hvb.kept hf1 (fun _ _ h => h)).kept (kept_of_regrown (S := fun _ => False) d os) (fun _ _ h => h)) ((hva.kept hf1 (fun _ _ h => h)).kept (kept_of_regrown (S := fun _ => False) d os) (fun _ _ h => h)) t1 t2 hI l1)
           unfold tgV In.val RwV.value at HRow
           simp only at HRow
           obtain ⟨bi2, oi2, hAi, _, i0, i1, i2, i3, i4, i5⟩ := (HC.out.kept HMR.out.fr (fun _ _ h => h)).ins HX.out.1
           simp only [Option.some.injEq, Addr.mk.injEq, and_true] at hAi
           obtain ⟨rfl, rfl⟩ := hAi
           have zi := cell_lt i0
           have p0 := HMR.out.bp.cell 0
           have p1 := HMR.out.bp.cell 1
           have t0 := HMR.out.bt.cell 0
           have s0 := HMR.out.bl.cell 0
           have b0 := HBR.out.cell 0
           have b1 := HBR.out.cell 1
           have b2 := HBR.out.cell 2
           have b3 := HBR.out.cell 3
           have b4 := HBR.out.cell 4
           have b5 := HBR.out.cell 5
           have b6 := HBR.out.cell 6
           have b7 := HBR.out.cell 7
           simp only [List.getElem?_toArray, List.getElem?_cons_succ, List.getElem?_cons_zero] at p0 p1 t0 s0 b0 b1 b2 b3 b4 b5 b6 b7
           have q_p0 := cell_regrown p0
           have q_p1 := cell_regrown p1
           have q_t0 := cell_regrown t0
           have q_s0 := cell_regrown s0
           have q_b0 := cell_regrown b0
           have q_b1 := cell_regrown b1
           have q_b2 := cell_regrown b2
           have q_b3 := cell_regrown b3
           have q_b4 := cell_regrown b4
           have q_b5 := cell_regrown b5
           have q_b6 := cell_regrown b6
           have q_b7 := cell_regrown b7
           have q_i0 := cell_regrown i0
           have q_i1 := cell_regrown i1
           have q_i2 := cell_regrown i2
           have q_i3 := cell_regrown i3
           have q_i4 := cell_regrown i4
           have q_i5 := cell_regrown i5
           cases hrow : rwB p sg sl i r with
           | false =>
             have HV3 : Hid (mayL p sg ⟨sl, rows⟩ = false) := by show _ = _; rw [HV2.out]; exact rowTo_no HX.out.1 HX.out.2 hrow
             rw [hrow] at HRow
             clear hrow HV2
             go_wp2
             refine wp_region_quiet_below (by kernel_rfl) (by kernel_rfl) ?_
             repeat (quiet_step (refine Calls.regrown_of ((HRow.out _ _).mono fun e w' h => ⟨h.1, h.2.below⟩)))
             refine wpQuiet_nil ?_
             intro _ hw2
             obtain ⟨pq, rfl⟩ := hw2
             go_wp2
             go_ret
             exact ⟨ret_b HV3.out.symm, HMR.out.fr.trans (kept_of_regrown _ _)⟩
           | true =>
             have HV3 := Lib.hid (rowTo_s hto.out HX.out.1 HX.out.2 hrow)
             rw [hrow] at HRow
             clear hrow HV2
             go_wp2
             refine wp_region_quiet_below (by kernel_rfl) (by kernel_rfl) ?_
             repeat (quiet_step (refine Calls.regrown_of ((HRow.out _ _).mono fun e w' h => ⟨h.1, h.2.below⟩)))
             refine wpQuiet_nil ?_
             intro _ hw2
             obtain ⟨pq, rfl⟩ := hw2
             go_wp2
             go_roundw
             case rel => exact ⟨k + 1, by omega, by go_num, HV3, Lib.hid (HMR.out.keep (kept_of_regrown _ _))⟩
             case measure => simp [intOf]; omega
         · obtain rfl : k = p.code.length := by omega
           have HV3 : Hid (mayL p sg ⟨sl, rows⟩ = true) := by show _ = _; rw [HV2.out]; exact rowTo_all hto.out
           go_wp2
           go_ret
           exact ⟨ret_b HV3.out.symm, hm.out.fr⟩
     · have HV2 : Hid (mayL p sg ⟨sl, rows⟩ = false) := by
         show _ = _
         rw [HV.out]
         by_cases e0 : 0 ≤ sl
         · by_cases e1 : sl ≤ 12
           · rw [decide_eq_false (fun e2 => hs ⟨e0, e1, e2⟩ : ¬ lv.length = p.code.length)]; simp
           · rw [decide_eq_false e1]; simp
         · rw [decide_eq_false e0]; simp
       rcases (by omega : sl < 0 ∨ (0 ≤ sl ∧ 12 < sl) ∨ (0 ≤ sl ∧ sl ≤ 12 ∧ ¬ (lv.length : Int) = (p.code.length : Int))) with g0 | ⟨g0, g1⟩ | ⟨g0, g1, g2⟩
       · clear HV hmay htg hs
         go_wp2
         go_ret
         exact ⟨ret_b HV2.out.symm, HM2.out.fr⟩
       · clear HV hmay htg hs
         go_wp2
         go_ret
         exact ⟨ret_b HV2.out.symm, HM2.out.fr⟩
       · have hne : ((lv.length : Int) != (p.code.length : Int)) = true := by simpa using g2
         clear HV hmay htg hs
         go_wp2
         go_ret
         exact ⟨ret_b HV2.out.symm, HM2.out.fr⟩
end Go.Proofs.YtodmkjeankbieaaGreatDoor


namespace Go.Proofs.YtodmkjeankbieaaGreatDoor
open Go.RowKit Go.Sort

structure Q3 (w W : World) (c0 c1 c2 : Array Value) : Prop where
 b0 : Blk W w.heap.size 28 c0
 b1 : Blk W (w.heap.size + 1) 52 c1
 b2 : Blk W (w.heap.size + 2) 55 c2
 fr : Fr w W
theorem Q3.keep {w W W2 : World} {c0 c1 c2 : Array Value} (h : Q3 w W c0 c1 c2) (hk : Fr W W2) : Q3 w W2 c0 c1 c2 :=
 ⟨h.b0.kept hk (fun h => h), h.b1.kept hk (fun h => h), h.b2.kept hk (fun h => h), h.fr.trans hk⟩
theorem Q3.start (w : World) (c0 c1 c2 : Array Value) : Q3 w (((w.alloc (.cells c0 28)).alloc (.cells c1 52)).alloc (.cells c2 55)) c0 c1 c2 := by
 refine ⟨((Blk.new w _ _).alloc _).alloc _, ?_, ?_, (((Kept.refl _ w).alloc _).alloc _).alloc _⟩
 · have := (Blk.new (w.alloc (.cells c0 28)) 52 c1).alloc (.cells c2 55)
   simpa using this
 · have := Blk.new ((w.alloc (.cells c0 28)).alloc (.cells c1 52)) 55 c2
   simpa using this
end Go.Proofs.YtodmkjeankbieaaGreatDoor

