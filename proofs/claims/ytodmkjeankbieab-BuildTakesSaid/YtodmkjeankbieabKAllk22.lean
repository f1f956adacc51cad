/- Texts of this claim, packed. -/
import Derived.Test.YtodmkjeankbieabKAllk13
set_option linter.all false
namespace Go.Proofs.Ytodmkjeankbieab
open Go.RowKit Go.Sort

theorem mvR_c {sg sl : Int} {tt fr : PlaceV} {n : Nat} : mvR sg sl ⟨tt, fr, true, n⟩ = (isR sg sl tt && decide (fr.k = 0 ∧ fr.n = 0 ∧ tt.k = 1)) := rfl
theorem mvR_n {sg sl : Int} {tt fr : PlaceV} {n : Nat} : mvR sg sl ⟨tt, fr, false, n⟩ = (isR sg sl tt && ((decide (n = 0) && isR sg sl fr) && if tt.k = 3 then decide (fr.k ≠ 3) else decide (fr.k = 3 ∨ fr.k = tt.k))) := rfl

set_option maxHeartbeats 1000000 in
set_option maxRecDepth 100000 in
theorem refMove_any (sg sl : Int) (m : Mv) (w : World) (h4 : 0 ≤ sg) (h16 : sg ≤ 16) (h2 : sg % 2 = 0) (hm : m.ok) : Calls Try.prog 99 #[tgV sg, .int .i64 sl, m.value] w fun e w' => e = .returned (.bool (mvR sg sl m)) ∧ Fr w w' := by
 obtain ⟨hto, hfr, _⟩ := hm
 obtain ⟨⟨tk, tn⟩, ⟨fk, fn⟩, c, n⟩ := m
 have HF0 := Lib.hid (show Fr w ((w.alloc (.cells #[.int .i64 sg] 47)).alloc (.cells #[.int .i64 tk, .int .i64 tn, .int .i64 fk, .int .i64 fn, .bool c, .int .u32 n] 74)) from ((Kept.refl _ w).alloc _).alloc _)
 have HB0 := Lib.hid ((Blk.new w 47 #[.int .i64 sg]).alloc (.cells #[.int .i64 tk, .int .i64 tn, .int .i64 fk, .int .i64 fn, .bool c, .int .u32 n] 74))
 have HB1 : Hid (Blk ((w.alloc (.cells #[.int .i64 sg] 47)).alloc (.cells #[.int .i64 tk, .int .i64 tn, .int .i64 fk, .int .i64 fn, .bool c, .int .u32 n] 74)) (w.heap.size + 1) 74 #[.int .i64 tk, .int .i64 tn, .int .i64 fk, .int .i64 fn, .bool c, .int .u32 n]) := by
   have := Blk.new (w.alloc (.cells #[.int .i64 sg] 47)) 74 #[.int .i64 tk, .int .i64 tn, .int .i64 fk, .int .i64 fn, .bool c, .int .u32 n]
   show Blk _ _ _ _
   simpa using this
 have HTo := Lib.hid (fun w => refIs_any sg sl ⟨tk, tn⟩ w h4 h16 h2 hto)
 have HFrm := Lib.hid (fun w => refIs_any sg sl ⟨fk, fn⟩ w h4 h16 h2 hfr)
 unfold tgV PlaceV.val at HTo HFrm
 simp only at HTo HFrm
 unfold tgV Mv.value
 simp only
 clear hto hfr
 go_enter Try.func99, Try.ntmps99
 go_wp2_with fail
 refine (HTo.out _).mono ?_
 rintro e w1 ⟨rfl, f1⟩
 have HF1 := Lib.hid (HF0.out.trans f1)
 have HB2 := Lib.hid (HB0.out.kept f1 (fun h => h))
 have HB3 := Lib.hid (HB1.out.kept f1 (fun h => h))
 have t0 := HB2.out.cell 0
 have m0 := HB3.out.cell 0
 have m2 := HB3.out.cell 2
 have m3 := HB3.out.cell 3
 have m4 := HB3.out.cell 4
 have m5 := HB3.out.cell 5
 have z0 := HB2.out.lt
 have z1 := HB3.out.lt
 simp only [List.getElem?_toArray, List.getElem?_cons_succ, List.getElem?_cons_zero] at t0 m0 m2 m3 m4 m5
 clear f1 HF0 HB0 HB1 HTo
 cases ht : isR sg sl ⟨tk, tn⟩ with
 | false =>
   have HV : Hid (mvR sg sl ⟨⟨tk, tn⟩, ⟨fk, fn⟩, c, n⟩ = false) := by
     show _ = _; unfold mvR; simp only; rw [ht]; rfl
   clear ht
   go_wp2
   go_ret
   exact ⟨ret_b HV.out.symm, HF1.out⟩
 | true =>
   cases c with
   | true =>
     have HV : Hid (mvR sg sl ⟨⟨tk, tn⟩, ⟨fk, fn⟩, true, n⟩ = decide (fk = 0 ∧ fn = 0 ∧ tk = 1)) := by
       show _ = _; rw [mvR_c, ht]; rfl
     clear ht
     go_wp2
     all_goals go_ret
     all_goals refine ⟨ret_b ?_, HF1.out⟩
     all_goals rw [HV.out, Bool.eq_iff_iff]
     all_goals simp only [Bool.and_eq_true, decide_eq_true_eq, beq_iff_eq, Bool.false_eq_true, false_iff]
     all_goals omega
   | false =>
     have HV : Hid (mvR sg sl ⟨⟨tk, tn⟩, ⟨fk, fn⟩, false, n⟩ = ((decide (n = 0) && isR sg sl ⟨fk, fn⟩) && if tk = 3 then decide (fk ≠ 3) else decide (fk = 3 ∨ fk = tk))) := by
       show _ = _; rw [mvR_n, ht]; rfl
     clear ht
     by_cases hn0 : n = 0
     · subst hn0
       go_wp2_with fail
       refine (HFrm.out _).mono ?_
       rintro e w2 ⟨rfl, f2⟩
       have HF2 := Lib.hid (HF1.out.trans f2)
       have HB4 := Lib.hid (HB3.out.kept f2 (fun h => h))
       have m0 := HB4.out.cell 0
       have m2 := HB4.out.cell 2
       have z1 := HB4.out.lt
       simp only [List.getElem?_toArray, List.getElem?_cons_succ, List.getElem?_cons_zero] at m0 m2
       clear f2
       cases hi : isR sg sl ⟨fk, fn⟩ with
       | false =>
         rw [hi] at HV
         clear hi
         go_wp2
         go_ret
         refine ⟨ret_b ?_, HF2.out⟩
         rw [HV.out]
         rfl
       | true =>
         rw [hi] at HV
         clear hi
         go_wp2
         all_goals go_ret
         all_goals refine ⟨ret_b ?_, HF2.out⟩
         all_goals rw [HV.out]
         · rename_i e
           rw [beq_iff_eq] at e
           rw [if_pos e, Bool.eq_iff_iff]
           simp
         · rename_i e e2
           rw [beq_eq_false_iff_ne] at e
           rw [if_neg e, e2]
           simp
         · rename_i e e2
           rw [beq_eq_false_iff_ne] at e
           rw [if_neg e, Bool.eq_iff_iff]
           simp
     · have hn1 : ((n : Int) != 0) = true := by simpa using hn0
       go_wp2
       go_ret
       refine ⟨ret_b ?_, HF1.out⟩
       rw [HV.out, decide_eq_false hn0]
       rfl

def mrTo (sg sl : Int) (l : List Mv) (k : Nat) : Prop := (l.take k).all (mvR sg sl) = true
theorem mrTo_s {sg sl : Int} {l : List Mv} {k : Nat} {m : Mv} (h : mrTo sg sl l k) (hm : l[k]? = some m) (hf : mvR sg sl m = true) : mrTo sg sl l (k + 1) := by
 unfold mrTo at *
 rw [List.take_add_one, List.all_append, h, hm]
 simp [hf]
theorem mrTo_no {sg sl : Int} {l : List Mv} {k : Nat} {m : Mv} (hm : l[k]? = some m) (hf : mvR sg sl m = false) : mvsR sg sl l = false := by
 unfold mvsR
 rw [show l.all (mvR sg sl) = false from by rw [List.all_eq_false]; exact ⟨m, List.mem_of_getElem? hm, by rw [hf]; decide⟩]
 simp
theorem mrTo_all {sg sl : Int} {l : List Mv} (h : mrTo sg sl l l.length) (h6 : l.length ≤ 6) : mvsR sg sl l = true := by
 unfold mrTo at h
 rw [List.take_length] at h
 unfold mvsR
 rw [h, decide_eq_true h6]
 rfl

set_option maxHeartbeats 1000000 in
set_option maxRecDepth 100000 in
theorem refMoves6_any (R : Nat → Prop) (v : Value) (l : List Mv) (sg sl : Int) (w : World) (h : RdMv w R v l) (h4 : 0 ≤ sg) (h16 : sg ≤ 16) (h2 : sg % 2 = 0) :
   Calls Try.prog 68 #[tgV sg, .int .i64 sl, v] w fun e w' => e = .returned (.bool (mvsR sg sl l)) ∧ Fr w w' := by
 obtain ⟨A, c, rfl, hl, hr, ho⟩ := h
 have HR := Lib.hid hr
 have HO := Lib.hid ho
 unfold maxLen at hl
 clear hr ho
 unfold tgV
 have HF0 := Lib.hid (show Fr w (w.alloc (.cells #[.int .i64 sg] 47)) from (Kept.refl _ w).alloc _)
 have HB0 := Lib.hid (Blk.new w 47 #[.int .i64 sg])
 have HM := Lib.hid (fun m (hm : m.ok) w => refMove_any sg sl m w h4 h16 h2 hm)
 unfold tgV at HM
 by_cases h6 : l.length ≤ 6
 · have h6' : (l.length : Int) ≤ 6 := by omega
   go_enter Try.func68, Try.ntmps68
   go_wp2
   go_loopw [7] (fun i wr => ∃ k : Nat, k ≤ l.length ∧ i = .int .i64 k ∧ Hid (mrTo sg sl l k) ∧ Hid (Blk wr w.heap.size 47 #[.int .i64 sg]) ∧ Hid (Fr w wr)) (fun i _ => l.length - (intOf i).toNat)
   case atStart => exact ⟨0, by omega, rfl, rfl, HB0, HF0⟩
   case round =>
     obtain ⟨k, hk, rfl, hto, hb, hf⟩ := hrel
     have t0 := hb.out.cell 0
     have z0 := hb.out.lt
     simp only [List.getElem?_toArray, List.getElem?_cons_succ, List.getElem?_cons_zero] at t0
     by_cases hlt : k < l.length
     · have hx : l[k]? = some l[k] := List.getElem?_eq_getElem hlt
       obtain ⟨b, off, rfl, _, d0, d1, d2, d3, d4, d5⟩ := (HR.out.kept hf.out (fun _ _ h => h)).mv hx
       have hmok := HO.out _ (List.mem_of_getElem? hx)
       have HX := Lib.hid hx
       have hk0 : (0 : Int) ≤ (k : Int) := Int.natCast_nonneg _
       have hk1 : (k : Int) < (l.length : Int) := by omega
       clear hx
       generalize l[k] = m at *
       have HMm := Lib.hid (fun w => HM.out m hmok w)
       have zb := cell_lt d0
       clear hmok
       obtain ⟨⟨tk, tn⟩, ⟨fk, fn⟩, cb, n⟩ := m
       unfold Mv.value at HMm
       simp only at *
       have q_t0 := cell_regrown t0
       have q_d0 := cell_regrown d0
       have q_d1 := cell_regrown d1
       have q_d2 := cell_regrown d2
       have q_d3 := cell_regrown d3
       have q_d4 := cell_regrown d4
       have q_d5 := cell_regrown d5
       cases hm : mvR sg sl ⟨⟨tk, tn⟩, ⟨fk, fn⟩, cb, n⟩ with
       | false =>
         have HV := Lib.hid (mrTo_no HX.out hm)
         rw [hm] at HMm
         clear hm
         go_wp2
         refine wp_region_quiet_below (by kernel_rfl) (by kernel_rfl) ?_
         repeat (quiet_step (refine Calls.regrown_of ((HMm.out _).mono fun e w' h => ⟨h.1, h.2.below⟩)))
         refine wpQuiet_nil ?_
         intro _ hw2
         obtain ⟨pq, rfl⟩ := hw2
         go_wp2
         go_ret
         exact ⟨ret_b HV.out.symm, hf.out.trans (kept_of_regrown _ _)⟩
       | true =>
         have HV := Lib.hid (mrTo_s hto.out HX.out hm)
         rw [hm] at HMm
         clear hm
         go_wp2
         refine wp_region_quiet_below (by kernel_rfl) (by kernel_rfl) ?_
         repeat (quiet_step (refine Calls.regrown_of ((HMm.out _).mono fun e w' h => ⟨h.1, h.2.below⟩)))
         refine wpQuiet_nil ?_
         intro _ hw2
         obtain ⟨pq, rfl⟩ := hw2
         go_wp2
         go_roundw
         case rel => exact ⟨k + 1, by omega, by go_num, HV, Lib.hid (hb.out.kept (kept_of_regrown (S := fun _ => False) _ _) (fun h => h)), Lib.hid (hf.out.trans (kept_of_regrown _ _))⟩
         case measure => simp [intOf]; omega
     · obtain rfl : k = l.length := by omega
       have HV := Lib.hid (mrTo_all hto.out h6)
       go_wp2
       go_ret
       exact ⟨ret_b HV.out.symm, hf.out⟩
 · have h6' : ¬ (l.length : Int) ≤ 6 := by omega
   have HV : Hid (mvsR sg sl l = false) := by show _ = _; unfold mvsR; rw [decide_eq_false h6]; rfl
   go_enter Try.func68, Try.ntmps68
   go_wp2
   go_ret
   exact ⟨ret_b HV.out.symm, HF0.out⟩

set_option maxHeartbeats 1000000 in
set_option maxRecDepth 100000 in
theorem refRegister_any (R : Nat → Prop) (v : Value) (p : Pg) (sg t : Int) (a : PlaceV) (w : World) (h : RdPg w R v p) (h4 : 0 ≤ sg) (h16 : sg ≤ 16) (h2 : sg % 2 = 0) (ha : a.ok) (ht : 0 ≤ t ∧ t < p.wide.length) :
   Calls Try.prog 67 #[v, tgV sg, .int .i64 t, a.val] w fun e w' => e = .returned (.bool (regR p.wide sg t a)) ∧ Fr w w' := by
 obtain ⟨vw, vc, rfl, ⟨A, c, rfl, hl, hr⟩, ⟨A', c', rfl, hl', _, _⟩⟩ := h
 obtain ⟨b, off, rfl, _, hcell⟩ := hr.2 (by omega)
 obtain ⟨x, hx⟩ : ∃ x, p.wide[t.toNat]? = some x := ⟨_, List.getElem?_eq_getElem (by omega)⟩
 have d0 := hcell t.toNat (.bool x) (by rw [List.getElem?_map, hx]; rfl)
 have zb := cell_lt d0
 have HW := Lib.hid (wd_get hx)
 obtain ⟨t0, t1⟩ := ht
 unfold maxLen at hl hl'
 obtain ⟨k, n⟩ := a
 have HI := Lib.hid (fun w => refIs_any sg 0 ⟨k, n⟩ w h4 h16 h2 ha)
 unfold tgV PlaceV.val at HI ⊢
 simp only at HI ⊢
 have HF := Lib.hid (show Fr w (((w.alloc (.cells #[.slice (some ⟨b, off, none⟩) p.wide.length c, .slice A' p.code.length c'] 25)).alloc (.cells #[.int .i64 sg] 47)).alloc (.cells #[.int .i64 k, .int .i64 n] 57)) from (((Kept.refl _ w).alloc _).alloc _).alloc _)
 have d3 := (Fr.cell HF.out zb (o := off + t.toNat)).trans d0
 clear hcell hr hx ha
 cases x with
 | true =>
   by_cases hk : k = 2
   · subst hk
     have HV : Hid (regR p.wide sg t ⟨2, n⟩ = isR sg 0 ⟨2, n⟩) := by show _ = _; unfold regR; rw [HW.out]; rfl
     go_enter Try.func67, Try.ntmps67
     go_wp2_with fail
     refine (HI.out _).mono ?_
     rintro e w2 ⟨rfl, f2⟩
     have HF2 := Lib.hid (HF.out.trans f2)
     clear f2
     go_wp2
     go_ret
     exact ⟨ret_b HV.out.symm, HF2.out⟩
   · have hk' : (k == 2) = false := by simpa using hk
     have HV : Hid (regR p.wide sg t ⟨k, n⟩ = false) := by show _ = _; unfold regR; rw [HW.out]; simp [hk]
     clear hk
     go_enter Try.func67, Try.ntmps67
     go_wp2
     go_ret
     exact ⟨ret_b HV.out.symm, HF.out⟩
 | false =>
   by_cases hk : k = 1
   · subst hk
     have HV : Hid (regR p.wide sg t ⟨1, n⟩ = isR sg 0 ⟨1, n⟩) := by show _ = _; unfold regR; rw [HW.out]; rfl
     go_enter Try.func67, Try.ntmps67
     go_wp2_with fail
     refine (HI.out _).mono ?_
     rintro e w2 ⟨rfl, f2⟩
     have HF2 := Lib.hid (HF.out.trans f2)
     clear f2
     go_wp2
     go_ret
     exact ⟨ret_b HV.out.symm, HF2.out⟩
   · have hk' : (k == 1) = false := by simpa using hk
     have HV : Hid (regR p.wide sg t ⟨k, n⟩ = false) := by show _ = _; unfold regR; rw [HW.out]; simp [hk]
     clear hk
     go_enter Try.func67, Try.ntmps67
     go_wp2
     go_ret
     exact ⟨ret_b HV.out.symm, HF.out⟩
end Go.Proofs.Ytodmkjeankbieab


namespace Go.Proofs.Ytodmkjeankbieab
open Go.RowKit Go.Sort

theorem insR_k0 {p : Pg} {i : In} (h : known i.op = false) : insR p i = false := by unfold insR; simp [h]
theorem insR_n0 {p : Pg} {i : In} (h : i.op ≠ 1) (hn : i.n ≠ 0) : insR p i = false := by unfold insR; simp [h, hn]
theorem insR_f0 {p : Pg} {i : In} (h : fieldR p.wide (gvs i.op) i.d = false) : insR p i = false := by unfold insR; simp [h]
theorem insR_f1 {p : Pg} {i : In} (h : fieldR p.wide (decide (0 < many i.op)) i.a = false) : insR p i = false := by unfold insR; simp [h]
theorem insR_f2 {p : Pg} {i : In} (h : fieldR p.wide (decide (1 < many i.op)) i.b = false) : insR p i = false := by unfold insR; simp [h]
theorem insR_rest {p : Pg} {i : In} (hk : known i.op = true) (hn : i.op = 1 ∨ i.n = 0) (h0 : fieldR p.wide (gvs i.op) i.d = true) (h1 : fieldR p.wide (decide (0 < many i.op)) i.a = true) (h2 : fieldR p.wide (decide (1 < many i.op)) i.b = true) :
   insR p i = ((if i.op = 8 ∨ i.op = 9 then inB i.c p.code.length else decide (i.c = 0)) && widthsR p i) := by
 unfold insR
 have e : (decide (i.op = 1) || decide (i.n = 0)) = true := by simpa using hn
 rw [hk, e, h0, h1, h2]; simp

structure RfMem (w wr : World) (vw vc : Value) (i : In) (g m0 m1 : Bool) : Prop where
 im : InsMem w wr vw vc i
 f : Blk wr (w.heap.size + 2) 3 #[.int .i64 i.d, .int .i64 i.a, .int .i64 i.b]
 t : Blk wr (w.heap.size + 3) 4 #[.bool g, .bool m0, .bool m1]
theorem RfMem.start (w : World) (vw vc : Value) (op d a b c : Int) (n : Nat) (g m0 m1 : Bool) :
   RfMem w (((((w.alloc (.cells #[vw, vc] 25)).alloc (.cells #[.int .i64 op, .int .i64 d, .int .i64 a, .int .i64 b, .int .i64 c, .int .u32 n] 45)).alloc (.cells #[.int .i64 d, .int .i64 a, .int .i64 b] 3)).alloc
     (.cells #[.bool g, .bool m0, .bool m1] 4)).drew) vw vc ⟨op, d, a, b, c, n⟩ g m0 m1 := by
 have h := InsMem.start w vw vc op d a b c n
 generalize hW : ((w.alloc (.cells #[vw, vc] 25)).alloc (.cells #[.int .i64 op, .int .i64 d, .int .i64 a, .int .i64 b, .int .i64 c, .int .u32 n] 45)) = W at h
 have hs : W.heap.size = w.heap.size + 2 := by rw [← hW]; simp
 refine ⟨((h.alloc _).alloc _).drew, ?_, ?_⟩
 · have := ((Blk.new W 3 #[.int .i64 d, .int .i64 a, .int .i64 b]).alloc (.cells #[.bool g, .bool m0, .bool m1] 4)).drew
   rwa [hs] at this
 · have := (Blk.new (W.alloc (.cells #[.int .i64 d, .int .i64 a, .int .i64 b] 3)) 4 #[.bool g, .bool m0, .bool m1]).drew
   simp only [World.size_alloc, hs] at this
   exact this

def RfRel (p : Pg) (d a b : Int) (g m0 m1 : Bool) (k : Int) : Prop :=
 k = 0 ∨ (k = 1 ∧ fieldR p.wide g d = true) ∨ (k = 2 ∧ fieldR p.wide g d = true ∧ fieldR p.wide m0 a = true) ∨ (k = 3 ∧ fieldR p.wide g d = true ∧ fieldR p.wide m0 a = true ∧ fieldR p.wide m1 b = true)
theorem field_cases (wide : List Bool) (g : Bool) (n : Int) : (g = true ∧ 0 ≤ n ∧ n < wide.length ∧ fieldR wide g n = true) ∨ (g = true ∧ n < 0 ∧ fieldR wide g n = false) ∨ (g = true ∧ 0 ≤ n ∧ (wide.length : Int) ≤ n ∧ fieldR wide g n = false) ∨
   (g = false ∧ n = 0 ∧ fieldR wide g n = true) ∨ (g = false ∧ (n != 0) = true ∧ fieldR wide g n = false) := by
 unfold fieldR inB
 cases g with
 | true =>
   by_cases h0 : 0 ≤ n
   · by_cases h1 : n < wide.length
     · exact Or.inl ⟨rfl, h0, h1, by simp [h0, h1]⟩
     · exact Or.inr (Or.inr (Or.inl ⟨rfl, h0, by omega, by simp [h1]⟩))
   · exact Or.inr (Or.inl ⟨rfl, by omega, by simp [h0]⟩)
 | false =>
   by_cases h : n = 0
   · exact Or.inr (Or.inr (Or.inr (Or.inl ⟨rfl, h, by simp [h]⟩)))
   · exact Or.inr (Or.inr (Or.inr (Or.inr ⟨rfl, by simpa using h, by simp [h]⟩)))
theorem field_in {wide : List Bool} {g : Bool} {n : Int} (h : fieldR wide g n = true) (hg : g = true) : 0 ≤ n ∧ n < wide.length := by
 unfold fieldR inB at h; rw [if_pos hg] at h; exact of_decide_eq_true h
theorem jump_cases (op : Int) : (op == 8) = true ∨ ((op == 8) = false ∧ (op == 9) = true) ∨ ((op == 8) = false ∧ (op == 9) = false) := by
 cases h8 : (op == 8) <;> cases h9 : (op == 9) <;> simp
theorem rest_jump {p : Pg} {op d a b c : Int} {n : Nat} {W : Bool} (h : insR p ⟨op, d, a, b, c, n⟩ = ((if op = 8 ∨ op = 9 then inB c p.code.length else decide (c = 0)) && W)) (hj : op = 8 ∨ op = 9) :
   (0 ≤ c ∧ c < p.code.length → insR p ⟨op, d, a, b, c, n⟩ = W) ∧ (c < 0 ∨ (p.code.length : Int) ≤ c → insR p ⟨op, d, a, b, c, n⟩ = false) := by
 rw [h, if_pos hj]
 unfold inB
 exact ⟨fun hc => by rw [decide_eq_true hc]; rfl, fun hc => by rw [decide_eq_false (by omega)]; rfl⟩
theorem rest_nojump {p : Pg} {op d a b c : Int} {n : Nat} {W : Bool} (h : insR p ⟨op, d, a, b, c, n⟩ = ((if op = 8 ∨ op = 9 then inB c p.code.length else decide (c = 0)) && W)) (h8 : (op == 8) = false) (h9 : (op == 9) = false) :
   (c = 0 → insR p ⟨op, d, a, b, c, n⟩ = W) ∧ (c ≠ 0 → insR p ⟨op, d, a, b, c, n⟩ = false) := by
 rw [beq_eq_false_iff_ne] at h8 h9
 rw [h, if_neg (by omega)]
 exact ⟨fun hc => by rw [decide_eq_true hc]; rfl, fun hc => by rw [decide_eq_false hc]; rfl⟩
theorem RfMem.cf {w wr : World} {vw vc : Value} {op d a b c : Int} {n : Nat} {g m0 m1 : Bool} (h : RfMem w wr vw vc ⟨op, d, a, b, c, n⟩ g m0 m1) : wr.cell? ⟨w.heap.size + 2, 0, none⟩ = some (.int .i64 d) ∧ wr.cell? ⟨w.heap.size + 2, 1, none⟩ = some (.int .i64 a) ∧
   wr.cell? ⟨w.heap.size + 2, 2, none⟩ = some (.int .i64 b) ∧ wr.cell? ⟨w.heap.size + 3, 0, none⟩ = some (.bool g) ∧ wr.cell? ⟨w.heap.size + 3, 1, none⟩ = some (.bool m0) ∧ wr.cell? ⟨w.heap.size + 3, 2, none⟩ = some (.bool m1) := by
 have c0 := h.f.cell 0
 have c1 := h.f.cell 1
 have c2 := h.f.cell 2
 have c3 := h.t.cell 0
 have c4 := h.t.cell 1
 have c5 := h.t.cell 2
 simp only [List.getElem?_toArray, List.getElem?_cons_succ, List.getElem?_cons_zero] at c0 c1 c2 c3 c4 c5
 exact ⟨c0, c1, c2, c3, c4, c5⟩

set_option maxHeartbeats 4000000 in
set_option maxRecDepth 100000 in
theorem refIns_any (R : Nat → Prop) (v : Value) (p : Pg) (i : In) (w : World) (h : RdPg w R v p) :
   Calls Try.prog 49 #[v, i.val] w fun e w' => e = .returned (.bool (insR p i)) ∧ Fr w w' := by
 have H := Lib.hid h
 obtain ⟨vw, vc, rfl, ⟨A, c, rfl, hl, hr⟩, ⟨A', c', rfl, hl', hr', ho'⟩⟩ := h
 unfold maxLen at hl hl'
 clear hr hr' ho'
 obtain ⟨op, d, a, b, cc, n⟩ := i
 unfold In.val
 simp only
 have HKn := Lib.hid (refKnown_any op)
 cases hk : known op with
 | false =>
   have hfin := Lib.hid (insR_k0 (p := p) (i := ⟨op, d, a, b, cc, n⟩) hk)
   rw [hk] at HKn
   clear hk
   go_enter Try.func49, Try.ntmps49
   go_wp2_with (go_at_call 85; refine (HKn.out _).mono ?_; rintro e w' ⟨rfl, rfl⟩)
   go_ret
   exact ⟨ret_b hfin.out.symm, ((Kept.refl _ w).alloc _).alloc _⟩
 | true =>
   by_cases hn : op ≠ 1 ∧ n ≠ 0
   · have hfin := Lib.hid (insR_n0 (p := p) (i := ⟨op, d, a, b, cc, n⟩) hn.1 hn.2)
     have e1 : (op != 1) = true := by simpa using hn.1
     have e2 : ((n : Int) != 0) = true := by simpa using hn.2
     rw [hk] at HKn
     clear hk hn
     go_enter Try.func49, Try.ntmps49
     go_wp2_with (go_at_call 85; refine (HKn.out _).mono ?_; rintro e w' ⟨rfl, rfl⟩)
     go_ret
     exact ⟨ret_b hfin.out.symm, ((Kept.refl _ w).alloc _).alloc _⟩
   · have HK := Lib.hid hk
     have HN := Lib.hid (show op = 1 ∨ n = 0 by omega)
     have hen : op = 1 ∨ (op != 1) = true ∧ n = 0 := by
       by_cases h : op = 1
       · exact Or.inl h
       · exact Or.inr ⟨by simpa using h, by omega⟩
     rw [hk] at HKn
     clear hk hn
     have HG := Lib.hid (refGives_any op)
     have HM := Lib.hid (refMany_any op)
     have hen1 : (op != 1) = false ∨ ((op != 1) = true ∧ n = 0) := by
       rcases hen with h | h
       · exact Or.inl (by simpa using h)
       · exact Or.inr h
     clear hen
     go_enter Try.func49, Try.ntmps49
     rcases hen1 with e1 | ⟨e1, hn0⟩
     case' inr => have hn1 : ((n : Int) != 0) = false := by simpa using hn0
     case' inr => clear hn0
     all_goals
       go_wp2_with (go_at_call 85; refine (HKn.out _).mono ?_; rintro e w' ⟨rfl, rfl⟩)
     all_goals
       go_region_held3 (fun w' => w'.cell? ⟨w.heap.size + 1, 0, none⟩ = some (.int .i64 op))
         (first | go_keep)
         (first
           | (go_at_call 44; refine (HG.out _).mono ?_; rintro e w' ⟨rfl, rfl⟩)
           | (go_at_call 66; refine (HM.out _).mono ?_; rintro e w' ⟨rfl, rfl⟩))
     all_goals
       have em1 : decide ((1 : Int) < (many op : Int)) = decide (1 < many op) := by rw [decide_eq_decide]; omega
       rw [em1]
       have HS := Lib.hid (RfMem.start w (.slice A p.wide.length c) (.slice A' p.code.length c') op d a b cc n (gvs op) (decide (0 < many op)) (decide (1 < many op)))
       clear em1
       generalize hg : gvs op = g at *
       generalize hm0 : decide (0 < many op) = m0 at *
       generalize hm1 : decide (1 < many op) = m1 at *
       have Hg := Lib.hid hg
       have Hm0 := Lib.hid hm0
       have Hm1 := Lib.hid hm1
       clear hg hm0 hm1 HG HM HKn
       go_wp2
       go_loopw [8] (fun i wr => ∃ k : Int, i = .int .i64 k ∧ Hid (RfRel p d a b g m0 m1 k) ∧ Hid (RfMem w wr (.slice A p.wide.length c) (.slice A' p.code.length c') ⟨op, d, a, b, cc, n⟩ g m0 m1)) (fun i _ => 3 - (intOf i).toNat)
       case atStart => exact ⟨0, rfl, Or.inl rfl, HS.out⟩
       case round =>
         obtain ⟨k, rfl, hrel, hmem⟩ := hrel
         clear HS
         obtain ⟨f0, f1, f2, t0, t1, t2⟩ := hmem.out.cf
         have z0 := hmem.out.im.lt
         have z1 := hmem.out.t.lt
         have HF := Lib.hid hmem.out.im.fr
         rcases hrel.out with rfl | ⟨rfl, r0⟩ | ⟨rfl, r0, r1⟩ | ⟨rfl, r0, r1, r2⟩
         · rcases field_cases p.wide g d with ⟨hgt, h0, h1, hf⟩ | ⟨hgt, h0, hf⟩ | ⟨hgt, h0, h1, hf⟩ | ⟨hgt, h0, hf⟩ | ⟨hgt, h0, hf⟩
           · have HX := Lib.hid (show RfRel p d a b g m0 m1 1 from Or.inr (Or.inl ⟨rfl, hf⟩))
             clear hf hrel 
             rw [hgt] at t0
             clear hgt
             go_wp2
             go_roundw
             case rel => exact ⟨1, rfl, HX, hmem⟩
             case measure => simp [intOf]
           · have HX := Lib.hid (insR_f0 (p := p) (i := ⟨op, d, a, b, cc, n⟩) (by rw [Hg.out]; exact hf))
             clear hf hrel 
             rw [hgt] at t0
             clear hgt
             go_wp2
             go_ret
             exact ⟨ret_b HX.out.symm, HF.out⟩
           · have HX := Lib.hid (insR_f0 (p := p) (i := ⟨op, d, a, b, cc, n⟩) (by rw [Hg.out]; exact hf))
             clear hf hrel 
             rw [hgt] at t0
             clear hgt
             go_wp2
             go_ret
             exact ⟨ret_b HX.out.symm, HF.out⟩
           · have HX := Lib.hid (show RfRel p d a b g m0 m1 1 from Or.inr (Or.inl ⟨rfl, hf⟩))
             clear hf hrel 
             rw [hgt] at t0
             rw [h0] at f0
             clear h0
             clear hgt
             go_wp2
             go_roundw
             case rel => exact ⟨1, rfl, HX, hmem⟩
             case measure => simp [intOf]
           · have HX := Lib.hid (insR_f0 (p := p) (i := ⟨op, d, a, b, cc, n⟩) (by rw [Hg.out]; exact hf))
             clear hf hrel 
             rw [hgt] at t0
             clear hgt
             go_wp2
             go_ret
             exact ⟨ret_b HX.out.symm, HF.out⟩
         · rcases field_cases p.wide m0 a with ⟨hgt, h0, h1, hf⟩ | ⟨hgt, h0, hf⟩ | ⟨hgt, h0, h1, hf⟩ | ⟨hgt, h0, hf⟩ | ⟨hgt, h0, hf⟩
           · have HX := Lib.hid (show RfRel p d a b g m0 m1 2 from Or.inr (Or.inr (Or.inl ⟨rfl, r0, hf⟩)))
             clear hf hrel r0
             rw [hgt] at t1
             clear hgt
             go_wp2
             go_roundw
             case rel => exact ⟨2, rfl, HX, hmem⟩
             case measure => simp [intOf]
           · have HX := Lib.hid (insR_f1 (p := p) (i := ⟨op, d, a, b, cc, n⟩) (by rw [Hm0.out]; exact hf))
             clear hf hrel r0
             rw [hgt] at t1
             clear hgt
             go_wp2
             go_ret
             exact ⟨ret_b HX.out.symm, HF.out⟩
           · have HX := Lib.hid (insR_f1 (p := p) (i := ⟨op, d, a, b, cc, n⟩) (by rw [Hm0.out]; exact hf))
             clear hf hrel r0
             rw [hgt] at t1
             clear hgt
             go_wp2
             go_ret
             exact ⟨ret_b HX.out.symm, HF.out⟩
           · have HX := Lib.hid (show RfRel p d a b g m0 m1 2 from Or.inr (Or.inr (Or.inl ⟨rfl, r0, hf⟩)))
             clear hf hrel r0
             rw [hgt] at t1
             rw [h0] at f1
             clear h0
             clear hgt
             go_wp2
             go_roundw
             case rel => exact ⟨2, rfl, HX, hmem⟩
             case measure => simp [intOf]
           · have HX := Lib.hid (insR_f1 (p := p) (i := ⟨op, d, a, b, cc, n⟩) (by rw [Hm0.out]; exact hf))
             clear hf hrel r0
             rw [hgt] at t1
             clear hgt
             go_wp2
             go_ret
             exact ⟨ret_b HX.out.symm, HF.out⟩
         · rcases field_cases p.wide m1 b with ⟨hgt, h0, h1, hf⟩ | ⟨hgt, h0, hf⟩ | ⟨hgt, h0, h1, hf⟩ | ⟨hgt, h0, hf⟩ | ⟨hgt, h0, hf⟩
           · have HX := Lib.hid (show RfRel p d a b g m0 m1 3 from Or.inr (Or.inr (Or.inr ⟨rfl, r0, r1, hf⟩)))
             clear hf hrel r0 r1
             rw [hgt] at t2
             clear hgt
             go_wp2
             go_roundw
             case rel => exact ⟨3, rfl, HX, hmem⟩
             case measure => simp [intOf]
           · have HX := Lib.hid (insR_f2 (p := p) (i := ⟨op, d, a, b, cc, n⟩) (by rw [Hm1.out]; exact hf))
             clear hf hrel r0 r1
             rw [hgt] at t2
             clear hgt
             go_wp2
             go_ret
             exact ⟨ret_b HX.out.symm, HF.out⟩
           · have HX := Lib.hid (insR_f2 (p := p) (i := ⟨op, d, a, b, cc, n⟩) (by rw [Hm1.out]; exact hf))
             clear hf hrel r0 r1
             rw [hgt] at t2
             clear hgt
             go_wp2
             go_ret
             exact ⟨ret_b HX.out.symm, HF.out⟩
           · have HX := Lib.hid (show RfRel p d a b g m0 m1 3 from Or.inr (Or.inr (Or.inr ⟨rfl, r0, r1, hf⟩)))
             clear hf hrel r0 r1
             rw [hgt] at t2
             rw [h0] at f2
             clear h0
             clear hgt
             go_wp2
             go_roundw
             case rel => exact ⟨3, rfl, HX, hmem⟩
             case measure => simp [intOf]
           · have HX := Lib.hid (insR_f2 (p := p) (i := ⟨op, d, a, b, cc, n⟩) (by rw [Hm1.out]; exact hf))
             clear hf hrel r0 r1
             rw [hgt] at t2
             clear hgt
             go_wp2
             go_ret
             exact ⟨ret_b HX.out.symm, HF.out⟩
         · have HR := Lib.hid (insR_rest (p := p) (i := ⟨op, d, a, b, cc, n⟩) HK.out HN.out (by rw [Hg.out]; exact r0) (by rw [Hm0.out]; exact r1) (by rw [Hm1.out]; exact r2))
           have HD := Lib.hid (fun h => field_in r0 (Hg.out.symm.trans h))
           have HA := Lib.hid (fun h => field_in r1 (Hm0.out.symm.trans (decide_eq_true h)))
           have HB := Lib.hid (fun h => field_in r2 (Hm1.out.symm.trans (decide_eq_true h)))
           obtain ⟨d0, d1, d2, d3, d4, d5⟩ := hmem.out.im.ci
           obtain ⟨c0, c1⟩ := hmem.out.im.cp
           clear r0 r1 r2 hrel f0 f1 f2 t0 t1 t2
           simp only at HR
           rcases jump_cases op with h8 | ⟨h8, h9⟩ | ⟨h8, h9⟩
           · have HX := Lib.hid (rest_jump HR.out (by simp only [beq_iff_eq] at *; omega))
             by_cases hc : 0 ≤ cc ∧ cc < p.code.length
             · have HY := Lib.hid (HX.out.1 hc)
               obtain ⟨h0, h1⟩ := hc
               clear HX
               go_wp2_with fail
               refine (refWidths_any R _ p ⟨op, d, a, b, cc, n⟩ _ (H.out.kept HF.out (fun _ _ h => h)) HK.out HD.out HA.out HB.out).mono ?_
               rintro e w1 ⟨rfl, f1⟩
               go_wp2
               go_ret
               exact ⟨ret_b HY.out.symm, HF.out.trans f1⟩
             · by_cases h0 : 0 ≤ cc
               · have h1 : (p.code.length : Int) ≤ cc := by omega
                 have HY := Lib.hid (HX.out.2 (Or.inr h1))
                 clear HX hc
                 go_wp2
                 go_ret
                 exact ⟨ret_b HY.out.symm, HF.out⟩
               · have h1 : cc < 0 := by omega
                 have HY := Lib.hid (HX.out.2 (Or.inl h1))
                 clear HX hc h0
                 go_wp2
                 go_ret
                 exact ⟨ret_b HY.out.symm, HF.out⟩
           · have HX := Lib.hid (rest_jump HR.out (by simp only [beq_iff_eq] at *; omega))
             by_cases hc : 0 ≤ cc ∧ cc < p.code.length
             · have HY := Lib.hid (HX.out.1 hc)
               obtain ⟨h0, h1⟩ := hc
               clear HX
               go_wp2_with fail
               refine (refWidths_any R _ p ⟨op, d, a, b, cc, n⟩ _ (H.out.kept HF.out (fun _ _ h => h)) HK.out HD.out HA.out HB.out).mono ?_
               rintro e w1 ⟨rfl, f1⟩
               go_wp2
               go_ret
               exact ⟨ret_b HY.out.symm, HF.out.trans f1⟩
             · by_cases h0 : 0 ≤ cc
               · have h1 : (p.code.length : Int) ≤ cc := by omega
                 have HY := Lib.hid (HX.out.2 (Or.inr h1))
                 clear HX hc
                 go_wp2
                 go_ret
                 exact ⟨ret_b HY.out.symm, HF.out⟩
               · have h1 : cc < 0 := by omega
                 have HY := Lib.hid (HX.out.2 (Or.inl h1))
                 clear HX hc h0
                 go_wp2
                 go_ret
                 exact ⟨ret_b HY.out.symm, HF.out⟩
           · have HX := Lib.hid (rest_nojump HR.out h8 h9)
             by_cases hc : cc = 0
             · have HY := Lib.hid (HX.out.1 hc)
               have hc0 : (cc != 0) = false := by simpa using hc
               clear HX hc
               go_wp2_with fail
               refine (refWidths_any R _ p ⟨op, d, a, b, cc, n⟩ _ (H.out.kept HF.out (fun _ _ h => h)) HK.out HD.out HA.out HB.out).mono ?_
               rintro e w1 ⟨rfl, f1⟩
               go_wp2
               go_ret
               exact ⟨ret_b HY.out.symm, HF.out.trans f1⟩
             · have HY := Lib.hid (HX.out.2 hc)
               have hc0 : (cc != 0) = true := by simpa using hc
               clear HX hc
               go_wp2
               go_ret
               exact ⟨ret_b HY.out.symm, HF.out⟩
end Go.Proofs.Ytodmkjeankbieab


namespace Go.Proofs.Ytodmkjeankbieab
open Go.RowKit Go.Sort

def lenB (p : Pg) : Bool := decide (1 ≤ p.wide.length) && decide (p.wide.length ≤ 12) && decide (1 ≤ p.code.length) && decide (p.code.length ≤ 40)
theorem mayR_len {p : Pg} (h : lenB p = false) : mayR p = false := by unfold mayR lenB at *; rw [h]; rfl
theorem mayR_all {p : Pg} (h : lenB p = true) : mayR p = p.code.all (insR p) := by unfold mayR lenB at *; rw [h]; rfl

set_option maxHeartbeats 1000000 in
set_option maxRecDepth 100000 in
theorem refMay_any (R : Nat → Prop) (v : Value) (p : Pg) (w : World) (h : RdPg w R v p) :
   Calls Try.prog 20 #[v] w fun e w' => e = .returned (.bool (mayB p)) ∧ Fr w w' := by
 rw [mayB_eq]
 have H := Lib.hid h
 obtain ⟨vw, vc, rfl, ⟨A, c, rfl, hl, hr⟩, ⟨A', c', rfl, hl', hr', ho'⟩⟩ := h
 unfold maxLen at hl hl'
 clear hr ho'
 have HR := Lib.hid hr'
 clear hr'
 by_cases hlen : 1 ≤ p.wide.length ∧ p.wide.length ≤ 12 ∧ 1 ≤ p.code.length ∧ p.code.length ≤ 40
 · have HA := Lib.hid (mayR_all (p := p) (by unfold lenB; simp [hlen]))
   obtain ⟨l1, l2, l3, l4⟩ := hlen
   go_enter Try.func20, Try.ntmps20
   go_wp2
   go_loopw [3] (fun i wr => ∃ k : Nat, k ≤ p.code.length ∧ i = .int .i64 k ∧ Hid (allTo p insR k) ∧ Blk wr w.heap.size 25 #[.slice A p.wide.length c, .slice A' p.code.length c'] ∧ Fr w wr) (fun i _ => p.code.length - (intOf i).toNat)
   case atStart => exact ⟨0, by omega, rfl, allTo_0 p insR, Blk.new w _ _, (Kept.refl _ w).alloc _⟩
   case round =>
     obtain ⟨k, hk, rfl, hall, hblk, hfr⟩ := hrel
     have c0 := hblk.cell 0
     have c1 := hblk.cell 1
     simp only [List.getElem?_toArray, List.getElem?_cons_succ, List.getElem?_cons_zero] at c0 c1
     have hsz := hblk.lt
     have HB := Lib.hid hblk
     have HF := Lib.hid hfr
     clear hblk hfr
     by_cases hlt : k < p.code.length
     · have hx : p.code[k]? = some p.code[k] := List.getElem?_eq_getElem hlt
       obtain ⟨b, off, rfl, _, d0, d1, d2, d3, d4, d5⟩ := (HR.out.kept HF.out (fun _ _ h => h)).ins hx
       have HX := Lib.hid hx
       clear hx
       generalize p.code[k] = i at *
       have hb := cell_lt d0
       have hk0 : (0 : Int) ≤ (k : Int) := Int.natCast_nonneg _
       have hk1 : (k : Int) < (p.code.length : Int) := by omega
       have HI := Lib.hid (fun (d : Nat) (os : Array Obj) => refIns_any R _ p i (grow (redrawn wr d) os) (H.out.kept (HF.out.trans (kept_of_regrown (S := fun _ => False) (w := wr) d os)) (fun _ _ h => h)))
       have q0 := cell_regrown c0
       have q1 := cell_regrown c1
       have r0 := cell_regrown d0
       have r1 := cell_regrown d1
       have r2 := cell_regrown d2
       have r3 := cell_regrown d3
       have r4 := cell_regrown d4
       have r5 := cell_regrown d5
       cases hi : insR p i with
       | true =>
         have HN := Lib.hid (allTo_s hall.out HX.out hi)
         rw [hi] at HI
         clear hi
         go_wp2
         refine wp_region_quiet_below (by kernel_rfl) (by kernel_rfl) ?_
         repeat (quiet_step (refine Calls.regrown_of ((HI.out _ _).mono fun e w' h => ⟨h.1, h.2.below⟩)))
         refine wpQuiet_nil ?_
         intro _ hw2
         obtain ⟨pq, rfl⟩ := hw2
         go_wp2
         go_roundw
         case rel => exact ⟨k + 1, by omega, by go_num, HN, HB.out.kept (kept_of_regrown (S := fun _ => False) _ _) (fun h => h), HF.out.trans (kept_of_regrown _ _)⟩
         case measure => simp [intOf]; omega
       | false =>
         have HN : Hid (mayR p = false) := by show _ = _; rw [HA.out]; exact allTo_no (f := insR) HX.out hi
         rw [hi] at HI
         clear hi
         go_wp2
         refine wp_region_quiet_below (by kernel_rfl) (by kernel_rfl) ?_
         repeat (quiet_step (refine Calls.regrown_of ((HI.out _ _).mono fun e w' h => ⟨h.1, h.2.below⟩)))
         refine wpQuiet_nil ?_
         intro _ hw2
         obtain ⟨pq, rfl⟩ := hw2
         go_wp2
         go_ret
         exact ⟨ret_b HN.out.symm, HF.out.trans (kept_of_regrown _ _)⟩
     · obtain rfl : k = p.code.length := by omega
       have HN : Hid (mayR p = true) := by show _ = _; rw [HA.out]; exact allTo_all hall.out
       clear hall hk
       go_wp2
       go_ret
       exact ⟨ret_b HN.out.symm, HF.out⟩
 · have HN := Lib.hid (mayR_len (p := p) (by unfold lenB; rw [Bool.eq_false_iff]; intro h; simp at h; omega))
   go_enter Try.func20, Try.ntmps20
   go_wp2
   all_goals first
     | (exfalso; omega)
     | (go_ret; exact ⟨ret_b HN.out.symm, (Kept.refl _ w).alloc _⟩)
end Go.Proofs.Ytodmkjeankbieab

