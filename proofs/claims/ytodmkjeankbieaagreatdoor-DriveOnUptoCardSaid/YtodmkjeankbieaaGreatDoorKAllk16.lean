/- Texts of this claim, packed. -/
import Derived.Test.YtodmkjeankbieaaGreatDoorKAllk15
set_option linter.all false
namespace Go.Proofs.YtodmkjeankbieaaGreatDoor
open Go.RowKit Go.Sort Go.Maps

set_option maxHeartbeats 16000000 in
set_option maxRecDepth 100000 in
theorem rows_set (gb g0 : Nat) (R : Nat → Prop) (p : Pg) (A : Option Addr) (c : Nat) (A' : Option Addr) (c' sg : Nat) (o : Nat → PlaceV) (gk : Nat) (vs : Nat → Value) (kn : Nat → Int → Option Nat) (w : World) (h : Bd w gb g0 R p A c A' c' sg o) (hR : ∀ x, R x → x < w.heap.size) (hm : mayB p = true) (hs : 4 ≤ sg) (hs1 : sg ≤ 16) (ho : ∀ t, t < p.wide.length → (o t).ok) (hn : NumOk p)
   (hB : Blk w gk 133 (mkS p.code.length vs)) (hK : ∀ k, k < p.code.length → KnV w p sg p.wide.length (vs k) (kn k)) :
   Calls Tryz.prog 30 #[.pointer (some ⟨gb, 0, none⟩), .slice (some ⟨gk, 0, none⟩) p.code.length p.code.length] w (RowsPost w (placedF p (sg : Int) (regsL p.wide.length o) kn)) := by
 obtain ⟨l1, l2, l3, l4⟩ := mayB_len hm
 have HRI := Lib.hid h.ins
 have zb := h.bm.bb.lt
 have zo := h.ob.lt
 have HBD := Lib.hid h
 have HR := Lib.hid hR
 have HO := Lib.hid ho
 have HIN := Lib.hid (fun k (hk : k < p.code.length) => insOk (mayB_ins hm (inAt_mem hk)))
 have HNO := Lib.hid hn
 have q0 := h.bm.bb.cell 0
 simp only [List.getElem?_toArray, List.getElem?_cons_succ, List.getElem?_cons_zero] at q0
 have HDEF : Hid (∀ (e : Ending) (w' : World), (∃ v, e = .returned v ∧ RdPd w' (fun b => w.heap.size ≤ b ∧ b < w'.heap.size) v (placedF p (sg : Int) (regsL p.wide.length o) kn) ∧ Fr w w') → RowsPost w (placedF p (sg : Int) (regsL p.wide.length o) kn) e w') := fun _ _ h => h
 obtain ⟨F, hF⟩ : ∃ F : Nat → Rw, F = fun k => rowF p.wide (sg : Int) (regsL p.wide.length o) (kn k) (inAt p.code k) := ⟨_, rfl⟩
 have HF := Lib.hid hF
 have HPL : Hid (placedF p (sg : Int) (regsL p.wide.length o) kn = ⟨p.wide.length, (List.range p.code.length).map F⟩) := by rw [hF]; rfl
 clear hF
 have hne : ∀ w9, (binOp .neq 88 (.slice (some ⟨gk, 0, none⟩) p.code.length p.code.length) (.slice none 0 0)).run Tryz.prog w9 = .ok (.bool true) w9 := fun w9 => run_neq_slice_nil_any w9 _ _ _ _ _ _ _ Tryz.underlying88
 have HKN := Lib.hid (fun k (hk : k < p.code.length) w2 (hf : Fr w w2) => (hK k hk).fr hf)
 have HBK := Lib.hid hB
 have zk := hB.lt
 clear hK hB
 have HI0 := Lib.hid (show RsI w ((w.alloc (.cells #[.int .i64 0, .slice none 0 0] 55)).alloc (.cells #[.int .i64 (p.wide.length : Int), .slice none 0 0] 55)) p.wide.length (.slice none 0 0) [] F 0 from by
   refine ⟨(Blk.new w _ _).alloc _, ?_, RwB.nil _ _ _ (Nat.le_refl _), by simp, ((Kept.refl _ w).alloc _).alloc _, by simp⟩
   have := Blk.new (w.alloc (.cells #[.int .i64 0, .slice none 0 0] 55)) 55 #[.int .i64 (p.wide.length : Int), .slice none 0 0]
   simpa using this)
 have q1 : ((w.alloc (.cells #[.int .i64 0, .slice none 0 0] 55)).alloc (.cells #[.int .i64 (p.wide.length : Int), .slice none 0 0] 55)).cell? ⟨gb, 1, none⟩ = some (.slice A' p.code.length c') := by
   have := (HBD.out.fr HI0.out.fr).bm.bb.cell 1
   simpa using this
 clear h hR ho hm hn
 go_enter Tryz.func30, Tryz.ntmps30
 go_wp2
 go_loopw [25] (fun i wr => ∃ (k : Nat) (v : Value) (l : List RwV), k ≤ p.code.length ∧ i = .int .i64 k ∧ Hid (RsI w wr p.wide.length v l F k)) (fun i _ => p.code.length - (intOf i).toNat)
 case atStart => exact ⟨0, _, [], Nat.zero_le _, rfl, by simpa using HI0⟩
 case round =>
   obtain ⟨k, v, l, hk, rfl, HI⟩ := hrel
   obtain ⟨wa, rfl⟩ : ∃ wa : World, wa = wr := ⟨_, rfl⟩
   clear HI0 q0 q1
   have hzr := HI.out.sz
   by_cases hlt : k < p.code.length
   · obtain ⟨i, hx⟩ : ∃ i, p.code[k]? = some i := ⟨_, List.getElem?_eq_getElem hlt⟩
     have hiA : inAt p.code k = i := by rw [inAt_get hlt]; exact Option.some_inj.1 (by rw [← hx]; exact (List.getElem?_eq_getElem hlt).symm)
     have hio := HIN.out k hlt
     rw [hiA] at hio
     obtain ⟨b3, o3, rfl, hRb, c0, c1, c2, c3, c4, c5⟩ := (HRI.out.kept HI.out.fr (fun _ _ h => h)).ins hx
     have hbl := cell_lt c0
     have HKK := Lib.hid (HKN.out k hlt)
     have HFK : Hid (F k = rowF p.wide (sg : Int) (regsL p.wide.length o) (kn k) i) := by show F k = _; rw [HF.out, ← hiA]
     have HIO := Lib.hid hio
     have hkn := hio.kn
     have HROW := Lib.hid (rowF_eq (p := p) (sg := (sg : Int)) (regs := regsL p.wide.length o) (q := kn k) hkn)
     have HUS := Lib.hid (fun w2 => Uses_any i w2 hkn)
     have HGV := Lib.hid (fun w2 => Gives_any i w2 hkn)
     have HUIN := Lib.hid (fun u (hu : u ∈ uses i) => uses_in hio hu)
     have HULEN : (uses i).length ≤ 2 := by unfold uses; simp; omega
     have hk0 : (0 : Int) ≤ (k : Int) := Int.natCast_nonneg _
     have hk1 : (k : Int) < (p.code.length : Int) := by omega
     have ck := ((HBK.out.kept HI.out.fr (fun h => h)).cell k).trans (mkS_at hlt)
     have zkw := (HBK.out.kept HI.out.fr (fun h => h)).lt
     clear hx hiA hio hkn
     obtain ⟨op, d, ia, ib, ic, n⟩ := i
     unfold In.val at HUS HGV
     simp only at c0 c1 c2 c3 c4 c5 HUS HGV
     go_wp2_with fail
     refine (HUS.out _).mono ?_
     rintro e w6 ⟨vu, rfl, hru, f6⟩
     obtain ⟨Au, cu, rfl, _⟩ := id hru
     have fw5 : Fr wa ((wa.alloc (.cells #[.int .i64 op, .int .i64 d, .int .i64 ia, .int .i64 ib, .int .i64 ic, .int .u32 (n : Int)] 45)).alloc (.cells #[.int .i64 0, .int .i64 0, .int .i64 0, .int .i64 0, .int .i64 0, .int .i64 0, .slice none 0 0, .slice none 0 0] 102)) := ((Kept.refl _ wa).alloc _).alloc _
     have hf6 : Fr wa w6 := fw5.trans f6
     have HI6 := Lib.hid (show Blk w6 wa.heap.size 45 #[.int .i64 op, .int .i64 d, .int .i64 ia, .int .i64 ib, .int .i64 ic, .int .u32 (n : Int)] from ((Blk.new wa _ _).alloc _).kept f6 (fun h => h))
     have HR6 := Lib.hid (show Blk w6 (wa.heap.size + 1) 102 (rowC ⟨0, 0⟩ ⟨0, 0⟩ ⟨0, 0⟩ (.slice none 0 0) (.slice none 0 0)) from by
       have := (Blk.new (wa.alloc (.cells #[.int .i64 op, .int .i64 d, .int .i64 ia, .int .i64 ib, .int .i64 ic, .int .u32 (n : Int)] 45)) 102 #[.int .i64 0, .int .i64 0, .int .i64 0, .int .i64 0, .int .i64 0, .int .i64 0, .slice none 0 0, .slice none 0 0]).kept f6 (fun h => h)
       simpa [rowC] using this)
     have HF6 := Lib.hid (HI.out.fr.trans hf6)
     have HB6 := Lib.hid (HBD.out.fr HF6.out)
     have HK6 := Lib.hid (HKK.out _ HF6.out)
     have HOW6 := Lib.hid (HI.out.own.kept hf6 (fun _ _ _ h => h))
     have HLB6 := Lib.hid (HI.out.lb.kept hf6 (fun h => h))
     have HRS6 := Lib.hid (HI.out.res.kept hf6 (fun h => h))
     have HEQ := Lib.hid HI.out.eq
     have hll := HI.out.len
     have hl40 : l.length ≤ 40 := by omega
     clear hll
     have hz6 : wa.heap.size + 2 ≤ w6.heap.size := by have := f6.size; simpa using this
     have HRU := Lib.hid hru
     clear fw5 f6 hf6 hru c0 c1 c2 c3 c4 c5 HI HKK HUS
     generalize hUL : uses (⟨op, d, ia, ib, ic, n⟩ : In) = ul at *
     have HULE := Lib.hid hUL
     go_wp2
     go_loopw [39] (fun i wr => ∃ (j : Nat) (vb : Value), j ≤ ul.length ∧ i = .int .i64 j ∧ Hid (Blk wr (wa.heap.size + 1) 102 (rowC ⟨0, 0⟩ (rowA p (sg : Int) (regsL p.wide.length o) (⟨op, d, ia, ib, ic, n⟩ : In) j) (rowB p (sg : Int) (regsL p.wide.length o) (⟨op, d, ia, ib, ic, n⟩ : In) j) vb (.slice none 0 0))) ∧ Hid (wr.ownsRow w6.heap.size 141 6 vb (rowM p (sg : Int) (regsL p.wide.length o) (kn k) (⟨op, d, ia, ib, ic, n⟩ : In) j).length ((rowM p (sg : Int) (regsL p.wide.length o) (kn k) (⟨op, d, ia, ib, ic, n⟩ : In) j).flatMap Mv.cells)) ∧ Hid (Kept (fun b => b = wa.heap.size + 1) w6 wr)) (fun i _ => ul.length - (intOf i).toNat)
     case atStart => exact ⟨0, .slice none 0 0, Nat.zero_le _, rfl, HR6, Lib.hid (World.ownsRow_nil _ _ _ _), Lib.hid (Kept.refl _ w6)⟩
     case round =>
       obtain ⟨j, vb, hj, rfl, HRX, HVX, HKX⟩ := hrel
       have HOLT := Lib.hid (fun g hg => own_lt HVX.out (g := g) hg)
       by_cases hjl : j < ul.length
       · obtain ⟨t0, hx⟩ : ∃ t, ul[j]? = some t := ⟨_, List.getElem?_eq_getElem hjl⟩
         obtain ⟨b5, o5, c5, e5, hR5, hb5, c0⟩ := (HRU.out.kept HKX.out (fun b hb e => by simp at hb; omega)).at_ hx
         obtain ⟨rfl, _, rfl⟩ : Au = some ⟨b5, o5, none⟩ ∧ True ∧ cu = c5 := by simpa using e5
         clear e5
         have htt := HUIN.out t0 (List.mem_of_getElem? hx)
         obtain ⟨t, rfl⟩ := Int.eq_ofNat_of_zero_le htt.1
         have ht : t < p.wide.length := by have := htt.2; omega
         have HX := Lib.hid (show (uses (⟨op, d, ia, ib, ic, n⟩ : In))[j]? = some (t : Int) from by rw [HULE.out]; exact hx)
         clear hx htt
         have HBx := Lib.hid ((HB6.out.kept HKX.out (fun e => by omega) (fun e => by omega) (fun b hb e => by have := HR.out b hb; omega)).fr ((Kept.refl (fun _ => False) wr).drew))
         have HKx := Lib.hid ((HK6.out.past HKX.out HR6.out).fr ((Kept.refl (fun _ => False) wr).drew))
         have hzx := HKX.out.size
         have hj0 : (0 : Int) ≤ (j : Int) := Int.natCast_nonneg _
         have hj1 : (j : Int) < (ul.length : Int) := by omega
         have hj2 : j = 0 ∨ j = 1 := by omega
         rcases hj2 with rfl | rfl
         · have hti := uses_at0 HX.out
           simp only at hti
           subst hti
           have hpi : ∀ w9, (Instr.index 137 (.agg #[.pointer (some ⟨wa.heap.size + 1, 2, none⟩), .pointer (some ⟨wa.heap.size + 1, 4, none⟩)]) (.int .i64 0)).run Tryz.prog w9 = .ok (.pointer (some ⟨wa.heap.size + 1, 2, none⟩)) w9 := fun _ => by kernel_rfl
           have hcast : ((0 : Nat) : Int) = 0 := rfl
           have hk2 : (0 : Int) < (ul.length : Int) := by omega
           obtain ⟨⟨tk, tn⟩, htp⟩ : ∃ tp : PlaceV, takeP p.wide (sg : Int) (regsL p.wide.length o) (t : Int) 0 = tp := ⟨_, rfl⟩
           have htk := (takes_any2 w6.heap.size (wa.heap.size + 1) gb g0 R p A c _ c' sg p.wide.length o ⟨0, 0⟩ (rowA p (sg : Int) (regsL p.wide.length o) (⟨op, d, (t : Int), ib, ic, n⟩ : In) 0) (rowB p (sg : Int) (regsL p.wide.length o) (⟨op, d, (t : Int), ib, ic, n⟩ : In) 0) vb (.slice none 0 0) (vs k) (kn k) (rowM p (sg : Int) (regsL p.wide.length o) (kn k) (⟨op, d, (t : Int), ib, ic, n⟩ : In) 0) t 0 wr.drew HBx.out ht (by omega) hs hs1 HRX.out HVX.out (by have := rowM_len (p := p) (sg := (sg : Int)) (regs := (regsL p.wide.length o)) (q := kn k) (i := (⟨op, d, (t : Int), ib, ic, n⟩ : In)) (j := 0); omega) (by have := HKX.out.size; exact this) HKx.out).mono (fun e w' h => TakePost.ex htp h)
           have HTK := Lib.hid htk
           have HTP := Lib.hid htp
           have c0' : wr.cell? ⟨b5, o5, none⟩ = some (.int .i64 (t : Int)) := c0
           clear htk htp c0 hj0 hj1
           go_wp2
           go_region_with (go_at_call 60; refine HTK.out.mono ?_; rintro e w7 ⟨rfl, vb2, hr7, hv7, hk7, hat7⟩; have y2 := hr7.frozen 2; have y3 := hr7.frozen 3; have z7 := hr7.lt; have p2 := hr7.cell 2; have p3 := hr7.cell 3; unfold rowC at p2 p3; simp only [List.getElem?_toArray, List.getElem?_cons_succ, List.getElem?_cons_zero] at p2 p3)
           all_goals
             have HR9 := Lib.hid (show Blk ((w7.setCell ⟨wa.heap.size + 1, 2, none⟩ (.int .i64 tk)).setCell ⟨wa.heap.size + 1, 3, none⟩ (.int .i64 tn)) (wa.heap.size + 1) 102 (rowC ⟨0, 0⟩ (rowA p (sg : Int) (regsL p.wide.length o) (⟨op, d, (t : Int), ib, ic, n⟩ : In) (0 + 1)) (rowB p (sg : Int) (regsL p.wide.length o) (⟨op, d, (t : Int), ib, ic, n⟩ : In) (0 + 1)) vb2 (.slice none 0 0)) from by
               have := (hr7.set_ 2 (.int .i64 tk)).set_ 3 (.int .i64 tn)
               rw [show (rowA p (sg : Int) (regsL p.wide.length o) (⟨op, d, (t : Int), ib, ic, n⟩ : In) (0 + 1)) = ⟨tk, tn⟩ from rowA_s0.trans HTP.out, show (rowB p (sg : Int) (regsL p.wide.length o) (⟨op, d, (t : Int), ib, ic, n⟩ : In) (0 + 1)) = (rowB p (sg : Int) (regsL p.wide.length o) (⟨op, d, (t : Int), ib, ic, n⟩ : In) 0) from rfl]
               simpa [rowC] using this)
             have hkk : Kept (fun b => b = wa.heap.size + 1) w7 ((w7.setCell ⟨wa.heap.size + 1, 2, none⟩ (.int .i64 tk)).setCell ⟨wa.heap.size + 1, 3, none⟩ (.int .i64 tn)) := ((Kept.refl (fun b => b = wa.heap.size + 1) w7).setCell (p := ⟨wa.heap.size + 1, 2, none⟩) (fun _ => rfl) _).setCell (p := ⟨wa.heap.size + 1, 3, none⟩) (fun _ => rfl) _
             have HV9 := Lib.hid (show (((w7.setCell ⟨wa.heap.size + 1, 2, none⟩ (.int .i64 tk)).setCell ⟨wa.heap.size + 1, 3, none⟩ (.int .i64 tn))).ownsRow w6.heap.size 141 6 vb2 (rowM p (sg : Int) (regsL p.wide.length o) (kn k) (⟨op, d, (t : Int), ib, ic, n⟩ : In) (0 + 1)).length ((rowM p (sg : Int) (regsL p.wide.length o) (kn k) (⟨op, d, (t : Int), ib, ic, n⟩ : In) (0 + 1)).flatMap Mv.cells) from by
               rw [show rowM p (sg : Int) (regsL p.wide.length o) (kn k) (⟨op, d, (t : Int), ib, ic, n⟩ : In) (0 + 1) = _ from rowM_s0]
               exact own_kept hv7 hkk (fun g hg e => own_blk_ne hv7 hr7 (by decide) (e ▸ hg)))
             have HK9 := Lib.hid ((show Kept (fun b => b = wa.heap.size + 1) w6 w7 from (HKX.out.trans ((Kept.refl (fun b => b = wa.heap.size + 1) wr).drew)).then hk7 (fun i hi e => by
               rcases e with e | e
               · exact e
               · have := (HOLT.out i e).1; omega)).trans hkk)
             clear hr7 hv7 hk7 hat7 y2 y3 z7 p2 p3 hkk HTK
             go_wp2
             go_roundw
             case rel => exact ⟨0 + 1, vb2, by omega, (by first | rfl | go_num), HR9, HV9, HK9⟩
             case measure => simp [intOf]; omega
         · have hti := uses_at1 HX.out
           simp only at hti
           subst hti
           have hpi : ∀ w9, (Instr.index 137 (.agg #[.pointer (some ⟨wa.heap.size + 1, 2, none⟩), .pointer (some ⟨wa.heap.size + 1, 4, none⟩)]) (.int .i64 1)).run Tryz.prog w9 = .ok (.pointer (some ⟨wa.heap.size + 1, 4, none⟩)) w9 := fun _ => by kernel_rfl
           have hcast : ((1 : Nat) : Int) = 1 := rfl
           have hk2 : (1 : Int) < (ul.length : Int) := by omega
           obtain ⟨⟨tk, tn⟩, htp⟩ : ∃ tp : PlaceV, takeP p.wide (sg : Int) (regsL p.wide.length o) (t : Int) 1 = tp := ⟨_, rfl⟩
           have htk := (takes_any2 w6.heap.size (wa.heap.size + 1) gb g0 R p A c _ c' sg p.wide.length o ⟨0, 0⟩ (rowA p (sg : Int) (regsL p.wide.length o) (⟨op, d, ia, (t : Int), ic, n⟩ : In) 1) (rowB p (sg : Int) (regsL p.wide.length o) (⟨op, d, ia, (t : Int), ic, n⟩ : In) 1) vb (.slice none 0 0) (vs k) (kn k) (rowM p (sg : Int) (regsL p.wide.length o) (kn k) (⟨op, d, ia, (t : Int), ic, n⟩ : In) 1) t 1 wr.drew HBx.out ht (by omega) hs hs1 HRX.out HVX.out (by have := rowM_len (p := p) (sg := (sg : Int)) (regs := (regsL p.wide.length o)) (q := kn k) (i := (⟨op, d, ia, (t : Int), ic, n⟩ : In)) (j := 1); omega) (by have := HKX.out.size; exact this) HKx.out).mono (fun e w' h => TakePost.ex htp h)
           have HTK := Lib.hid htk
           have HTP := Lib.hid htp
           have c0' : wr.cell? ⟨b5, o5 + 1, none⟩ = some (.int .i64 (t : Int)) := c0
           clear htk htp c0 hj0 hj1
           go_wp2
           go_region_with (go_at_call 60; refine HTK.out.mono ?_; rintro e w7 ⟨rfl, vb2, hr7, hv7, hk7, hat7⟩; have y2 := hr7.frozen 4; have y3 := hr7.frozen 5; have z7 := hr7.lt; have p2 := hr7.cell 4; have p3 := hr7.cell 5; unfold rowC at p2 p3; simp only [List.getElem?_toArray, List.getElem?_cons_succ, List.getElem?_cons_zero] at p2 p3)
           all_goals
             have HR9 := Lib.hid (show Blk ((w7.setCell ⟨wa.heap.size + 1, 4, none⟩ (.int .i64 tk)).setCell ⟨wa.heap.size + 1, 5, none⟩ (.int .i64 tn)) (wa.heap.size + 1) 102 (rowC ⟨0, 0⟩ (rowA p (sg : Int) (regsL p.wide.length o) (⟨op, d, ia, (t : Int), ic, n⟩ : In) (1 + 1)) (rowB p (sg : Int) (regsL p.wide.length o) (⟨op, d, ia, (t : Int), ic, n⟩ : In) (1 + 1)) vb2 (.slice none 0 0)) from by
               have := (hr7.set_ 4 (.int .i64 tk)).set_ 5 (.int .i64 tn)
               rw [show (rowB p (sg : Int) (regsL p.wide.length o) (⟨op, d, ia, (t : Int), ic, n⟩ : In) (1 + 1)) = ⟨tk, tn⟩ from rowB_s1.trans HTP.out, show (rowA p (sg : Int) (regsL p.wide.length o) (⟨op, d, ia, (t : Int), ic, n⟩ : In) (1 + 1)) = (rowA p (sg : Int) (regsL p.wide.length o) (⟨op, d, ia, (t : Int), ic, n⟩ : In) 1) from rfl]
               simpa [rowC] using this)
             have hkk : Kept (fun b => b = wa.heap.size + 1) w7 ((w7.setCell ⟨wa.heap.size + 1, 4, none⟩ (.int .i64 tk)).setCell ⟨wa.heap.size + 1, 5, none⟩ (.int .i64 tn)) := ((Kept.refl (fun b => b = wa.heap.size + 1) w7).setCell (p := ⟨wa.heap.size + 1, 4, none⟩) (fun _ => rfl) _).setCell (p := ⟨wa.heap.size + 1, 5, none⟩) (fun _ => rfl) _
             have HV9 := Lib.hid (show (((w7.setCell ⟨wa.heap.size + 1, 4, none⟩ (.int .i64 tk)).setCell ⟨wa.heap.size + 1, 5, none⟩ (.int .i64 tn))).ownsRow w6.heap.size 141 6 vb2 (rowM p (sg : Int) (regsL p.wide.length o) (kn k) (⟨op, d, ia, (t : Int), ic, n⟩ : In) (1 + 1)).length ((rowM p (sg : Int) (regsL p.wide.length o) (kn k) (⟨op, d, ia, (t : Int), ic, n⟩ : In) (1 + 1)).flatMap Mv.cells) from by
               rw [show rowM p (sg : Int) (regsL p.wide.length o) (kn k) (⟨op, d, ia, (t : Int), ic, n⟩ : In) (1 + 1) = _ from rowM_s1]
               exact own_kept hv7 hkk (fun g hg e => own_blk_ne hv7 hr7 (by decide) (e ▸ hg)))
             have HK9 := Lib.hid ((show Kept (fun b => b = wa.heap.size + 1) w6 w7 from (HKX.out.trans ((Kept.refl (fun b => b = wa.heap.size + 1) wr).drew)).then hk7 (fun i hi e => by
               rcases e with e | e
               · exact e
               · have := (HOLT.out i e).1; omega)).trans hkk)
             clear hr7 hv7 hk7 hat7 y2 y3 z7 p2 p3 hkk HTK
             go_wp2
             go_roundw
             case rel => exact ⟨1 + 1, vb2, by omega, (by first | rfl | go_num), HR9, HV9, HK9⟩
             case measure => simp [intOf]; omega
       · obtain rfl : j = ul.length := by omega
         have HIx := Lib.hid (HI6.out.kept HKX.out (fun e => by omega))
         have i0 := HIx.out.cell 0
         have i1 := HIx.out.cell 1
         have i2 := HIx.out.cell 2
         have i3 := HIx.out.cell 3
         have i4 := HIx.out.cell 4
         have i5 := HIx.out.cell 5
         have zi := HIx.out.lt
         simp only [List.getElem?_toArray, List.getElem?_cons_succ, List.getElem?_cons_zero] at i0 i1 i2 i3 i4 i5
         cases hg : gvs op with
         | false =>
           rw [hg] at HGV
           have HG := Lib.hid hg
           clear hg
           go_wp2_with fail
           refine (HGV.out _).mono ?_
           rintro e wz ⟨rfl, f8⟩
           have HRZ := Lib.hid (HRX.out.kept f8 (fun h => h))
           have HVZ := Lib.hid (own_kept HVX.out f8 (fun _ _ h => h))
           have HKZ := Lib.hid (HKX.out.trans (Kept.of_fr f8))
           obtain ⟨hd9, ha9⟩ := dest_none (p := p) (sg := sg) (o := o) (i := (⟨op, d, ia, ib, ic, n⟩ : In)) HG.out
           have HDZ := Lib.hid hd9
           have HAZ := Lib.hid (show RdMv wz (fun b => w6.heap.size ≤ b ∧ b < wz.heap.size) (.slice none 0 0) (afterM p.wide (sg : Int) (regsL p.wide.length o) (⟨op, d, ia, ib, ic, n⟩ : In)) from by rw [ha9]; exact ⟨none, 0, rfl, by simp, Reads.none_, by simp⟩)
           obtain ⟨dk, hdk⟩ : ∃ dk : Int, dk = 0 := ⟨_, rfl⟩
           obtain ⟨dn, hdn⟩ : ∃ dn : Int, dn = 0 := ⟨_, rfl⟩
           rw [show (⟨0, 0⟩ : PlaceV) = ⟨dk, dn⟩ by rw [hdk, hdn]] at HDZ
           have HRZ := Lib.hid (show Blk wz (wa.heap.size + 1) 102 (rowC ⟨dk, dn⟩ (rowA p (sg : Int) (regsL p.wide.length o) (⟨op, d, ia, ib, ic, n⟩ : In) ul.length) (rowB p (sg : Int) (regsL p.wide.length o) (⟨op, d, ia, ib, ic, n⟩ : In) ul.length) vb (.slice none 0 0)) from by rw [hdk, hdn]; exact HRZ.out)
           obtain ⟨va, hva⟩ : ∃ va : Value, va = .slice none 0 0 := ⟨_, rfl⟩
           rw [← hva] at HRZ HAZ
           clear hd9 ha9 f8 i0 i1 i2 i3 i4 i5 zi HIx HKX HRX HVX hdk hdn hva HGV
           have HOZ := Lib.hid (HOW6.out.kept HKZ.out (fun b h1 h2 e => by omega))
           have HLZ := Lib.hid (HLB6.out.kept HKZ.out (fun e => by omega))
           have HSZ := Lib.hid (HRS6.out.kept HKZ.out (fun e => by omega))
           have hzz := HKZ.out.size
           obtain ⟨Av, cv, hv, _, _⟩ := own_reads HOZ.out.own
           subst hv
           have HRA := Lib.hid (rowA_ok hs1 HO.out HIO.out)
           have HRB := Lib.hid (rowB_ok hs1 HO.out HIO.out)
           have HDO := Lib.hid (destP_ok hs1 HO.out HIO.out)
           have HRM := Lib.hid (rowM_ok l2 hs1 (o := o) HIO.out (q := kn k) (fun t n hq => HK6.out.lt HNO.out hq))
           rw [HULE.out] at HRA HRB HRM
           rw [HDZ.out] at HDO
           have HFE : Hid (F k = ⟨⟨dk, dn⟩, rowA p (sg : Int) (regsL p.wide.length o) (⟨op, d, ia, ib, ic, n⟩ : In) ul.length, rowB p (sg : Int) (regsL p.wide.length o) (⟨op, d, ia, ib, ic, n⟩ : In) ul.length, rowM p (sg : Int) (regsL p.wide.length o) (kn k) (⟨op, d, ia, ib, ic, n⟩ : In) ul.length, afterM p.wide (sg : Int) (regsL p.wide.length o) (⟨op, d, ia, ib, ic, n⟩ : In)⟩) := by show _ = _; rw [HFK.out, HROW.out, HDZ.out]
           clear HDZ HFK HROW HULE
           generalize rowA p (sg : Int) (regsL p.wide.length o) (⟨op, d, ia, ib, ic, n⟩ : In) ul.length = pa at *
           generalize rowB p (sg : Int) (regsL p.wide.length o) (⟨op, d, ia, ib, ic, n⟩ : In) ul.length = pb at *
           generalize rowM p (sg : Int) (regsL p.wide.length o) (kn k) (⟨op, d, ia, ib, ic, n⟩ : In) ul.length = lm at *
           generalize afterM p.wide (sg : Int) (regsL p.wide.length o) (⟨op, d, ia, ib, ic, n⟩ : In) = la at *
           obtain ⟨ak, an⟩ := pa
           obtain ⟨bk, bn⟩ := pb
           have HVR := Lib.hid (own_reads HVZ.out)
           obtain ⟨Ab, cb, hvb, _, _⟩ := HVR.out
           subst hvb
           obtain ⟨Aa, ca, hva, _, _, _⟩ := id HAZ.out
           subst hva
           clear HVR
           have q1 := HLZ.out.cell 1
           have zl := HLZ.out.lt
           have f0 := HRZ.out.cell 0
           have f1 := HRZ.out.cell 1
           have f2 := HRZ.out.cell 2
           have f3 := HRZ.out.cell 3
           have f4 := HRZ.out.cell 4
           have f5 := HRZ.out.cell 5
           have f6 := HRZ.out.cell 6
           have f7 := HRZ.out.cell 7
           have zr := HRZ.out.lt
           unfold rowC at f0 f1 f2 f3 f4 f5 f6 f7
           simp only [List.getElem?_toArray, List.getElem?_cons_succ, List.getElem?_cons_zero] at q1 f0 f1 f2 f3 f4 f5 f6 f7
           go_wp2_with (first
             | (at_builtin
                refine wpList_app _ rfl slRwB (.tmp 85) (.tmp 87) rfl (.slice Av l.length cv) _ _ rfl (World.ownsRow.alloc HOZ.out.own _) (fun _ => True) _ 1 1 _ rfl (Reads.lit' (by simp) trivial rfl) ?_ ?_ ?_ ?_ ?_
                · simp [Value.oneCell']
                · omega
                · unfold maxLen; omega
                · simp only [World.size_alloc]; omega
                intro v7 w7 hown7 hk7 hat7
                obtain ⟨A7, c7, rfl, _, _⟩ := own_reads hown7
                have l7 := (HLZ.out.alloc (.cells #[.int .i64 dk, .int .i64 dn, .int .i64 ak, .int .i64 an, .int .i64 bk, .int .i64 bn, .slice Ab lm.length cb, .slice Aa la.length ca] 102)).kept hk7 (own_blk_ne (World.ownsRow.alloc HOZ.out.own (.cells #[.int .i64 dk, .int .i64 dn, .int .i64 ak, .int .i64 an, .int .i64 bk, .int .i64 bn, .slice Ab lm.length cb, .slice Aa la.length ca] 102)) (HLZ.out.alloc _) (by decide))
                have p1 := l7.cell 1
                have y1 := l7.frozen 1
                simp only [List.getElem?_toArray, List.getElem?_cons_succ, List.getElem?_cons_zero] at p1))
           go_roundw
           case rel =>
             have HOA := HOZ.out.kept ((Kept.refl (fun _ => False) wz).alloc (.cells #[.int .i64 dk, .int .i64 dn, .int .i64 ak, .int .i64 an, .int .i64 bk, .int .i64 bn, .slice Ab lm.length cb, .slice Aa la.length ca] 102)) (fun _ _ _ h => h)
             have hlt7 : ∀ b, (Value.slice Av l.length cv).ownBlock = some b → w.heap.size + 2 ≤ b ∧ b < wa.heap.size := fun b hb => ⟨(own_lt HOA.own hb).1, HOA.lt b hb⟩
             have hxk : (⟨⟨⟨dk, dn⟩, ⟨ak, an⟩, ⟨bk, bn⟩, lm, la⟩, .slice Ab lm.length cb, .slice Aa la.length ca⟩ : RwV).ok (wz.alloc (.cells #[.int .i64 dk, .int .i64 dn, .int .i64 ak, .int .i64 an, .int .i64 bk, .int .i64 bn, .slice Ab lm.length cb, .slice Aa la.length ca] 102)) (fun b => w.heap.size + 2 ≤ b ∧ b < (wz.alloc (.cells #[.int .i64 dk, .int .i64 dn, .int .i64 ak, .int .i64 an, .int .i64 bk, .int .i64 bn, .slice Ab lm.length cb, .slice Aa la.length ca] 102)).heap.size ∧ (Value.slice Av l.length cv).ownBlock ≠ some b) := by
               refine ⟨HDO.out, HRA.out, HRB.out, ?_, ?_⟩
               · exact ((ownMv_rd (Q := fun b => w6.heap.size ≤ b ∧ b < wz.heap.size) HVZ.out HRM.out (fun b _ h1 h2 => ⟨h1, h2⟩)).kept ((Kept.refl (fun _ => False) wz).alloc _) (fun _ _ h => h)).more (fun b hb => ⟨by omega, by simp only [World.size_alloc]; omega, fun e => by have := hlt7 b e; omega⟩)
               · exact (HAZ.out.kept ((Kept.refl (fun _ => False) wz).alloc _) (fun _ _ h => h)).more (fun b hb => ⟨by omega, by simp only [World.size_alloc]; omega, fun e => by have := hlt7 b e; omega⟩)
             have ox := HOA.snoc hxk hk7 hown7 hat7
             have kl := (Kept.refl (fun b => b = w.heap.size + 1) w7).setCell (p := ⟨w.heap.size + 1, 1, none⟩) (fun _ => rfl) (.slice A7 (l.length + 1) c7)
             have zl := kl.size
             have hz7 := hk7.size
             simp only [World.size_alloc] at hz7
             refine ⟨k + 1, _, l ++ [_], by omega, by go_num, ⟨?_, ?_, (ox.kept kl (fun b hb _ e => by omega)).up zl (Nat.le_refl _), RsI.next HEQ.out HFE.out.symm, ?_, by simp only [World.size_setCell]; omega⟩⟩
             · exact ((HSZ.out.alloc _).kept hk7 (fun e => by have := hlt7 _ e; omega)).far (p := ⟨w.heap.size + 1, 1, none⟩) (by simp only; omega) _
             · have := l7.set_ 1 (.slice A7 (l.length + 1) c7)
               simpa using this
             · have fz : Fr w wz := HF6.out.then HKZ.out (fun i hi e => by omega)
               exact (((fz.alloc _).then hk7 (fun i hi e => by have := hlt7 _ e; omega))).setCell (fun e => by simp only at e; omega) _
           case measure => simp [intOf]; omega
         | true =>
           rw [hg] at HGV
           have HG := Lib.hid hg
           clear hg
           go_wp2_with fail
           refine (HGV.out _).mono ?_
           rintro e w8 ⟨rfl, f8⟩
           have HR8 := Lib.hid (HRX.out.kept f8 (fun h => h))
           have HV8 := Lib.hid (own_kept HVX.out f8 (fun _ _ h => h))
           have HK8 := Lib.hid (HKX.out.trans (Kept.of_fr f8))
           have HI8 := Lib.hid (HIx.out.kept f8 (fun h => h))
           have hdt := HIO.out.d HG.out
           obtain ⟨t, hdt2⟩ := Int.eq_ofNat_of_zero_le hdt.1
           simp only at hdt2
           have ht : t < p.wide.length := by have := hdt.2; simp only at this; omega
           subst hdt2
           have HB8 := Lib.hid (HB6.out.kept HK8.out (fun e => by omega) (fun e => by omega) (fun b hb e => by have := HR.out b hb; omega))
           have hz8 := HK8.out.size
           have b3 := HB8.out.bm.bb.cell 3
           have zb8 := HB8.out.bm.bb.lt
           obtain ⟨d0, d1⟩ := mkP_at (o := o) ht
           have e0 := (HB8.out.ob.cell (t * 2)).trans d0
           have e1 := (HB8.out.ob.cell (t * 2 + 1)).trans d1
           have zo8 := HB8.out.ob.lt
           have j1 := HI8.out.cell 1
           have zj := HI8.out.lt
           have r0 := HR8.out.cell 0
           have r1 := HR8.out.cell 1
           have zr := HR8.out.lt
           have yr0 := HR8.out.frozen 0
           have yr1 := HR8.out.frozen 1
           unfold rowC at r0 r1
           simp only [List.getElem?_toArray, List.getElem?_cons_succ, List.getElem?_cons_zero] at b3 j1 r0 r1
           have ht0 : (0 : Int) ≤ (t : Int) := by omega
           have ht1 : (t : Int) < (p.wide.length : Int) := by omega
           have HDR := Lib.hid (fun h0 => dest_reg (p := p) (sg := sg) (o := o) (i := (⟨op, (t : Int), ia, ib, ic, n⟩ : In)) (t := t) HG.out rfl ht h0)
           have HDS := Lib.hid (fun h0 => dest_slot (p := p) (sg := sg) (o := o) (i := (⟨op, (t : Int), ia, ib, ic, n⟩ : In)) (t := t) HG.out rfl ht h0)
           have HOT := Lib.hid (rfl : o t = o t)
           clear d0 d1 f8 i0 i1 i2 i3 i4 i5 zi HIx HKX HRX HVX HGV hdt
           generalize hot : o t = r at *
           obtain ⟨rk, rn⟩ := r
           simp only at e0 e1 HDR HDS
           go_wp2
           have hkd : Kept (fun b => b = wa.heap.size + 1) w8 ((w8.setCell ⟨wa.heap.size + 1, 0, none⟩ (.int .i64 rk)).setCell ⟨wa.heap.size + 1, 1, none⟩ (.int .i64 rn)) := ((Kept.refl (fun b => b = wa.heap.size + 1) w8).setCell (p := ⟨wa.heap.size + 1, 0, none⟩) (fun _ => rfl) _).setCell (p := ⟨wa.heap.size + 1, 1, none⟩) (fun _ => rfl) _
           have sa := (show ((w8.setCell ⟨wa.heap.size + 1, 0, none⟩ (.int .i64 rk)).setCell ⟨wa.heap.size + 1, 1, none⟩ (.int .i64 rn)).cell? ⟨gb, 3, none⟩ = some (.slice (some ⟨g0, 0, none⟩) p.wide.length p.wide.length) ∧ ((w8.setCell ⟨wa.heap.size + 1, 0, none⟩ (.int .i64 rk)).setCell ⟨wa.heap.size + 1, 1, none⟩ (.int .i64 rn)).cell? ⟨wa.heap.size, 1, none⟩ = some (.int .i64 (t : Int)) ∧ ((w8.setCell ⟨wa.heap.size + 1, 0, none⟩ (.int .i64 rk)).setCell ⟨wa.heap.size + 1, 1, none⟩ (.int .i64 rn)).cell? ⟨g0, t * 2, none⟩ = some (.int .i64 rk) ∧ ((w8.setCell ⟨wa.heap.size + 1, 0, none⟩ (.int .i64 rk)).setCell ⟨wa.heap.size + 1, 1, none⟩ (.int .i64 rn)).cell? ⟨g0, t * 2 + 1, none⟩ = some (.int .i64 rn) from
             ⟨(hkd.cell (p := ⟨gb, 3, none⟩) zb8 (fun e => by simp only at e; omega)).trans b3, (hkd.cell (p := ⟨wa.heap.size, 1, none⟩) zj (fun e => by simp only at e; omega)).trans j1, (hkd.cell (p := ⟨g0, t * 2, none⟩) zo8 (fun e => by simp only at e; omega)).trans e0, (hkd.cell (p := ⟨g0, t * 2 + 1, none⟩) zo8 (fun e => by simp only at e; omega)).trans e1⟩)
           go_region_held3 (fun w' => w'.cell? ⟨gb, 3, none⟩ = some (.slice (some ⟨g0, 0, none⟩) p.wide.length p.wide.length) ∧ w'.cell? ⟨wa.heap.size, 1, none⟩ = some (.int .i64 (t : Int)) ∧ w'.cell? ⟨g0, t * 2, none⟩ = some (.int .i64 rk) ∧ w'.cell? ⟨g0, t * 2 + 1, none⟩ = some (.int .i64 rn)) (first | go_keep | exact sa) (fail)
           rename_i hHeld
           clear hHeld sa
           have hRW9 := (HR8.out.set_ 0 (.int .i64 rk)).set_ 1 (.int .i64 rn)
           have HR9 := Lib.hid (show Blk (((w8.setCell ⟨wa.heap.size + 1, 0, none⟩ (.int .i64 rk)).setCell ⟨wa.heap.size + 1, 1, none⟩ (.int .i64 rn))).drew (wa.heap.size + 1) 102 (rowC ⟨rk, rn⟩ (rowA p (sg : Int) (regsL p.wide.length o) (⟨op, (t : Int), ia, ib, ic, n⟩ : In) ul.length) (rowB p (sg : Int) (regsL p.wide.length o) (⟨op, (t : Int), ia, ib, ic, n⟩ : In) ul.length) vb (.slice none 0 0)) from by
             have := hRW9.drew
             simpa [rowC] using this)
           have HV9 := Lib.hid (own_kept (own_kept HV8.out hkd (fun g hg e => own_blk_ne HV8.out HR8.out (by decide) (e ▸ hg))) ((Kept.refl (fun _ => False) (((w8.setCell ⟨wa.heap.size + 1, 0, none⟩ (.int .i64 rk)).setCell ⟨wa.heap.size + 1, 1, none⟩ (.int .i64 rn)))).drew) (fun _ _ h => h))
           have HK9 := Lib.hid (HK8.out.trans (hkd.trans ((Kept.refl (fun b => b = wa.heap.size + 1) (((w8.setCell ⟨wa.heap.size + 1, 0, none⟩ (.int .i64 rk)).setCell ⟨wa.heap.size + 1, 1, none⟩ (.int .i64 rn)))).drew)))
           have HI9 := Lib.hid ((HI8.out.kept hkd (fun e => by omega)).drew)
           obtain ⟨w9, hw9⟩ : ∃ w9 : World, w9 = (((w8.setCell ⟨wa.heap.size + 1, 0, none⟩ (.int .i64 rk)).setCell ⟨wa.heap.size + 1, 1, none⟩ (.int .i64 rn))).drew := ⟨_, rfl⟩
           rw [← hw9] at HR9 HV9 HK9 HI9 ⊢
           have HW9 := Lib.hid hw9
           clear hw9 hkd hRW9 b3 zb8 e0 e1 zo8 j1 zj r0 r1 zr yr0 yr1 HR8 HV8 HK8 HI8 HB8
           have r0 := HR9.out.cell 0
           have r1 := HR9.out.cell 1
           have zr := HR9.out.lt
           have yr0 := HR9.out.frozen 0
           have yr1 := HR9.out.frozen 1
           have j1 := HI9.out.cell 1
           have zj := HI9.out.lt
           unfold rowC at r0 r1
           simp only [List.getElem?_toArray, List.getElem?_cons_succ, List.getElem?_cons_zero] at r0 r1 j1
           by_cases hk0' : rk = 0
           · have hkb : (rk == 0) = true := by simpa using hk0'
             obtain ⟨hd9, ha9⟩ := HDS.out hk0'
             have HB9 := Lib.hid (HB6.out.kept HK9.out (fun e => by omega) (fun e => by omega) (fun b hb e => by have := HR.out b hb; omega))
             have HSC : Hid (Calls Tryz.prog 61 #[.pointer (some ⟨gb, 0, none⟩), .int .i64 (t : Int), .int .i64 0] w9 fun e w' => e = .returned (scr p.wide (sg : Int) (t : Int) 0).val ∧ Fr w9 w') := scratch_any gb R p A c _ c' sg _ t 0 w9 HB9.out.bm HB9.out.wide ht (by omega) hs hs1
             have HSL := Lib.hid (fun w2 => slot_any (t : Int) w2)
             have HD9 := Lib.hid hd9
             have HA9 := Lib.hid ha9
             have HSO := Lib.hid (scr_ok (p := p) hs1 (t : Int) 0 (by omega))
             have HTI := Lib.hid (slotP_ok (p := p) l2 ⟨ht0, ht1⟩)
             clear hd9 ha9 HDS HDR hk0'
             generalize scr p.wide (sg : Int) (t : Int) 0 = sc at *
             obtain ⟨sk, sn⟩ := sc
             unfold PlaceV.val at HSC
             unfold slotP PlaceV.val at HSL
             simp only at HSC HSL
             go_wp2_with fail
             refine HSC.out.mono ?_
             rintro e wb ⟨rfl, fb⟩
             have HRb := Lib.hid (HR9.out.kept fb (fun h => h))
             have HVb := Lib.hid (own_kept HV9.out fb (fun _ _ h => h))
             have HKb := Lib.hid (HK9.out.trans (Kept.of_fr fb))
             have HIb := Lib.hid (HI9.out.kept fb (fun h => h))
             clear r0 r1 zr yr0 yr1 j1 zj fb HSC HR9 HV9 HK9 HI9
             have r0 := HRb.out.cell 0
             have r1 := HRb.out.cell 1
             have zr := HRb.out.lt
             have yr0 := HRb.out.frozen 0
             have yr1 := HRb.out.frozen 1
             have hrc := (HRb.out.set_ 0 (.int .i64 sk)).set_ 1 (.int .i64 sn)
             have hkc : Kept (fun b => b = wa.heap.size + 1) wb ((wb.setCell ⟨wa.heap.size + 1, 0, none⟩ (.int .i64 sk)).setCell ⟨wa.heap.size + 1, 1, none⟩ (.int .i64 sn)) := ((Kept.refl (fun b => b = wa.heap.size + 1) wb).setCell (p := ⟨wa.heap.size + 1, 0, none⟩) (fun _ => rfl) _).setCell (p := ⟨wa.heap.size + 1, 1, none⟩) (fun _ => rfl) _
             have HRc := Lib.hid (show Blk ((wb.setCell ⟨wa.heap.size + 1, 0, none⟩ (.int .i64 sk)).setCell ⟨wa.heap.size + 1, 1, none⟩ (.int .i64 sn)) (wa.heap.size + 1) 102 (rowC ⟨sk, sn⟩ (rowA p (sg : Int) (regsL p.wide.length o) (⟨op, (t : Int), ia, ib, ic, n⟩ : In) ul.length) (rowB p (sg : Int) (regsL p.wide.length o) (⟨op, (t : Int), ia, ib, ic, n⟩ : In) ul.length) vb (.slice none 0 0)) from by
               simpa [rowC] using hrc)
             have HVc := Lib.hid (own_kept HVb.out hkc (fun g hg e => own_blk_ne HVb.out HRb.out (by decide) (e ▸ hg)))
             have HKc := Lib.hid (HKb.out.trans hkc)
             have HIc := Lib.hid (HIb.out.kept hkc (fun e => by omega))
             clear hkc hrc HRb HVb HKb HIb
             unfold rowC at r0 r1
             simp only [List.getElem?_toArray, List.getElem?_cons_succ, List.getElem?_cons_zero] at r0 r1
             have s0 := HRc.out.cell 0
             have s1 := HRc.out.cell 1
             have s7 := HRc.out.cell 7
             have ys7 := HRc.out.frozen 7
             have zs := HRc.out.lt
             have j1 := HIc.out.cell 1
             have zj := HIc.out.lt
             unfold rowC at s0 s1 s7
             simp only [List.getElem?_toArray, List.getElem?_cons_succ, List.getElem?_cons_zero] at s0 s1 s7 j1
             obtain ⟨wc, hwc⟩ : ∃ wc : World, wc = ((wb.setCell ⟨wa.heap.size + 1, 0, none⟩ (.int .i64 sk)).setCell ⟨wa.heap.size + 1, 1, none⟩ (.int .i64 sn)) := ⟨_, rfl⟩
             rw [← hwc] at HRc HVc HKc HIc s0 s1 s7 ys7 zs j1 zj
             have HWC := Lib.hid hwc
             clear hwc
             go_wp2
             rw [← HWC.out]
             have hR7 := ((HRc.out.set_ 7 (.slice (some ⟨wc.heap.size + 1, 0, none⟩) 1 1)).alloc (.cells #[.int .i64 3, .int .i64 (t : Int)] 99)).alloc (.cells #[.int .i64 3, .int .i64 (t : Int), .int .i64 sk, .int .i64 sn, .bool false, .int .u32 0] 141)
             have hk7 : Kept (fun b => b = wa.heap.size + 1) wc (((wc.setCell ⟨wa.heap.size + 1, 7, none⟩ (.slice (some ⟨wc.heap.size + 1, 0, none⟩) 1 1)).alloc (.cells #[.int .i64 3, .int .i64 (t : Int)] 99)).alloc (.cells #[.int .i64 3, .int .i64 (t : Int), .int .i64 sk, .int .i64 sn, .bool false, .int .u32 0] 141)) := (((Kept.refl (fun b => b = wa.heap.size + 1) wc).setCell (p := ⟨wa.heap.size + 1, 7, none⟩) (fun _ => rfl) _).alloc _).alloc _
             have sa := (show ((((wc.setCell ⟨wa.heap.size + 1, 7, none⟩ (.slice (some ⟨wc.heap.size + 1, 0, none⟩) 1 1)).alloc (.cells #[.int .i64 3, .int .i64 (t : Int)] 99)).alloc (.cells #[.int .i64 3, .int .i64 (t : Int), .int .i64 sk, .int .i64 sn, .bool false, .int .u32 0] 141))).cell? ⟨wa.heap.size, 1, none⟩ = some (.int .i64 (t : Int)) ∧ ((((wc.setCell ⟨wa.heap.size + 1, 7, none⟩ (.slice (some ⟨wc.heap.size + 1, 0, none⟩) 1 1)).alloc (.cells #[.int .i64 3, .int .i64 (t : Int)] 99)).alloc (.cells #[.int .i64 3, .int .i64 (t : Int), .int .i64 sk, .int .i64 sn, .bool false, .int .u32 0] 141))).cell? ⟨wa.heap.size + 1, 0, none⟩ = some (.int .i64 sk) ∧ ((((wc.setCell ⟨wa.heap.size + 1, 7, none⟩ (.slice (some ⟨wc.heap.size + 1, 0, none⟩) 1 1)).alloc (.cells #[.int .i64 3, .int .i64 (t : Int)] 99)).alloc (.cells #[.int .i64 3, .int .i64 (t : Int), .int .i64 sk, .int .i64 sn, .bool false, .int .u32 0] 141))).cell? ⟨wa.heap.size + 1, 1, none⟩ = some (.int .i64 sn) from
               ⟨(hk7.cell (p := ⟨wa.heap.size, 1, none⟩) zj (fun e => by simp only at e; omega)).trans j1, by rw [hR7.cell]; simp [rowC], by rw [hR7.cell]; simp [rowC]⟩)
             have hnw := World.new_ne wc ⟨wa.heap.size + 1, 0, none⟩ s0
             have hnj := World.new_ne wc ⟨wa.heap.size, 1, none⟩ j1
             go_region_held3 (fun w' => w'.cell? ⟨wa.heap.size, 1, none⟩ = some (.int .i64 (t : Int)) ∧ w'.cell? ⟨wa.heap.size + 1, 0, none⟩ = some (.int .i64 sk) ∧ w'.cell? ⟨wa.heap.size + 1, 1, none⟩ = some (.int .i64 sn)) (first | go_keep | exact sa) ((go_at_call 62; refine (HSL.out _).mono ?_; rintro e wd ⟨rfl, rfl⟩))
             rename_i hHeld
             clear hHeld sa
             have HRZ := Lib.hid (show Blk (((((wc.setCell ⟨wa.heap.size + 1, 7, none⟩ (.slice (some ⟨wc.heap.size + 1, 0, none⟩) 1 1)).alloc (.cells #[.int .i64 3, .int .i64 (t : Int)] 99)).alloc (.cells #[.int .i64 3, .int .i64 (t : Int), .int .i64 sk, .int .i64 sn, .bool false, .int .u32 0] 141))).drew) (wa.heap.size + 1) 102 (rowC ⟨sk, sn⟩ (rowA p (sg : Int) (regsL p.wide.length o) (⟨op, (t : Int), ia, ib, ic, n⟩ : In) ul.length) (rowB p (sg : Int) (regsL p.wide.length o) (⟨op, (t : Int), ia, ib, ic, n⟩ : In) ul.length) vb (.slice (some ⟨wc.heap.size + 1, 0, none⟩) 1 1)) from by
               have := hR7.drew
               simpa [rowC] using this)
             have hkz : Kept (fun b => b = wa.heap.size + 1) wc (((((wc.setCell ⟨wa.heap.size + 1, 7, none⟩ (.slice (some ⟨wc.heap.size + 1, 0, none⟩) 1 1)).alloc (.cells #[.int .i64 3, .int .i64 (t : Int)] 99)).alloc (.cells #[.int .i64 3, .int .i64 (t : Int), .int .i64 sk, .int .i64 sn, .bool false, .int .u32 0] 141))).drew) := hk7.drew
             have HVZ := Lib.hid (own_kept HVc.out hkz (fun g hg e => own_blk_ne HVc.out HRc.out (by decide) (e ▸ hg)))
             have HKZ := Lib.hid (HKc.out.trans hkz)
             have hzc := HKc.out.size
             have HAZ := Lib.hid (show RdMv (((((wc.setCell ⟨wa.heap.size + 1, 7, none⟩ (.slice (some ⟨wc.heap.size + 1, 0, none⟩) 1 1)).alloc (.cells #[.int .i64 3, .int .i64 (t : Int)] 99)).alloc (.cells #[.int .i64 3, .int .i64 (t : Int), .int .i64 sk, .int .i64 sn, .bool false, .int .u32 0] 141))).drew) (fun b => w6.heap.size ≤ b ∧ b < (((((wc.setCell ⟨wa.heap.size + 1, 7, none⟩ (.slice (some ⟨wc.heap.size + 1, 0, none⟩) 1 1)).alloc (.cells #[.int .i64 3, .int .i64 (t : Int)] 99)).alloc (.cells #[.int .i64 3, .int .i64 (t : Int), .int .i64 sk, .int .i64 sn, .bool false, .int .u32 0] 141))).drew).heap.size) (.slice (some ⟨wc.heap.size + 1, 0, none⟩) 1 1) (afterM p.wide (sg : Int) (regsL p.wide.length o) (⟨op, (t : Int), ia, ib, ic, n⟩ : In)) from by
               rw [HA9.out]
               refine ⟨_, 1, rfl, by simp [maxLen], ?_, ?_⟩
               · have := Reads.lit' (w := (wc.setCell ⟨wa.heap.size + 1, 7, none⟩ (.slice (some ⟨wc.heap.size + 1, 0, none⟩) 1 1)).alloc (.cells #[.int .i64 3, .int .i64 (t : Int)] 99)) (R := fun b => w6.heap.size ≤ b ∧ b < wc.heap.size + 2) (e := 141) (size := 6) (n := 1) (g := wc.heap.size + 1) (cs := #[.int .i64 3, .int .i64 (t : Int), .int .i64 sk, .int .i64 sn, .bool false, .int .u32 0]) (by simp) (by omega) rfl
                 refine (this.more (fun b hb => ⟨hb.1, ?_⟩)).keep (fun p _ => rfl)
                 show b < ((((wc.setCell ⟨wa.heap.size + 1, 7, none⟩ (.slice (some ⟨wc.heap.size + 1, 0, none⟩) 1 1)).alloc (.cells #[.int .i64 3, .int .i64 (t : Int)] 99)).alloc (.cells #[.int .i64 3, .int .i64 (t : Int), .int .i64 sk, .int .i64 sn, .bool false, .int .u32 0] 141))).heap.size
                 simp only [World.size_alloc, World.size_setCell]
                 omega
               · intro m hm
                 simp only [List.mem_singleton] at hm
                 subst hm
                 exact ⟨HTI.out, HSO.out, by simp⟩)
             have HDZ := HD9
             obtain ⟨wz, hwz⟩ : ∃ wz : World, wz = ((((wc.setCell ⟨wa.heap.size + 1, 7, none⟩ (.slice (some ⟨wc.heap.size + 1, 0, none⟩) 1 1)).alloc (.cells #[.int .i64 3, .int .i64 (t : Int)] 99)).alloc (.cells #[.int .i64 3, .int .i64 (t : Int), .int .i64 sk, .int .i64 sn, .bool false, .int .u32 0] 141))).drew := ⟨_, rfl⟩
             rw [← hwz] at HRZ HVZ HKZ HAZ ⊢
             obtain ⟨va, hva⟩ : ∃ va : Value, va = .slice (some ⟨wc.heap.size + 1, 0, none⟩) 1 1 := ⟨_, rfl⟩
             rw [← hva] at HRZ HAZ
             obtain ⟨dk, hdk⟩ : ∃ dk : Int, dk = sk := ⟨_, rfl⟩
             obtain ⟨dn, hdn⟩ : ∃ dn : Int, dn = sn := ⟨_, rfl⟩
             subst hdk hdn
             clear hR7 hk7 hkz hnw hnj s0 s1 s7 ys7 zs j1 zj HRc HVc HKc HIc HD9 HA9 HSO HTI HWC hwz hva
             have HOZ := Lib.hid (HOW6.out.kept HKZ.out (fun b h1 h2 e => by omega))
             have HLZ := Lib.hid (HLB6.out.kept HKZ.out (fun e => by omega))
             have HSZ := Lib.hid (HRS6.out.kept HKZ.out (fun e => by omega))
             have hzz := HKZ.out.size
             obtain ⟨Av, cv, hv, _, _⟩ := own_reads HOZ.out.own
             subst hv
             have HRA := Lib.hid (rowA_ok hs1 HO.out HIO.out)
             have HRB := Lib.hid (rowB_ok hs1 HO.out HIO.out)
             have HDO := Lib.hid (destP_ok hs1 HO.out HIO.out)
             have HRM := Lib.hid (rowM_ok l2 hs1 (o := o) HIO.out (q := kn k) (fun t n hq => HK6.out.lt HNO.out hq))
             rw [HULE.out] at HRA HRB HRM
             rw [HDZ.out] at HDO
             have HFE : Hid (F k = ⟨⟨dk, dn⟩, rowA p (sg : Int) (regsL p.wide.length o) (⟨op, (t : Int), ia, ib, ic, n⟩ : In) ul.length, rowB p (sg : Int) (regsL p.wide.length o) (⟨op, (t : Int), ia, ib, ic, n⟩ : In) ul.length, rowM p (sg : Int) (regsL p.wide.length o) (kn k) (⟨op, (t : Int), ia, ib, ic, n⟩ : In) ul.length, afterM p.wide (sg : Int) (regsL p.wide.length o) (⟨op, (t : Int), ia, ib, ic, n⟩ : In)⟩) := by show _ = _; rw [HFK.out, HROW.out, HDZ.out]
             clear HDZ HFK HROW HULE
             generalize rowA p (sg : Int) (regsL p.wide.length o) (⟨op, (t : Int), ia, ib, ic, n⟩ : In) ul.length = pa at *
             generalize rowB p (sg : Int) (regsL p.wide.length o) (⟨op, (t : Int), ia, ib, ic, n⟩ : In) ul.length = pb at *
             generalize rowM p (sg : Int) (regsL p.wide.length o) (kn k) (⟨op, (t : Int), ia, ib, ic, n⟩ : In) ul.length = lm at *
             generalize afterM p.wide (sg : Int) (regsL p.wide.length o) (⟨op, (t : Int), ia, ib, ic, n⟩ : In) = la at *
             obtain ⟨ak, an⟩ := pa
             obtain ⟨bk, bn⟩ := pb
             have HVR := Lib.hid (own_reads HVZ.out)
             obtain ⟨Ab, cb, hvb, _, _⟩ := HVR.out
             subst hvb
             obtain ⟨Aa, ca, hva, _, _, _⟩ := id HAZ.out
             subst hva
             clear HVR
             have q1 := HLZ.out.cell 1
             have zl := HLZ.out.lt
             have f0 := HRZ.out.cell 0
             have f1 := HRZ.out.cell 1
             have f2 := HRZ.out.cell 2
             have f3 := HRZ.out.cell 3
             have f4 := HRZ.out.cell 4
             have f5 := HRZ.out.cell 5
             have f6 := HRZ.out.cell 6
             have f7 := HRZ.out.cell 7
             have zr := HRZ.out.lt
             unfold rowC at f0 f1 f2 f3 f4 f5 f6 f7
             simp only [List.getElem?_toArray, List.getElem?_cons_succ, List.getElem?_cons_zero] at q1 f0 f1 f2 f3 f4 f5 f6 f7
             go_wp2_with (first
               | (at_builtin
                  refine wpList_app _ rfl slRwB (.tmp 85) (.tmp 87) rfl (.slice Av l.length cv) _ _ rfl (World.ownsRow.alloc HOZ.out.own _) (fun _ => True) _ 1 1 _ rfl (Reads.lit' (by simp) trivial rfl) ?_ ?_ ?_ ?_ ?_
                  · simp [Value.oneCell']
                  · omega
                  · unfold maxLen; omega
                  · simp only [World.size_alloc]; omega
                  intro v7 w7 hown7 hk7 hat7
                  obtain ⟨A7, c7, rfl, _, _⟩ := own_reads hown7
                  have l7 := (HLZ.out.alloc (.cells #[.int .i64 dk, .int .i64 dn, .int .i64 ak, .int .i64 an, .int .i64 bk, .int .i64 bn, .slice Ab lm.length cb, .slice Aa la.length ca] 102)).kept hk7 (own_blk_ne (World.ownsRow.alloc HOZ.out.own (.cells #[.int .i64 dk, .int .i64 dn, .int .i64 ak, .int .i64 an, .int .i64 bk, .int .i64 bn, .slice Ab lm.length cb, .slice Aa la.length ca] 102)) (HLZ.out.alloc _) (by decide))
                  have p1 := l7.cell 1
                  have y1 := l7.frozen 1
                  simp only [List.getElem?_toArray, List.getElem?_cons_succ, List.getElem?_cons_zero] at p1))
             go_roundw
             case rel =>
               have HOA := HOZ.out.kept ((Kept.refl (fun _ => False) wz).alloc (.cells #[.int .i64 dk, .int .i64 dn, .int .i64 ak, .int .i64 an, .int .i64 bk, .int .i64 bn, .slice Ab lm.length cb, .slice Aa la.length ca] 102)) (fun _ _ _ h => h)
               have hlt7 : ∀ b, (Value.slice Av l.length cv).ownBlock = some b → w.heap.size + 2 ≤ b ∧ b < wa.heap.size := fun b hb => ⟨(own_lt HOA.own hb).1, HOA.lt b hb⟩
               have hxk : (⟨⟨⟨dk, dn⟩, ⟨ak, an⟩, ⟨bk, bn⟩, lm, la⟩, .slice Ab lm.length cb, .slice Aa la.length ca⟩ : RwV).ok (wz.alloc (.cells #[.int .i64 dk, .int .i64 dn, .int .i64 ak, .int .i64 an, .int .i64 bk, .int .i64 bn, .slice Ab lm.length cb, .slice Aa la.length ca] 102)) (fun b => w.heap.size + 2 ≤ b ∧ b < (wz.alloc (.cells #[.int .i64 dk, .int .i64 dn, .int .i64 ak, .int .i64 an, .int .i64 bk, .int .i64 bn, .slice Ab lm.length cb, .slice Aa la.length ca] 102)).heap.size ∧ (Value.slice Av l.length cv).ownBlock ≠ some b) := by
                 refine ⟨HDO.out, HRA.out, HRB.out, ?_, ?_⟩
                 · exact ((ownMv_rd (Q := fun b => w6.heap.size ≤ b ∧ b < wz.heap.size) HVZ.out HRM.out (fun b _ h1 h2 => ⟨h1, h2⟩)).kept ((Kept.refl (fun _ => False) wz).alloc _) (fun _ _ h => h)).more (fun b hb => ⟨by omega, by simp only [World.size_alloc]; omega, fun e => by have := hlt7 b e; omega⟩)
                 · exact (HAZ.out.kept ((Kept.refl (fun _ => False) wz).alloc _) (fun _ _ h => h)).more (fun b hb => ⟨by omega, by simp only [World.size_alloc]; omega, fun e => by have := hlt7 b e; omega⟩)
               have ox := HOA.snoc hxk hk7 hown7 hat7
               have kl := (Kept.refl (fun b => b = w.heap.size + 1) w7).setCell (p := ⟨w.heap.size + 1, 1, none⟩) (fun _ => rfl) (.slice A7 (l.length + 1) c7)
               have zl := kl.size
               have hz7 := hk7.size
               simp only [World.size_alloc] at hz7
               refine ⟨k + 1, _, l ++ [_], by omega, by go_num, ⟨?_, ?_, (ox.kept kl (fun b hb _ e => by omega)).up zl (Nat.le_refl _), RsI.next HEQ.out HFE.out.symm, ?_, by simp only [World.size_setCell]; omega⟩⟩
               · exact ((HSZ.out.alloc _).kept hk7 (fun e => by have := hlt7 _ e; omega)).far (p := ⟨w.heap.size + 1, 1, none⟩) (by simp only; omega) _
               · have := l7.set_ 1 (.slice A7 (l.length + 1) c7)
                 simpa using this
               · have fz : Fr w wz := HF6.out.then HKZ.out (fun i hi e => by omega)
                 exact (((fz.alloc _).then hk7 (fun i hi e => by have := hlt7 _ e; omega))).setCell (fun e => by simp only at e; omega) _
             case measure => simp [intOf]; omega
           · have hkb : (rk == 0) = false := by simpa using hk0'
             obtain ⟨hd9, ha9⟩ := HDR.out hk0'
             have HDZ := Lib.hid hd9
             have HAZ := Lib.hid (show RdMv w9 (fun b => w6.heap.size ≤ b ∧ b < w9.heap.size) (.slice none 0 0) (afterM p.wide (sg : Int) (regsL p.wide.length o) (⟨op, (t : Int), ia, ib, ic, n⟩ : In)) from by rw [ha9]; exact ⟨none, 0, rfl, by simp, Reads.none_, by simp⟩)
             obtain ⟨va, hva⟩ : ∃ va : Value, va = .slice none 0 0 := ⟨_, rfl⟩
             rw [← hva] at HR9 HAZ
             obtain ⟨wz, hwz⟩ : ∃ wz : World, wz = w9 := ⟨_, rfl⟩
             obtain ⟨dk, hdk⟩ : ∃ dk : Int, dk = rk := ⟨_, rfl⟩
             obtain ⟨dn, hdn⟩ : ∃ dn : Int, dn = rn := ⟨_, rfl⟩
             subst hwz hdk hdn
             have HRZ := HR9
             have HVZ := HV9
             have HKZ := HK9
             clear hd9 ha9 hva HDR HDS HR9 HV9 HK9 HI9 HW9
             have HOZ := Lib.hid (HOW6.out.kept HKZ.out (fun b h1 h2 e => by omega))
             have HLZ := Lib.hid (HLB6.out.kept HKZ.out (fun e => by omega))
             have HSZ := Lib.hid (HRS6.out.kept HKZ.out (fun e => by omega))
             have hzz := HKZ.out.size
             obtain ⟨Av, cv, hv, _, _⟩ := own_reads HOZ.out.own
             subst hv
             have HRA := Lib.hid (rowA_ok hs1 HO.out HIO.out)
             have HRB := Lib.hid (rowB_ok hs1 HO.out HIO.out)
             have HDO := Lib.hid (destP_ok hs1 HO.out HIO.out)
             have HRM := Lib.hid (rowM_ok l2 hs1 (o := o) HIO.out (q := kn k) (fun t n hq => HK6.out.lt HNO.out hq))
             rw [HULE.out] at HRA HRB HRM
             rw [HDZ.out] at HDO
             have HFE : Hid (F k = ⟨⟨dk, dn⟩, rowA p (sg : Int) (regsL p.wide.length o) (⟨op, (t : Int), ia, ib, ic, n⟩ : In) ul.length, rowB p (sg : Int) (regsL p.wide.length o) (⟨op, (t : Int), ia, ib, ic, n⟩ : In) ul.length, rowM p (sg : Int) (regsL p.wide.length o) (kn k) (⟨op, (t : Int), ia, ib, ic, n⟩ : In) ul.length, afterM p.wide (sg : Int) (regsL p.wide.length o) (⟨op, (t : Int), ia, ib, ic, n⟩ : In)⟩) := by show _ = _; rw [HFK.out, HROW.out, HDZ.out]
             clear HDZ HFK HROW HULE
             generalize rowA p (sg : Int) (regsL p.wide.length o) (⟨op, (t : Int), ia, ib, ic, n⟩ : In) ul.length = pa at *
             generalize rowB p (sg : Int) (regsL p.wide.length o) (⟨op, (t : Int), ia, ib, ic, n⟩ : In) ul.length = pb at *
             generalize rowM p (sg : Int) (regsL p.wide.length o) (kn k) (⟨op, (t : Int), ia, ib, ic, n⟩ : In) ul.length = lm at *
             generalize afterM p.wide (sg : Int) (regsL p.wide.length o) (⟨op, (t : Int), ia, ib, ic, n⟩ : In) = la at *
             obtain ⟨ak, an⟩ := pa
             obtain ⟨bk, bn⟩ := pb
             have HVR := Lib.hid (own_reads HVZ.out)
             obtain ⟨Ab, cb, hvb, _, _⟩ := HVR.out
             subst hvb
             obtain ⟨Aa, ca, hva, _, _, _⟩ := id HAZ.out
             subst hva
             clear HVR
             have q1 := HLZ.out.cell 1
             have zl := HLZ.out.lt
             have f0 := HRZ.out.cell 0
             have f1 := HRZ.out.cell 1
             have f2 := HRZ.out.cell 2
             have f3 := HRZ.out.cell 3
             have f4 := HRZ.out.cell 4
             have f5 := HRZ.out.cell 5
             have f6 := HRZ.out.cell 6
             have f7 := HRZ.out.cell 7
             have zr := HRZ.out.lt
             unfold rowC at f0 f1 f2 f3 f4 f5 f6 f7
             simp only [List.getElem?_toArray, List.getElem?_cons_succ, List.getElem?_cons_zero] at q1 f0 f1 f2 f3 f4 f5 f6 f7
             go_wp2_with (first
               | (at_builtin
                  refine wpList_app _ rfl slRwB (.tmp 85) (.tmp 87) rfl (.slice Av l.length cv) _ _ rfl (World.ownsRow.alloc HOZ.out.own _) (fun _ => True) _ 1 1 _ rfl (Reads.lit' (by simp) trivial rfl) ?_ ?_ ?_ ?_ ?_
                  · simp [Value.oneCell']
                  · omega
                  · unfold maxLen; omega
                  · simp only [World.size_alloc]; omega
                  intro v7 w7 hown7 hk7 hat7
                  obtain ⟨A7, c7, rfl, _, _⟩ := own_reads hown7
                  have l7 := (HLZ.out.alloc (.cells #[.int .i64 dk, .int .i64 dn, .int .i64 ak, .int .i64 an, .int .i64 bk, .int .i64 bn, .slice Ab lm.length cb, .slice Aa la.length ca] 102)).kept hk7 (own_blk_ne (World.ownsRow.alloc HOZ.out.own (.cells #[.int .i64 dk, .int .i64 dn, .int .i64 ak, .int .i64 an, .int .i64 bk, .int .i64 bn, .slice Ab lm.length cb, .slice Aa la.length ca] 102)) (HLZ.out.alloc _) (by decide))
                  have p1 := l7.cell 1
                  have y1 := l7.frozen 1
                  simp only [List.getElem?_toArray, List.getElem?_cons_succ, List.getElem?_cons_zero] at p1))
             go_roundw
             case rel =>
               have HOA := HOZ.out.kept ((Kept.refl (fun _ => False) wz).alloc (.cells #[.int .i64 dk, .int .i64 dn, .int .i64 ak, .int .i64 an, .int .i64 bk, .int .i64 bn, .slice Ab lm.length cb, .slice Aa la.length ca] 102)) (fun _ _ _ h => h)
               have hlt7 : ∀ b, (Value.slice Av l.length cv).ownBlock = some b → w.heap.size + 2 ≤ b ∧ b < wa.heap.size := fun b hb => ⟨(own_lt HOA.own hb).1, HOA.lt b hb⟩
               have hxk : (⟨⟨⟨dk, dn⟩, ⟨ak, an⟩, ⟨bk, bn⟩, lm, la⟩, .slice Ab lm.length cb, .slice Aa la.length ca⟩ : RwV).ok (wz.alloc (.cells #[.int .i64 dk, .int .i64 dn, .int .i64 ak, .int .i64 an, .int .i64 bk, .int .i64 bn, .slice Ab lm.length cb, .slice Aa la.length ca] 102)) (fun b => w.heap.size + 2 ≤ b ∧ b < (wz.alloc (.cells #[.int .i64 dk, .int .i64 dn, .int .i64 ak, .int .i64 an, .int .i64 bk, .int .i64 bn, .slice Ab lm.length cb, .slice Aa la.length ca] 102)).heap.size ∧ (Value.slice Av l.length cv).ownBlock ≠ some b) := by
                 refine ⟨HDO.out, HRA.out, HRB.out, ?_, ?_⟩
                 · exact ((ownMv_rd (Q := fun b => w6.heap.size ≤ b ∧ b < wz.heap.size) HVZ.out HRM.out (fun b _ h1 h2 => ⟨h1, h2⟩)).kept ((Kept.refl (fun _ => False) wz).alloc _) (fun _ _ h => h)).more (fun b hb => ⟨by omega, by simp only [World.size_alloc]; omega, fun e => by have := hlt7 b e; omega⟩)
                 · exact (HAZ.out.kept ((Kept.refl (fun _ => False) wz).alloc _) (fun _ _ h => h)).more (fun b hb => ⟨by omega, by simp only [World.size_alloc]; omega, fun e => by have := hlt7 b e; omega⟩)
               have ox := HOA.snoc hxk hk7 hown7 hat7
               have kl := (Kept.refl (fun b => b = w.heap.size + 1) w7).setCell (p := ⟨w.heap.size + 1, 1, none⟩) (fun _ => rfl) (.slice A7 (l.length + 1) c7)
               have zl := kl.size
               have hz7 := hk7.size
               simp only [World.size_alloc] at hz7
               refine ⟨k + 1, _, l ++ [_], by omega, by go_num, ⟨?_, ?_, (ox.kept kl (fun b hb _ e => by omega)).up zl (Nat.le_refl _), RsI.next HEQ.out HFE.out.symm, ?_, by simp only [World.size_setCell]; omega⟩⟩
               · exact ((HSZ.out.alloc _).kept hk7 (fun e => by have := hlt7 _ e; omega)).far (p := ⟨w.heap.size + 1, 1, none⟩) (by simp only; omega) _
               · have := l7.set_ 1 (.slice A7 (l.length + 1) c7)
                 simpa using this
               · have fz : Fr w wz := HF6.out.then HKZ.out (fun i hi e => by omega)
                 exact (((fz.alloc _).then hk7 (fun i hi e => by have := hlt7 _ e; omega))).setCell (fun e => by simp only at e; omega) _
             case measure => simp [intOf]; omega
   · obtain rfl : k = p.code.length := by omega
     obtain ⟨Av, cv, hv, _, _⟩ := own_reads HI.out.own.own
     subst hv
     have q0 := HI.out.lb.cell 0
     have q1 := HI.out.lb.cell 1
     have zq := HI.out.lb.lt
     have x0 := HI.out.res.cell 0
     have x1 := HI.out.res.cell 1
     have y0 := HI.out.res.frozen 0
     have y1 := HI.out.res.frozen 1
     have zx := HI.out.res.lt
     simp only [List.getElem?_toArray, List.getElem?_cons_succ, List.getElem?_cons_zero] at q0 q1 x0 x1
     go_wp2
     refine bodyPost_ret (v := .agg #[.int .i64 (p.wide.length : Int), .slice Av l.length cv]) ?_ rfl ?_
     · simp [results, Tryz.results30, go_sem, x0, x1]
     · have hkS := ((Kept.refl (fun b => b = w.heap.size) wa).setCell (p := ⟨w.heap.size, 0, none⟩) (fun _ => rfl) (.int .i64 (p.wide.length : Int))).setCell (p := ⟨w.heap.size, 1, none⟩) (fun _ => rfl) (.slice Av l.length cv)
       have hfS : Fr w ((wa.setCell ⟨w.heap.size, 0, none⟩ (.int .i64 (p.wide.length : Int))).setCell ⟨w.heap.size, 1, none⟩ (.slice Av l.length cv)) := (HI.out.fr.setCell (fun e => by simp at e) _).setCell (fun e => by simp at e) _
       refine HDEF.out _ _ ⟨_, rfl, ?_, hfS⟩
       rw [HPL.out]
       refine ⟨_, l, rfl, in_small (by simp only; omega) (by simp only; omega), ((HI.out.own.rd).kept hkS (fun x hx e => by omega)).more (fun x hx => ⟨by omega, by simp only [World.size_setCell]; exact hx.2⟩), HI.out.eq.symm⟩
end Go.Proofs.YtodmkjeankbieaaGreatDoor

