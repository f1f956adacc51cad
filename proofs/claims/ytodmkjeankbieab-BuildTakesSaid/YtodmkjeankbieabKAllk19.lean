/- Texts of this claim, packed. -/
import Derived.Test.YtodmkjeankbieabKAllk18
set_option linter.all false
namespace Go.Proofs.Ytodmkjeankbieab
open Go.RowKit Go.Sort Go.Maps
attribute [local go_sem ↓] Go.wp_at_zero Go.wp_at_succ

def Sets8 (w : World) (p : Pg) (sg : Int) (l : Pd) (all : List Fc) (e : Ending) (w' : World) : Prop :=
 ∃ (g gc : Nat) (bk : Nat → Nat) (S : Nat → Bits) (c : Bits) (tk : Bool), e = .returned (.tuple #[.slice (some ⟨g, 0, none⟩) p.code.length p.code.length, .slice (some ⟨gc, 0, none⟩) p.code.length p.code.length, .bool tk]) ∧
   Blk w' g 22 (mkS p.code.length fun j => rowV (bk j) all.length) ∧ Blk w' gc 4 (mkB p.code.length c) ∧ (∀ j, j < p.code.length → Blk w' (bk j) 4 (mkB all.length (S j))) ∧
   ((∀ k, k < p.code.length → c k = true → Come p.code k) ∧ (∀ k, Come p.code k → c k = true ∧ setOf all (S k) = Kn p sg l k) ∧ (tk = true ↔ Taken p sg l)) ∧ Fr w w'

set_option maxHeartbeats 16000000 in
set_option maxRecDepth 100000 in
theorem sets8_any (R : Nat → Prop) (vw vc : Value) (Aa : Option Addr) (ca : Nat) (vst vn : Value) (p : Pg) (ns : List Nat) (sg sl : Nat) (R' : Nat → Prop) (v : Value) (l : Pd) (w : World)
   (h : W8 w R vw vc Aa ca vst vn p ns sg sl) (hC : Cnd8 p ns sg sl) (hL : RdPd w R' v l) (hm : mayL p sg l = true) (hsl : l.slots = (sl : Int)) :
   Calls Try.prog 65 #[.agg #[vw, vc, .slice Aa (allFs p ns sg sl).length ca, vst, vn], v] w (Sets8 w p (sg : Int) l (allFs p ns sg sl)) := by
 have H := Lib.hid h
 have HCC := Lib.hid hC
 have hLL := hC.len
 have hc1 := hC.c1
 have hc40 := hC.c
 have HBG := Lib.hid (fun w2 (hf : Fr w w2) => begin8_any R vw vc Aa ca vst vn p ns sg sl w2 (h.fr hf) hC)
 have HALM := Lib.hid (fun f => (hC.mem f))
 have HND := Lib.hid hC.nodup
 have HML := Lib.hid hm
 obtain ⟨mB, tB, _, _, hrl⟩ := mayL_facts hm
 have HIO := Lib.hid (fun k (hk : k < p.code.length) => insOk (mayB_ins mB (inAt_mem hk)))
 have HRO := Lib.hid (fun k (hk : k < p.code.length) => mayL_row hm hk)
 have HTHR := Lib.hid (fun b2 s2 i x R9 w2 (hf : Fr w w2) (hs2 : Blk w2 b2 4 (mkB (allFs p ns sg sl).length s2)) (hi : InsOk p i) (hr : rwB p sg sl i x.r = true) (hx : RwV.ok w2 R9 x) => through8_any R vw vc Aa ca vst vn p ns sg sl R9 b2 s2 i x w2 (h.fr hf) hC hs2 hi hr hx)
 have HRN := Lib.hid (Rnd.start (p := p) (sg := (sg : Int)) (l := l) (all := (allFs p ns sg sl)) (fun f => by rw [hsl]; exact hC.mem f) hC.nodup hm)
 obtain ⟨vr, lv, rfl, _, ⟨Al, cl, rfl, _, hrr, hor⟩, hrows⟩ := hL
 have hlv : lv.length = p.code.length := by rw [← hrl, hrows]; simp
 have HRR := Lib.hid hrr
 have HOR := Lib.hid hor
 have HROWS := Lib.hid hrows
 have HLV := Lib.hid hlv
 obtain ⟨vw2, vc2, e, ⟨A1, c1, rfl, _, _⟩, ⟨A2, c2, rfl, _, hpc, _⟩⟩ := id h.pg
 simp only [Value.agg.injEq, Array.mk.injEq, List.cons.injEq, and_true] at e
 obtain ⟨rfl, rfl⟩ := e
 have HPC := Lib.hid hpc
 have HDEF : Hid (∀ (e : Ending) (w' : World), (∃ (g gc : Nat) (bk : Nat → Nat) (S : Nat → Bits) (c : Bits) (tk : Bool), e = .returned (.tuple #[.slice (some ⟨g, 0, none⟩) p.code.length p.code.length, .slice (some ⟨gc, 0, none⟩) p.code.length p.code.length, .bool tk]) ∧
   Blk w' g 22 (mkS p.code.length fun j => rowV (bk j) (allFs p ns sg sl).length) ∧ Blk w' gc 4 (mkB p.code.length c) ∧ (∀ j, j < p.code.length → Blk w' (bk j) 4 (mkB (allFs p ns sg sl).length (S j))) ∧
   ((∀ k, k < p.code.length → c k = true → Come p.code k) ∧ (∀ k, Come p.code k → c k = true ∧ setOf (allFs p ns sg sl) (S k) = Kn p (sg : Int) l k) ∧ (tk = true ↔ Taken p (sg : Int) l)) ∧ Fr w w') → Sets8 w p (sg : Int) l (allFs p ns sg sl) e w') := fun _ _ h => h
 rw [hlv, hsl]
 have HSL := Lib.hid hsl
 clear hlv hrows hrr hor hrl mB tB h hC hm hpc hsl
 generalize (allFs p ns sg sl) = all at *
 have hmk1 := run_make_rows p.code.length (by omega)
 have hmk2 := run_make_bools p.code.length (by omega)
 have hmk3 := run_make_bools all.length (by omega)
 have H0 : Hid (Ini8 w ((((w.alloc (.cells #[.slice A1 p.wide.length c1, .slice A2 p.code.length c2, .slice Aa all.length ca, vst, vn] 121)).alloc (.cells #[.int .i64 (sl : Int), .slice Al p.code.length cl] 50)).alloc (.cells (mkS p.code.length fun _ => .slice none 0 0) 22)).alloc (.cells ((mkB p.code.length fun _ => false).setIfInBounds 0 (.bool true)) 4)) #[.slice A1 p.wide.length c1, .slice A2 p.code.length c2, .slice Aa all.length ca, vst, vn] #[.int .i64 (sl : Int), .slice Al p.code.length cl] (w.heap.size + 2) (w.heap.size + 3) (fun _ => 0) p.code.length all.length 0 0) := by
   have e1 := ((Blk.new (w.alloc (.cells #[.slice A1 p.wide.length c1, .slice A2 p.code.length c2, .slice Aa all.length ca, vst, vn] 121)) 50 #[.int .i64 (sl : Int), .slice Al p.code.length cl]).alloc (.cells (mkS p.code.length fun _ => .slice none 0 0) 22)).alloc (.cells ((mkB p.code.length fun _ => false).setIfInBounds 0 (.bool true)) 4)
   have e2 := (Blk.new ((w.alloc (.cells #[.slice A1 p.wide.length c1, .slice A2 p.code.length c2, .slice Aa all.length ca, vst, vn] 121)).alloc (.cells #[.int .i64 (sl : Int), .slice Al p.code.length cl] 50)) 22 (mkS p.code.length fun _ => .slice none 0 0)).alloc (.cells ((mkB p.code.length fun _ => false).setIfInBounds 0 (.bool true)) 4)
   have e3 := Blk.new (((w.alloc (.cells #[.slice A1 p.wide.length c1, .slice A2 p.code.length c2, .slice Aa all.length ca, vst, vn] 121)).alloc (.cells #[.int .i64 (sl : Int), .slice Al p.code.length cl] 50)).alloc (.cells (mkS p.code.length fun _ => .slice none 0 0) 22)) 4 ((mkB p.code.length fun _ => false).setIfInBounds 0 (.bool true))
   simp only [World.size_alloc] at e1 e2 e3
   refine ⟨(((Blk.new w _ _).alloc _).alloc _).alloc _, e1, ?_, ?_, fun j hj => by omega, fun i j hi => by omega, fun j hj => by omega, ⟨by omega, by omega, fun j hj => by omega⟩, (((Kept.refl _ w).alloc _).alloc _).alloc _ |>.alloc _⟩
   · simpa using e2
   · have hme : (mkB p.code.length fun _ => false).setIfInBounds 0 (.bool true) = mkB p.code.length fun k => decide (k = 0) := by
       rw [mkB_set]
       exact mkB_congr fun s _ => by by_cases e : s = 0 <;> simp [e]
     rw [← hme]
     exact e3
 have e3 := Blk.new (((w.alloc (.cells #[.slice A1 p.wide.length c1, .slice A2 p.code.length c2, .slice Aa all.length ca, vst, vn] 121)).alloc (.cells #[.int .i64 (sl : Int), .slice Al p.code.length cl] 50)).alloc (.cells (mkS p.code.length fun _ => .slice none 0 0) 22)) 4 (mkB p.code.length fun _ => false)
 simp only [World.size_alloc] at e3
 have y := e3.frozen 0
 have y2 := e3.cell 0
 rw [mkB_at (by omega)] at y2
 clear e3
 go_enter Try.func65, Try.ntmps65
 go_wp2
 clear y y2
 go_loopw [10] (fun i wr => ∃ (k : Nat) (bk : Nat → Nat), i = .int .i64 k ∧ k ≤ p.code.length ∧ Hid (Ini8 w wr #[.slice A1 p.wide.length c1, .slice A2 p.code.length c2, .slice Aa all.length ca, vst, vn] #[.int .i64 (sl : Int), .slice Al p.code.length cl] (w.heap.size + 2) (w.heap.size + 3) bk p.code.length all.length k k)) (fun i _ => p.code.length - (intOf i).toNat)
 case atStart => exact ⟨0, _, rfl, Nat.zero_le _, H0⟩
 case round =>
   obtain ⟨k, bk, rfl, hk, HI⟩ := hrel
   obtain ⟨wb, rfl⟩ : ∃ wb : World, wb = wr := ⟨_, rfl⟩
   clear H0
   have w0 := HI.out.b0.cell 0
   have w1' := HI.out.b0.cell 1
   have w2' := HI.out.b0.cell 2
   have w3' := HI.out.b0.cell 3
   have w4' := HI.out.b0.cell 4
   have zw := HI.out.b0.lt
   simp only [List.getElem?_toArray, List.getElem?_cons_succ, List.getElem?_cons_zero] at w0 w1' w2' w3' w4'
   have hk0 : (0 : Int) ≤ (k : Int) := Int.natCast_nonneg _
   by_cases hlt : k < p.code.length
   · have hk1 : (k : Int) < (p.code.length : Int) := by omega
     have y := HI.out.gs.frozen k
     have y2 := HI.out.gs.cell k
     rw [mkS_at hlt, if_neg (by omega)] at y2
     have zg := HI.out.gs.lt
     have hbn : ∀ j, j < k → bk j ≠ wb.heap.size := fun j hj => by have := (HI.out.row j hj).lt; omega
     have HI2 := Lib.hid ((HI.out.name hbn).keep ((Kept.refl (fun _ => False) _).alloc (.cells (mkB all.length fun _ => false) 4)))
     have hzb := HI.out.b1.lt
     have hnw := Blk.new (wb.setCell ⟨w.heap.size + 2, k, none⟩ (rowV wb.heap.size all.length)) 4 (mkB all.length fun _ => false)
     simp only [World.size_setCell] at hnw
     rw [upTo_z all.length (fun _ => true)] at hnw
     have HNW := Lib.hid hnw
     have HBN := Lib.hid hbn
     have HGC := Lib.hid (show wb.heap.size ≠ w.heap.size + 3 from by have := HI.out.cm.lt; omega)
     clear hnw hbn
     unfold rowV at HI2 HNW
     go_wp2
     go_loopw [11] (fun i wr => ∃ m : Nat, i = .int .i64 m ∧ m ≤ all.length ∧ Hid (Ini8 w wr #[.slice A1 p.wide.length c1, .slice A2 p.code.length c2, .slice Aa all.length ca, vst, vn] #[.int .i64 (sl : Int), .slice Al p.code.length cl] (w.heap.size + 2) (w.heap.size + 3) (fun j => if j = k then wb.heap.size else bk j) p.code.length all.length (k + 1) k) ∧ Hid (Blk wr wb.heap.size 4 (mkB all.length (upTo (fun _ => true) m)))) (fun i _ => all.length - (intOf i).toNat)
     case atStart => exact ⟨0, rfl, Nat.zero_le _, HI2, HNW⟩
     case round =>
       obtain ⟨m, rfl, hm, HJ, HJB⟩ := hrel
       obtain ⟨wc, rfl⟩ : ∃ wc : World, wc = wr := ⟨_, rfl⟩
       clear w0 w1' w2' w3' w4' zw y y2 zg HI2 HNW
       have w0 := HJ.out.b0.cell 0
       have w1' := HJ.out.b0.cell 1
       have w2' := HJ.out.b0.cell 2
       have w3' := HJ.out.b0.cell 3
       have w4' := HJ.out.b0.cell 4
       have zw := HJ.out.b0.lt
       simp only [List.getElem?_toArray, List.getElem?_cons_succ, List.getElem?_cons_zero] at w0 w1' w2' w3' w4'
       have hb2 : ∀ j, j < k → (fun j => if j = k then wb.heap.size else bk j) j ≠ (fun j => if j = k then wb.heap.size else bk j) k := fun j hj => by
         simp only [if_neg (show ¬ j = k by omega), if_true]
         exact HBN.out j hj
       have hm0 : (0 : Int) ≤ (m : Int) := Int.natCast_nonneg _
       by_cases hlt2 : m < all.length
       · have hm1 : (m : Int) < (all.length : Int) := by omega
         have y2 := HJ.out.gs.cell k
         rw [mkS_at hlt, if_pos (by omega)] at y2
         simp only [if_true, rowV] at y2
         have x1 := HJB.out.cell m
         rw [mkB_at hlt2] at x1
         have x2 := HJB.out.frozen m
         have zg := HJ.out.gs.lt
         have zb := HJB.out.lt
         have hf := HJ.out.fill (m := m) hb2 (by simp only [if_true]; exact HGC.out) (by simp only [if_true]; exact hzb) (by simp only [if_true]; exact HJB.out)
         simp only [if_true] at hf
         have HN := Lib.hid hf.1
         have HNB := Lib.hid hf.2
         clear hf hb2
         go_wp2
         go_roundw
         case rel => exact ⟨m + 1, by go_num, by omega, HN, HNB⟩
         case measure => simp [intOf]; omega
       · obtain rfl : m = all.length := by omega
         have HN := Lib.hid (HJ.out.full hb2 (by simp only [if_true]; exact HGC.out) (by simp only [if_true]; exact hzb) (by simp only [if_true]; exact HJB.out))
         clear hb2
         go_wp2
         go_roundw
         case rel => exact ⟨k + 1, _, by go_num, by omega, HN⟩
         case measure => simp [intOf]; omega
   · obtain rfl : k = p.code.length := by omega
     go_wp2_with fail
     refine (HBG.out wb HI.out.fr).mono ?_
     rintro e w3 ⟨b3, rfl, hb3, hB3, f3⟩
     have hbn : ∀ j, j < p.code.length → bk j ≠ b3 := fun j hj => by have := (HI.out.row j hj).lt; omega
     have HM0 := Lib.hid ((HI.out.keep f3).first (by omega) hbn (by have := HI.out.cm.lt; omega) (by have := HI.out.b1.lt; omega) hB3)
     have HI3 := Lib.hid (HI.out.keep f3)
     have y := HI3.out.gs.frozen 0
     have y2 := HI3.out.gs.cell 0
     rw [mkS_at (by omega), if_pos (by omega)] at y2
     have zg := HI3.out.gs.lt
     have HB3 := Lib.hid hB3
     unfold rowV at HM0 y2
     clear hbn hB3 f3 w0 w1' w2' w3' w4' zw
     generalize (fun j => if j = 0 then b3 else bk j) = bq at HM0
     go_wp2
     go_loopg [12, 13] (leftN p.code.length all.length (fun k => if k = 0 then fun i => decide ((fcAt all i).n = 0) else fun _ => true) (fun k => decide (k = 0)) + 1) (fun gn tk ag wr => ∃ (S : Nat → Bits) (cm : Bits) (t a : Bool), tk = .bool t ∧ ag = .bool a ∧ Hid (Mem8 w wr #[.slice A1 p.wide.length c1, .slice A2 p.code.length c2, .slice Aa all.length ca, vst, vn] #[.int .i64 (sl : Int), .slice Al p.code.length cl] (w.heap.size + 2) (w.heap.size + 3) bq p.code.length all.length S cm) ∧ Hid (Rnd p (sg : Int) l all S cm) ∧ Hid ((a = true → leftN p.code.length all.length S cm + 1 ≤ gn) ∧ (a = false → ((∀ k, k < p.code.length → cm k = true → Come p.code k) ∧ (∀ k, Come p.code k → cm k = true ∧ setOf all (S k) = Kn p (sg : Int) l k) ∧ (t = true ↔ Taken p (sg : Int) l)))))
     case atStart => exact ⟨_, _, true, true, rfl, rfl, HM0, HRN, ⟨fun _ => Nat.le_refl _, fun h => by cases h⟩⟩
     case round =>
       obtain ⟨S, cm, t, a, rfl, rfl, HM, HR, hg⟩ := hrel
       clear HM0 HI3 HI y y2 zg HB3 HRN
       cases a with
       | false =>
         have HF := Lib.hid (hg.out.2 rfl)
         clear hg
         go_wp2
         go_ret3
         exact HDEF.out _ _ ⟨w.heap.size + 2, w.heap.size + 3, bq, S, cm, t, rfl, HM.out.gs, HM.out.cm, HM.out.row, HF.out, HM.out.fr⟩
       | true =>
         have HG1 := Lib.hid (hg.out.1 rfl)
         have HP := Lib.hid HR.out.pass
         clear hg
         go_wp2
         go_loopw [12, 13, 14] (fun tk ag i wr => ∃ (k : Nat) (S1 : Nat → Bits) (cm1 : Bits) (t a : Bool), k ≤ p.code.length ∧ tk = .bool t ∧ ag = .bool a ∧ i = .int .i64 k ∧ Hid (Mem8 w wr #[.slice A1 p.wide.length c1, .slice A2 p.code.length c2, .slice Aa all.length ca, vst, vn] #[.int .i64 (sl : Int), .slice Al p.code.length cl] (w.heap.size + 2) (w.heap.size + 3) bq p.code.length all.length S1 cm1) ∧ Hid (Pass p (sg : Int) l all S cm S1 cm1 a t k)) (fun _ _ i _ => p.code.length - (intOf i).toNat)
         case atStart => exact ⟨0, S, cm, true, false, Nat.zero_le _, rfl, rfl, rfl, HM, HP⟩
         case round =>
           obtain ⟨k, S1, cm1, t, a, hk, rfl, rfl, rfl, HM1, HP1⟩ := hrel
           clear HM HP HR
           have hk0 : (0 : Int) ≤ (k : Int) := Int.natCast_nonneg _
           by_cases hlt : k < p.code.length
           · have hk1 : (k : Int) < (p.code.length : Int) := by omega
             have y1 := HM1.out.cm.bcell hlt
             have z1 := HM1.out.cm.lt
             cases hck : cm1 k with
             | false =>
               rw [hck] at y1
               have HN := Lib.hid (HP1.out.skip hck)
               clear hck
               go_wp2
               go_roundw
               case rel => exact ⟨k + 1, S1, cm1, t, a, by omega, rfl, rfl, by go_num, HM1, HN⟩
               case measure => simp [intOf]; omega
             | true =>
               rw [hck] at y1
               have HCK := Lib.hid hck
               clear hck
               have w0 := HM1.out.b0.cell 0
               have w1' := HM1.out.b0.cell 1
               have w2' := HM1.out.b0.cell 2
               have w3' := HM1.out.b0.cell 3
               have w4' := HM1.out.b0.cell 4
               have zw := HM1.out.b0.lt
               simp only [List.getElem?_toArray, List.getElem?_cons_succ, List.getElem?_cons_zero] at w0 w1' w2' w3' w4'
               have y2 := HM1.out.gs.cell k
               rw [mkS_at hlt] at y2
               unfold rowV at y2
               have zg := HM1.out.gs.lt
               have l1 := HM1.out.b1.cell 1
               have zl := HM1.out.b1.lt
               simp only [List.getElem?_toArray, List.getElem?_cons_succ, List.getElem?_cons_zero] at l1
               have hx : p.code[k]? = some (inAt p.code k) := by rw [inAt_get hlt]; exact List.getElem?_eq_getElem hlt
               obtain ⟨x, hy⟩ : ∃ x, lv[k]? = some x := ⟨_, List.getElem?_eq_getElem (by rw [HLV.out]; exact hlt)⟩
               have hxr : rwAt l.rows k = x.r := by rw [HROWS.out]; unfold rwAt; simp [List.getD, hy]
               have HT := Lib.hid (fun w2 (hf : Fr wr w2) => HTHR.out (bq k) (S1 k) (inAt p.code k) x R' w2 (HM1.out.fr.trans hf) ((HM1.out.row k hlt).kept hf (fun h => h)) (HIO.out k hlt) (by have := HRO.out k hlt; rw [hxr, HSL.out] at this; exact this) ((HOR.out x (List.mem_of_getElem? hy)).kept (HM1.out.fr.trans hf) (fun _ _ h => h)))
               obtain ⟨bi, oi, hA', _, i0, i1, i2, i3, i4, i5⟩ := (HPC.out.kept HM1.out.fr (fun _ _ h => h)).ins hx
               subst hA'
               obtain ⟨br, or_, hAr, _, r0, r1, r2, r3, r4, r5, r6, r7⟩ := (HRR.out.kept HM1.out.fr (fun _ _ h => h)).rw hy
               subst hAr
               have zbi := cell_lt i0
               have zbr := cell_lt r0
               have HXR := Lib.hid hxr
               unfold In.val RwV.val at HT
               clear hx hy hxr
               have HSA := Lib.hid (show ∀ w2 : World, Fr wr w2 → w2.cell? ⟨w.heap.size + 2, k, none⟩ = some (.slice (some ⟨bq k, 0, none⟩) all.length all.length) ∧ w2.cell? ⟨w.heap.size, 0, none⟩ = some (.slice A1 p.wide.length c1) ∧ w2.cell? ⟨w.heap.size, 1, none⟩ = some (.slice (some ⟨bi, oi, none⟩) p.code.length c2) ∧ w2.cell? ⟨w.heap.size, 2, none⟩ = some (.slice Aa all.length ca) ∧ w2.cell? ⟨w.heap.size, 3, none⟩ = some vst ∧ w2.cell? ⟨w.heap.size, 4, none⟩ = some vn ∧ w2.cell? ⟨bi, oi + k * 6, none⟩ = some (.int .i64 (inAt p.code k).op) ∧ w2.cell? ⟨bi, oi + k * 6 + 1, none⟩ = some (.int .i64 (inAt p.code k).d) ∧ w2.cell? ⟨bi, oi + k * 6 + 2, none⟩ = some (.int .i64 (inAt p.code k).a) ∧ w2.cell? ⟨bi, oi + k * 6 + 3, none⟩ = some (.int .i64 (inAt p.code k).b) ∧ w2.cell? ⟨bi, oi + k * 6 + 4, none⟩ = some (.int .i64 (inAt p.code k).c) ∧ w2.cell? ⟨bi, oi + k * 6 + 5, none⟩ = some (.int .u32 ((inAt p.code k).n : Int)) ∧ w2.cell? ⟨w.heap.size + 1, 1, none⟩ = some (.slice (some ⟨br, or_, none⟩) p.code.length cl) ∧ w2.cell? ⟨br, or_ + k * 8, none⟩ = some (.int .i64 x.r.d.k) ∧ w2.cell? ⟨br, or_ + k * 8 + 1, none⟩ = some (.int .i64 x.r.d.n) ∧ w2.cell? ⟨br, or_ + k * 8 + 2, none⟩ = some (.int .i64 x.r.a.k) ∧ w2.cell? ⟨br, or_ + k * 8 + 3, none⟩ = some (.int .i64 x.r.a.n) ∧ w2.cell? ⟨br, or_ + k * 8 + 4, none⟩ = some (.int .i64 x.r.b.k) ∧ w2.cell? ⟨br, or_ + k * 8 + 5, none⟩ = some (.int .i64 x.r.b.n) ∧ w2.cell? ⟨br, or_ + k * 8 + 6, none⟩ = some x.vb ∧ w2.cell? ⟨br, or_ + k * 8 + 7, none⟩ = some x.va from fun w2 hf => ⟨(Fr.cell hf zg).trans y2, (Fr.cell hf zw).trans w0, (Fr.cell hf zw).trans w1', (Fr.cell hf zw).trans w2', (Fr.cell hf zw).trans w3', (Fr.cell hf zw).trans w4', (Fr.cell hf zbi).trans i0, (Fr.cell hf zbi).trans i1, (Fr.cell hf zbi).trans i2, (Fr.cell hf zbi).trans i3, (Fr.cell hf zbi).trans i4, (Fr.cell hf zbi).trans i5, (Fr.cell hf zl).trans l1, (Fr.cell hf zbr).trans r0, (Fr.cell hf zbr).trans r1, (Fr.cell hf zbr).trans r2, (Fr.cell hf zbr).trans r3, (Fr.cell hf zbr).trans r4, (Fr.cell hf zbr).trans r5, (Fr.cell hf zbr).trans r6, (Fr.cell hf zbr).trans r7⟩)
               go_wp2
               go_region_held3 (fun w' => w'.cell? ⟨w.heap.size + 2, k, none⟩ = some (.slice (some ⟨bq k, 0, none⟩) all.length all.length) ∧ w'.cell? ⟨w.heap.size, 0, none⟩ = some (.slice A1 p.wide.length c1) ∧ w'.cell? ⟨w.heap.size, 1, none⟩ = some (.slice (some ⟨bi, oi, none⟩) p.code.length c2) ∧ w'.cell? ⟨w.heap.size, 2, none⟩ = some (.slice Aa all.length ca) ∧ w'.cell? ⟨w.heap.size, 3, none⟩ = some vst ∧ w'.cell? ⟨w.heap.size, 4, none⟩ = some vn ∧ w'.cell? ⟨bi, oi + k * 6, none⟩ = some (.int .i64 (inAt p.code k).op) ∧ w'.cell? ⟨bi, oi + k * 6 + 1, none⟩ = some (.int .i64 (inAt p.code k).d) ∧ w'.cell? ⟨bi, oi + k * 6 + 2, none⟩ = some (.int .i64 (inAt p.code k).a) ∧ w'.cell? ⟨bi, oi + k * 6 + 3, none⟩ = some (.int .i64 (inAt p.code k).b) ∧ w'.cell? ⟨bi, oi + k * 6 + 4, none⟩ = some (.int .i64 (inAt p.code k).c) ∧ w'.cell? ⟨bi, oi + k * 6 + 5, none⟩ = some (.int .u32 ((inAt p.code k).n : Int)) ∧ w'.cell? ⟨w.heap.size + 1, 1, none⟩ = some (.slice (some ⟨br, or_, none⟩) p.code.length cl) ∧ w'.cell? ⟨br, or_ + k * 8, none⟩ = some (.int .i64 x.r.d.k) ∧ w'.cell? ⟨br, or_ + k * 8 + 1, none⟩ = some (.int .i64 x.r.d.n) ∧ w'.cell? ⟨br, or_ + k * 8 + 2, none⟩ = some (.int .i64 x.r.a.k) ∧ w'.cell? ⟨br, or_ + k * 8 + 3, none⟩ = some (.int .i64 x.r.a.n) ∧ w'.cell? ⟨br, or_ + k * 8 + 4, none⟩ = some (.int .i64 x.r.b.k) ∧ w'.cell? ⟨br, or_ + k * 8 + 5, none⟩ = some (.int .i64 x.r.b.n) ∧ w'.cell? ⟨br, or_ + k * 8 + 6, none⟩ = some x.vb ∧ w'.cell? ⟨br, or_ + k * 8 + 7, none⟩ = some x.va)
                 (first
                   | go_keep
                   | exact sa)
                 (first
                   | (go_at_call 98; refine (HT.out _ (Kept.refl (fun _ => False) wr).drew).mono ?_; rintro e wb ⟨bo, rfl, hal, s2, f20⟩; have f2 : Fr wr wb := (Kept.refl (fun _ => False) wr).drew.trans f20; have sa := HSA.out _ f2))
               rename_i hHeld
               clear hHeld
               obtain ⟨_, _, q1b, _, _, _, j0, j1, j2, j3, j4, j5, _⟩ := sa
               have HM2 := Lib.hid (HM1.out.keep f2)
               have HAL : Hid (∀ u, u < p.code.length → bq u = bo → u = k) := fun u hu e => by
                 rcases hal with h | h
                 · exact HM1.out.inj u k hu hlt (e.trans h)
                 · have h1 := (HM1.out.row u hu).lt
                   have h2 : wr.heap.size ≤ bo := h
                   omega
               have HBG2 : Hid (bo ≠ w.heap.size + 3) := fun e => by
                 rcases hal with h | h
                 · exact HM1.out.ne k hlt (h.symm.trans e)
                 · have h1 := HM1.out.cm.lt
                   have h2 : wr.heap.size ≤ bo := h
                   omega
               have hrb : rwB p (sg : Int) (sl : Int) (inAt p.code k) x.r = true := by
                 have := HRO.out k hlt
                 rw [HXR.out, HSL.out] at this
                 exact this
               have HSE := Lib.hid (show setOf all (thruB all (S1 k) (inAt p.code k) x.r) = thru p l k (setOf all (S1 k)) from by
                 unfold thru
                 rw [HXR.out]
                 exact thruB_set HALM.out HND.out (HIO.out k hlt) (inAt_mem hlt) hrb)
               have HOK := Lib.hid (show tookB all (S1 k) (inAt p.code k) x.r = true ↔ tookF p (setOf all (S1 k)) (inAt p.code k) (rwAt l.rows k) from by
                 rw [HXR.out]
                 exact tookB_iff HALM.out HND.out (HIO.out k hlt) hrb)
               have HJ0 := Lib.hid (HP1.out.enter hlt HCK.out HSE.out HOK.out (nexts (inAt p.code k) k))
               have HS2 := Lib.hid s2
               clear hrb HSE HOK s2
               obtain ⟨s, hs⟩ : ∃ s, s = thruB all (S1 k) (inAt p.code k) x.r := ⟨_, rfl⟩
               rw [← hs] at HS2 HJ0
               obtain ⟨ok, hok⟩ : ∃ ok, ok = tookB all (S1 k) (inAt p.code k) x.r := ⟨_, rfl⟩
               rw [← hok] at HJ0 ⊢
               have HNK := Lib.hid (refNexts_any (inAt p.code k) (k : Int) wb (by omega) (by omega))
               unfold In.val at HNK
               have zw2 : w.heap.size < wb.heap.size := Nat.lt_of_lt_of_le zw f2.size
               have zbi2 : bi < wb.heap.size := Nat.lt_of_lt_of_le zbi f2.size
               have HLT : Hid (w.heap.size + 3 < wb.heap.size ∧ ∀ u, u < p.code.length → bq u < wb.heap.size) := ⟨HM2.out.cm.lt, fun u hu => (HM2.out.row u hu).lt⟩
               clear hs hok HT HSA f2 f20 hal w0 w1' w2' w3' w4' zw y2 zg l1 zl i0 i1 i2 i3 i4 i5 r0 r1 r2 r3 r4 r5 r6 r7 zbi zbr y1 z1 HM1 HP1
               go_upto_region 24 with fail
               go_cut [12] from 61 to 152 (fun s12 wx => s12 = .bool (t && ok) ∧ wb = wx)
               case first => cases t <;> (go_wp2; go_meet; exact ⟨rfl, rfl⟩)
               case rest =>
                 obtain ⟨rfl, rfl⟩ := hcut
                 go_wp2_with fail
                 refine HNK.out.mono ?_
                 rintro e w5 ⟨v5, rfl, hru, f5⟩
                 obtain ⟨Au, cu, rfl, _⟩ := id hru
                 have HM5 := Lib.hid (HM2.out.keep f5)
                 have HS5 := Lib.hid (HS2.out.kept f5 (fun h => h))
                 have HU5 := Lib.hid hru
                 have hnl := nexts_len (inAt p.code k) (k : Int)
                 clear hru f5 HM2 HS2 HNK q1b j0 j1 j2 j3 j4 j5 zw2 zbi2
                 go_wp2
                 go_loopw [13, 18] (fun ag i wr => ∃ (y : Nat) (S2 : Nat → Bits) (cm2 : Bits) (a2 : Bool), y ≤ (nexts (inAt p.code k) k).length ∧ ag = .bool a2 ∧ i = .int .i64 y ∧ Hid (Mem8 w wr #[.slice A1 p.wide.length c1, .slice (some ⟨bi, oi, none⟩) p.code.length c2, .slice Aa all.length ca, vst, vn] #[.int .i64 (sl : Int), .slice (some ⟨br, or_, none⟩) p.code.length cl] (w.heap.size + 2) (w.heap.size + 3) bq p.code.length all.length S2 cm2) ∧ Hid (PassJ p (sg : Int) l all S cm S2 cm2 a2 (t && ok) k s (nexts (inAt p.code k) k) y) ∧ Hid (Blk wr bo 4 (mkB all.length s)) ∧ Hid (RdI wr (fun b => wb.heap.size ≤ b) (.slice Au (nexts (inAt p.code k) k).length cu) (nexts (inAt p.code k) k))) (fun _ i _ => (nexts (inAt p.code k) k).length - (intOf i).toNat)
                 case atStart => exact ⟨0, S1, cm1, a, Nat.zero_le _, rfl, rfl, HM5, HJ0, HS5, HU5⟩
                 case round =>
                   obtain ⟨y, S2, cm2, a2, hy, rfl, rfl, HM3, HJ3, HS3, HU3⟩ := hrel
                   clear HM5 HJ0 HS5 HU5
                   by_cases hyl : y < (nexts (inAt p.code k) k).length
                   · obtain ⟨n, hxn⟩ : ∃ n, (nexts (inAt p.code k) k)[y]? = some n := ⟨_, List.getElem?_eq_getElem hyl⟩
                     have hn0 := nexts_pos (HIO.out k hlt) (List.mem_of_getElem? hxn)
                     obtain ⟨m, rfl⟩ : ∃ m : Nat, n = (m : Int) := ⟨n.toNat, by omega⟩
                     obtain ⟨b5, o5, c5, e5, _, hb5, u0⟩ := HU3.out.at_ hxn
                     obtain ⟨rfl, _, rfl⟩ : Au = some ⟨b5, o5, none⟩ ∧ True ∧ cu = c5 := by simpa using e5
                     have HXN := Lib.hid hxn
                     have hy0 : (0 : Int) ≤ (y : Int) := Int.natCast_nonneg _
                     have hy1 : (y : Int) < ((nexts (inAt p.code k) k).length : Int) := by omega
                     clear e5 hxn
                     by_cases hml : m < p.code.length
                     · have hml' : ¬ (p.code.length : Int) ≤ (m : Int) := by omega
                       have hm0 : (0 : Int) ≤ (m : Int) := Int.natCast_nonneg _
                       have hm1 : (m : Int) < (p.code.length : Int) := by omega
                       have y1 := HM3.out.cm.bcell hml
                       have y1f := HM3.out.cm.frozen m
                       have z1 := HM3.out.cm.lt
                       have hkg : Kept (fun b => b = w.heap.size + 3) wr (wr.setCell ⟨w.heap.size + 3, m, none⟩ (.bool true)) := (Kept.refl (fun b => b = w.heap.size + 3) wr).setCell (p := ⟨w.heap.size + 3, m, none⟩) (fun _ => rfl) _
                       have HS4 := Lib.hid (HS3.out.kept hkg (fun e => HBG2.out e))
                       have HU4 := Lib.hid (HU3.out.kept hkg (fun b (hb : wb.heap.size ≤ b) (e : b = w.heap.size + 3) => by have h1 := HLT.out.1; omega))
                       have hus : updB S2 m (andTo (S2 m) s 0) = S2 := by
                         funext j
                         by_cases e : j = m
                         · subst e; rw [updB_same, andTo_z]
                         · rw [updB_ne e]
                       have HM4 := Lib.hid (HM3.out.come m)
                       rw [← hus] at HM4
                       clear hkg hus
                       go_upto_region 31 with fail
                       go_cut [13] from 103 to 152 (fun s13 wx => s13 = .bool (a2 || !cm2 m) ∧ wr = wx)
                       case first =>
                         cases a2 <;> cases hq : cm2 m <;> (rw [hq] at y1; go_wp2; go_meet; exact ⟨by simp [hq], rfl⟩)
                       case rest =>
                         obtain ⟨rfl, rfl⟩ := hcut
                         go_wp2
                         go_loopw [13, 20] (fun ag i wr => ∃ x : Nat, x ≤ all.length ∧ ag = .bool (a2 || !cm2 m || fallB (S2 m) s x) ∧ i = .int .i64 x ∧ Hid (Mem8 w wr #[.slice A1 p.wide.length c1, .slice (some ⟨bi, oi, none⟩) p.code.length c2, .slice Aa all.length ca, vst, vn] #[.int .i64 (sl : Int), .slice (some ⟨br, or_, none⟩) p.code.length cl] (w.heap.size + 2) (w.heap.size + 3) bq p.code.length all.length (updB S2 m (andTo (S2 m) s x)) (onB cm2 m)) ∧ Hid (Blk wr bo 4 (mkB all.length s)) ∧ Hid (RdI wr (fun b => wb.heap.size ≤ b) (.slice (some ⟨b5, o5, none⟩) (nexts (inAt p.code k) k).length cu) (nexts (inAt p.code k) k))) (fun _ i _ => all.length - (intOf i).toNat)
                         case atStart => exact ⟨0, Nat.zero_le _, by simp [fallB], rfl, HM4, HS4, HU4⟩
                         case round =>
                           obtain ⟨z, hz, rfl, rfl, HM6, HS6, HU6⟩ := hrel
                           clear HM4 HS4 HU4 y1 y1f z1 hb5 u0
                           by_cases hzl : z < all.length
                           · have hz0 : (0 : Int) ≤ (z : Int) := Int.natCast_nonneg _
                             have hz1 : (z : Int) < (all.length : Int) := by omega
                             have y2 := HM6.out.gs.cell m
                             rw [mkS_at hml] at y2
                             unfold rowV at y2
                             have zg := HM6.out.gs.lt
                             have x1 := (HM6.out.row m hml).bcell hzl
                             rw [updB_same, andTo_at] at x1
                             have x1f := (HM6.out.row m hml).frozen z
                             have zr := (HM6.out.row m hml).lt
                             have x2 := HS6.out.bcell hzl
                             have zs := HS6.out.lt
                             cases hr : S2 m z with
                             | false =>
                               have he : (fallB (S2 m) s (z + 1)) = fallB (S2 m) s z := by rw [fallB_s, hr]; simp
                               have HE := Lib.hid he
                               have HN := HM6
                               rw [← andTo_stay (r := S2 m) (s := s) (i := z) (by rw [hr]; simp)] at HN
                               rw [hr] at x1
                               clear he hr
                               go_wp2
                               go_roundw
                               case rel => exact ⟨z + 1, by omega, by rw [HE.out], by go_num, HN, HS6, HU6⟩
                               case measure => simp [intOf]; omega
                             | true =>
                               cases hs : s z with
                               | true =>
                                 have he : (fallB (S2 m) s (z + 1)) = fallB (S2 m) s z := by rw [fallB_s, hs]; simp
                                 have HE := Lib.hid he
                                 have HN := HM6
                                 rw [← andTo_stay (r := S2 m) (s := s) (i := z) (by rw [hs]; simp)] at HN
                                 rw [hr] at x1
                                 rw [hs] at x2
                                 clear he hr hs
                                 go_wp2
                                 go_roundw
                                 case rel => exact ⟨z + 1, by omega, by rw [HE.out], by go_num, HN, HS6, HU6⟩
                                 case measure => simp [intOf]; omega
                               | false =>
                                 have HE := Lib.hid (show (a2 || !cm2 m || fallB (S2 m) s (z + 1)) = true from by rw [fallB_s, hr, hs]; simp)
                                 have hbo : bo ≠ bq m := fun e => by
                                   have h1 := HS6.out
                                   rw [e] at h1
                                   have h2 := mkB_inj (HM6.out.row m hml) h1 hzl
                                   rw [updB_same, andTo_at, hr, hs] at h2
                                   cases h2
                                 have hkr : Kept (fun b => b = bq m) wr (wr.setCell ⟨bq m, z, none⟩ (.bool false)) := (Kept.refl (fun b => b = bq m) wr).setCell (p := ⟨bq m, z, none⟩) (fun _ => rfl) _
                                 have HS7 := Lib.hid (HS6.out.kept hkr hbo)
                                 have HU7 := Lib.hid (HU6.out.kept hkr (fun b (hb : wb.heap.size ≤ b) (e : b = bq m) => by have h1 := HLT.out.2 m hml; omega))
                                 have HN := Lib.hid ((HM6.out.fall hml z).congr (S' := updB S2 m (andTo (S2 m) s (z + 1))) (c' := onB cm2 m) (fun j hj x hx => by
                                   by_cases e : j = m
                                   · subst e; simp only [updB_same]; rw [andTo_drop hr hs]
                                   · rw [updB_ne e, updB_ne e, updB_ne e]) (fun _ _ => rfl))
                                 rw [hr] at x1
                                 rw [hs] at x2
                                 clear hr hs hbo hkr
                                 go_wp2
                                 go_roundw
                                 case rel => exact ⟨z + 1, by omega, by rw [HE.out], by go_num, HN, HS7, HU7⟩
                                 case measure => simp [intOf]; omega
                           · obtain rfl : z = all.length := by omega
                             have HN := Lib.hid (show PassJ p (sg : Int) l all S cm (updB S2 m (andTo (S2 m) s all.length)) (onB cm2 m) (a2 || !cm2 m || fallB (S2 m) s all.length) (t && ok) k s (nexts (inAt p.code k) k) (y + 1) from by
                               have h1 := HJ3.out.put HND.out HXN.out (nx_of rfl (List.mem_of_getElem? HXN.out) (by simpa using hml))
                               simp only [Int.toNat_natCast] at h1
                               exact h1)
                             go_wp2
                             go_roundw
                             case rel => exact ⟨y + 1, _, _, _, by omega, rfl, by go_num, HM6, HN, HS6, HU6⟩
                             case measure => simp [intOf]; omega
                     · have hml' : (p.code.length : Int) ≤ (m : Int) := by omega
                       have HN := Lib.hid (HJ3.out.skip HXN.out (by simpa using hml))
                       go_wp2
                       go_roundw
                       case rel => exact ⟨y + 1, S2, cm2, a2, by omega, rfl, by go_num, HM3, HN, HS3, HU3⟩
                       case measure => simp [intOf]; omega
                   · obtain rfl : y = (nexts (inAt p.code k) k).length := by omega
                     have HN := Lib.hid HJ3.out.done
                     go_wp2
                     go_roundw
                     case rel => exact ⟨k + 1, S2, cm2, t && ok, a2, by omega, rfl, rfl, by go_num, HM3, HN⟩
                     case measure => simp [intOf]; omega
           · obtain rfl : k = p.code.length := by omega
             have HL : Hid (a = true → leftN p.code.length all.length S1 cm1 + 1 ≤ gk - 1) := fun h => by
               have h1 := HP1.out.lt h
               have h2 := HG1.out
               omega
             have HFI : Hid (a = false → ((∀ k, k < p.code.length → cm1 k = true → Come p.code k) ∧ (∀ k, Come p.code k → cm1 k = true ∧ setOf all (S1 k) = Kn p (sg : Int) l k) ∧ (t = true ↔ Taken p (sg : Int) l))) := fun h => by
               have h1 := HP1.out
               rw [h] at h1
               exact h1.end (by omega)
             have HR1 := Lib.hid HP1.out.rnd
             have hgp : Hid (0 < gk) := by have := HG1.out; show 0 < gk; omega
             go_wp2
             go_roundg (gk - 1)
             case measure => have := hgp.out; omega
             case rel => exact ⟨S1, cm1, t, a, rfl, rfl, HM1, HR1, ⟨HL.out, HFI.out⟩⟩
end Go.Proofs.Ytodmkjeankbieab


namespace Go.Proofs.Ytodmkjeankbieab
open Go.RowKit Go.Sort Go.Maps

theorem own_some {w : World} {base : Nat} {e : TypeId} {size n : Nat} {v : Value} {xs : List Value} (h : w.ownsRow base e size v n xs) (hn : 0 < n) : ∃ g cap, v = .slice (some ⟨g, 0, none⟩) n cap ∧ base ≤ g ∧ g < w.heap.size := by
 rcases h.2 with ⟨_, h0⟩ | ⟨g, cap, cur, rfl, hb, hh, _⟩
 · omega
 · exact ⟨g, cap, rfl, hb, (Array.getElem?_eq_some_iff.1 hh).1⟩
structure NQ (w wr : World) (cs : Array Value) (vl : Value) (L : Nat) (l : List Nat) : Prop where
 b0 : Blk wr w.heap.size 25 cs
 on : wr.ownsRow w.heap.size 36 1 vl L (l.map fun (n : Nat) => Value.int .u32 (n : Int))
 fr : Fr w wr
section
variable {w wr w' w1 : World} {cs : Array Value} {vl v1 : Value} {L L' : Nat} {l l' : List Nat} {g cap : Nat}
theorem NQ.keep (h : NQ w wr cs vl L l) (hk : Fr wr w') : NQ w w' cs vl L l := ⟨h.b0.kept hk (fun h => h), own_kept h.on hk (fun _ _ h => h), h.fr.trans hk⟩
theorem NQ.put (h : NQ w wr cs vl L l) (ho : w1.ownsRow w.heap.size 36 1 v1 L' (l'.map fun (n : Nat) => Value.int .u32 (n : Int))) (hk : Kept (fun k => vl.ownBlock = some k) wr w1) : NQ w w1 cs v1 L' l' :=
 ⟨h.b0.kept hk (own_blk_ne h.on h.b0 (by decide)), ho, h.fr.then hk (fun i hi e => by have := (own_lt h.on e).1; omega)⟩
theorem NQ.store (h : NQ w wr cs (.slice (some ⟨g, 0, none⟩) L cap) L l) (j n : Nat) : NQ w (wr.setCell ⟨g, j, none⟩ (.int .u32 (n : Int))) cs (.slice (some ⟨g, 0, none⟩) L cap) L (l.set j n) := by
 have h1 := h.on.stored j (.int .u32 (n : Int))
 have hk : Kept (fun k => (Value.slice (some ⟨g, 0, none⟩) L cap).ownBlock = some k) wr (wr.setCell ⟨g, j, none⟩ (.int .u32 (n : Int))) := (Kept.refl (fun k => (Value.slice (some ⟨g, 0, none⟩) L cap).ownBlock = some k) wr).setCell (p := ⟨g, j, none⟩) (fun _ => rfl) _
 refine h.put ?_ hk
 have := h1.1
 rwa [show (l.map fun (n : Nat) => Value.int .u32 (n : Int)).set j (.int .u32 (n : Int)) = (l.set j n).map fun (n : Nat) => Value.int .u32 (n : Int) from by rw [List.map_set]] at this
theorem NQ.at_ (h : NQ w wr cs (.slice (some ⟨g, 0, none⟩) L cap) L l) {i x : Nat} (hi : i < L) (hx : l[i]? = some x) : wr.cell? ⟨g, i, none⟩ = some (.int .u32 (x : Int)) := by
 rw [h.on.cellAt i (by omega), List.getElem?_map, hx]; rfl
theorem NQ.cellS (h : NQ w wr cs (.slice (some ⟨g, 0, none⟩) L cap) L l) (i : Nat) (hi : i < L) : ∃ u, wr.cell? ⟨g, i, none⟩ = some u := by
 have hl : l.length = L := by simpa using h.on.1
 exact ⟨_, h.at_ hi (List.getElem?_eq_getElem (by omega))⟩
theorem NQ.frozen (h : NQ w wr cs (.slice (some ⟨g, 0, none⟩) L cap) L l) (i : Nat) : wr.frozen? ⟨g, i, none⟩ = false := h.on.frozenAt i
theorem NQ.lt (h : NQ w wr cs (.slice (some ⟨g, 0, none⟩) L cap) L l) : g < wr.heap.size := (own_lt h.on rfl).2
end

set_option maxHeartbeats 8000000 in
set_option maxRecDepth 100000 in
theorem numbers8_any (R : Nat → Prop) (v : Value) (p : Pg) (w : World) (h : RdPg w R v p) (hc : p.code.length ≤ 40) :
   Calls Try.prog 95 #[v] w fun e w' => ∃ (An : Option Addr) (cn : Nat) (ns : List Nat), e = .returned (.slice An ns.length cn) ∧ NumsOk p ns ∧ ns.length ≤ 41 ∧
     w'.ownsRow w.heap.size 36 1 (.slice An ns.length cn) ns.length (ns.map fun (n : Nat) => Value.int .u32 (n : Int)) ∧ Fr w w' := by
 obtain ⟨vw, vc, rfl, ⟨A, c, rfl, hwl, _⟩, ⟨A', c', rfl, hcl, hrc, _⟩⟩ := h
 have HRC := Lib.hid hrc
 have HQ0 := Lib.hid (show NQ w ((w.alloc (.cells #[.slice A p.wide.length c, .slice A' p.code.length c'] 25)).alloc (.cells #[.int .u32 0] 36)) #[.slice A p.wide.length c, .slice A' p.code.length c'] (.slice (some ⟨w.heap.size + 1, 0, none⟩) 1 1) [0].length [0] from by
   refine ⟨(Blk.new w _ _).alloc _, ?_, ((Kept.refl _ w).alloc _).alloc _⟩
   have := World.ownsRow_lit (base := w.heap.size) (e := 36) (size := 1) (w.alloc (.cells #[.slice A p.wide.length c, .slice A' p.code.length c'] 25)) #[.int .u32 0] 1 (by simp) (by decide) rfl
   simpa using this)
 have HN0 := Lib.hid (NumsTo.start p)
 unfold maxLen at hwl hcl
 clear hrc
 go_enter Try.func95, Try.ntmps95
 go_wp2
 go_loopw [3, 4] (fun vl i wr => ∃ (k : Nat) (l : List Nat), k ≤ p.code.length ∧ i = .int .i64 (k : Int) ∧ Hid (NQ w wr #[.slice A p.wide.length c, .slice A' p.code.length c'] vl l.length l) ∧ Hid (NumsTo p k l)) (fun _ i _ => p.code.length - (intOf i).toNat)
 case atStart => exact ⟨0, [0], Nat.zero_le _, rfl, HQ0, HN0⟩
 case round =>
   rename_i vl _
   obtain ⟨k, l, hk, rfl, hx, hn⟩ := hrel
   clear HQ0 HN0
   have q0 := hx.out.b0.cell 0
   have q1 := hx.out.b0.cell 1
   have zq := hx.out.b0.lt
   simp only [List.getElem?_toArray, List.getElem?_cons_succ, List.getElem?_cons_zero] at q0 q1
   by_cases hl2 : k < p.code.length
   · obtain ⟨i, hx2⟩ : ∃ i, p.code[k]? = some i := ⟨_, List.getElem?_eq_getElem hl2⟩
     obtain ⟨b5, o5, rfl, _, d0, d1, d2, d3, d4, d5⟩ := (HRC.out.kept hx.out.fr (fun _ _ h => h)).ins hx2
     have hb5 := cell_lt d0
     have HX2 := Lib.hid hx2
     have hlen := hn.out.len
     have hk0 : (0 : Int) ≤ (k : Int) := Int.natCast_nonneg _
     have hk1 : (k : Int) < (p.code.length : Int) := by omega
     clear hx2
     by_cases e1 : i.op = 1
     · have HOP := Lib.hid e1
       rw [e1] at d0
       clear e1
       obtain ⟨w9, rfl⟩ : ∃ w9 : World, w9 = wr := ⟨_, rfl⟩
       go_wp2
       clear d0 d1 d2 d3 d4 d5 hb5 q0 q1 zq
       go_loopw [6] (fun va wr => ∃ a : Nat, va = .int .i64 (a : Int) ∧ a ≤ l.length ∧ Hid (∀ j x, j < a → l[j]? = some x → x < i.n) ∧ w9 = wr) (fun va _ => l.length - (intOf va).toNat)
       case atStart => exact ⟨0, rfl, Nat.zero_le _, fun j x hj => by omega, rfl⟩
       case round =>
         obtain ⟨a, rfl, ha, HLO, rfl⟩ := hrel
         have ha0 : (0 : Int) ≤ (a : Int) := Int.natCast_nonneg _
         by_cases hal : a < l.length
         · obtain ⟨y, hy⟩ : ∃ y, l[a]? = some y := ⟨_, List.getElem?_eq_getElem hal⟩
           obtain ⟨g0, cap0, rfl, _, hg0⟩ := own_some hx.out.on (by omega)
           have u0 := hx.out.at_ hal hy
           have ha1 : (a : Int) < (l.length : Int) := by omega
           by_cases hyn : y < i.n
           · have hyi : (y : Int) < (i.n : Int) := by omega
             have HN := Lib.hid (show ∀ j x, j < a + 1 → l[j]? = some x → x < i.n from fun j x hj hx => by
               by_cases e : j = a
               · subst e; rw [hy] at hx; injection hx with hx; omega
               · exact HLO.out j x (by omega) hx)
             clear hy hyn
             go_wp2
             go_roundw
             case rel => exact ⟨a + 1, by go_num, by omega, HN, trivial⟩
             case measure => simp [intOf] <;> omega
           · have hyi : ¬ (y : Int) < (i.n : Int) := by omega
             by_cases hye : y = i.n
             · have hei : ((y : Int) == (i.n : Int)) = true := by simp [hye]
               have HTH := Lib.hid (hn.out.there HX2.out (by rw [← hye]; exact List.mem_of_getElem? hy))
               clear hy hye
               go_wp2
               go_roundw
               case rel => exact ⟨k + 1, l, by omega, by go_num, hx, HTH⟩
               case measure => simp [intOf] <;> omega
             · have hei : ((y : Int) == (i.n : Int)) = false := by simp; omega
               have HPUT := Lib.hid (hn.out.put HX2.out HOP.out ha HLO.out (fun x hxx => by rw [hy] at hxx; injection hxx with hxx; omega))
               have HX9 := hx
               clear hy hye hn
               have HXA := Lib.hid (HX9.out.keep ((Kept.refl _ w9).alloc (.cells #[.int .u32 0] 36)))
               have hsz := HX9.out.fr.size
               go_wp2_with (at_builtin
                            refine wpList_app (base := w.heap.size) _ rfl slU32s (.tmp 55) (.tmp 56) rfl _ l.length _ rfl HXA.out.on (fun _ => True) _ 1 1 [.int .u32 0] rfl (Reads.lit' (by simp) trivial rfl) ?_ ?_ ?_ ?_ ?_
                            · simp [Value.oneCell']
                            · omega
                            · unfold maxLen; omega
                            · simp; omega
                            intro v1 w1 hown1 hk1 hat1
                            obtain ⟨g, cap, rfl, hg1, hg2⟩ := own_some hown1 (by omega)
                            have HN1 := Lib.hid (HXA.out.put (w1 := w1) (l' := putN8 l 0 l.length) (L' := l.length + 1) (by rw [putN8_end, List.map_append]; exact hown1) hk1)
                            clear hown1 hk1 hat1 hg1 hg2 HXA HX9)
               go_loopw [7] (fun i wr => ∃ (b x : Nat), i = .int .i64 (b : Int) ∧ a ≤ b ∧ b ≤ l.length ∧ Hid (NQ w wr #[.slice A p.wide.length c, .slice (some ⟨b5, o5, none⟩) p.code.length c'] (.slice (some ⟨g, 0, none⟩) (l.length + 1) cap) (l.length + 1) (putN8 l x b))) (fun i _ => (intOf i).toNat)
               case atStart => exact ⟨l.length, 0, by go_num, ha, Nat.le_refl _, HN1⟩
               case round =>
                 obtain ⟨b, x, rfl, hab, hbl, hx⟩ := hrel
                 clear HN1
                 by_cases hba : a < b
                 · obtain ⟨m, rfl⟩ : ∃ m, b = m + 1 := ⟨b - 1, by omega⟩
                   have hbi : (a : Int) < ((m + 1 : Nat) : Int) := by omega
                   obtain ⟨y, hy⟩ : ∃ y, l[m]? = some y := ⟨_, List.getElem?_eq_getElem (by omega)⟩
                   have HN := Lib.hid (hx.out.store (m + 1) y)
                   rw [putN8_shift hy] at HN
                   have u1 := hx.out.at_ (i := m) (by omega) ((putN8_prev (x := x) (show m < l.length by omega)).trans hy)
                   have u2 := hx.out.frozen (m + 1)
                   obtain ⟨ux, u3⟩ := hx.out.cellS (m + 1) (by omega)
                   have hgl := hx.out.lt
                   have hi0 : ((m + 1 : Nat) : Int) - 1 = (m : Int) := by omega
                   have hm0 : (0 : Int) ≤ (m : Int) := Int.natCast_nonneg _
                   have hm1 : (m : Int) < ((l.length + 1 : Nat) : Int) := by omega
                   have hm2 : ((m + 1 : Nat) : Int) < ((l.length + 1 : Nat) : Int) := by omega
                   clear hx hy
                   go_wp2
                   go_roundw
                   case rel => exact ⟨m, y, by go_num, by omega, by omega, HN⟩
                   case measure => simp [intOf] <;> omega
                 · obtain rfl : b = a := by omega
                   have HN := Lib.hid (hx.out.store b i.n)
                   rw [putN8_set ha] at HN
                   have u2 := hx.out.frozen b
                   obtain ⟨ux, u3⟩ := hx.out.cellS b (by omega)
                   have hgl := hx.out.lt
                   have hm0 : (0 : Int) ≤ (b : Int) := Int.natCast_nonneg _
                   have hm2 : (b : Int) < ((l.length + 1 : Nat) : Int) := by omega
                   have HL : Hid ((putN8 l i.n b).length = l.length + 1) := putN8_len l i.n b
                   clear hx
                   go_wp2
                   go_roundw
                   case rel => exact ⟨k + 1, putN8 l i.n b, by omega, by go_num, by rw [HL.out]; exact HN, HPUT⟩
                   case measure => simp [intOf] <;> omega
         · have ha1 : ¬ (a : Int) < (l.length : Int) := by omega
           have HPUT := Lib.hid (hn.out.put HX2.out HOP.out ha HLO.out (fun x hxx => by have := (List.getElem?_eq_some_iff.1 hxx).1; omega))
           have HX9 := hx
           obtain ⟨A0, c0, rfl, _, _⟩ := own_reads hx.out.on
           clear hn
           have HXA := Lib.hid (HX9.out.keep ((Kept.refl _ w9).alloc (.cells #[.int .u32 0] 36)))
           have hsz := HX9.out.fr.size
           go_wp2_with (at_builtin
                        refine wpList_app (base := w.heap.size) _ rfl slU32s (.tmp 55) (.tmp 56) rfl _ l.length _ rfl HXA.out.on (fun _ => True) _ 1 1 [.int .u32 0] rfl (Reads.lit' (by simp) trivial rfl) ?_ ?_ ?_ ?_ ?_
                        · simp [Value.oneCell']
                        · omega
                        · unfold maxLen; omega
                        · simp; omega
                        intro v1 w1 hown1 hk1 hat1
                        obtain ⟨g, cap, rfl, hg1, hg2⟩ := own_some hown1 (by omega)
                        have HN1 := Lib.hid (HXA.out.put (w1 := w1) (l' := putN8 l 0 l.length) (L' := l.length + 1) (by rw [putN8_end, List.map_append]; exact hown1) hk1)
                        clear hown1 hk1 hat1 hg1 hg2 HXA HX9)
           go_loopw [7] (fun i wr => ∃ (b x : Nat), i = .int .i64 (b : Int) ∧ a ≤ b ∧ b ≤ l.length ∧ Hid (NQ w wr #[.slice A p.wide.length c, .slice (some ⟨b5, o5, none⟩) p.code.length c'] (.slice (some ⟨g, 0, none⟩) (l.length + 1) cap) (l.length + 1) (putN8 l x b))) (fun i _ => (intOf i).toNat)
           case atStart => exact ⟨l.length, 0, by go_num, ha, Nat.le_refl _, HN1⟩
           case round =>
             obtain ⟨b, x, rfl, hab, hbl, hx⟩ := hrel
             clear HN1
             by_cases hba : a < b
             · exact absurd hba (by omega)
             · obtain rfl : b = a := by omega
               have HN := Lib.hid (hx.out.store b i.n)
               rw [putN8_set ha] at HN
               have u2 := hx.out.frozen b
               obtain ⟨ux, u3⟩ := hx.out.cellS b (by omega)
               have hgl := hx.out.lt
               have hm0 : (0 : Int) ≤ (b : Int) := Int.natCast_nonneg _
               have hm2 : (b : Int) < ((l.length + 1 : Nat) : Int) := by omega
               have HL : Hid ((putN8 l i.n b).length = l.length + 1) := putN8_len l i.n b
               clear hx
               go_wp2
               go_roundw
               case rel => exact ⟨k + 1, putN8 l i.n b, by omega, by go_num, by rw [HL.out]; exact HN, HPUT⟩
               case measure => simp [intOf] <;> omega
     · have e1' : (i.op == 1) = false := by simpa using e1
       have HN := Lib.hid (hn.out.skip HX2.out e1)
       clear e1
       go_wp2
       go_roundw
       case rel => exact ⟨k + 1, l, by omega, by go_num, hx, HN⟩
       case measure => simp [intOf] <;> omega
   · obtain rfl : k = p.code.length := by omega
     obtain ⟨A0, c0, rfl, _, _⟩ := own_reads hx.out.on
     have HD := Lib.hid hn.out.done
     have hlen := hn.out.len
     go_wp2
     go_ret
     exact ⟨A0, c0, l, rfl, HD.out, by omega, hx.out.on, hx.out.fr⟩
end Go.Proofs.Ytodmkjeankbieab

