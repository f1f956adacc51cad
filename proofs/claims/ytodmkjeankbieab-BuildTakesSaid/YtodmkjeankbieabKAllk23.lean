/- Texts of this claim, packed. -/
import Derived.Test.YtodmkjeankbieabKAllk22
import Derived.Test.YtodmkjeankbieabKAllk21
set_option linter.all false
namespace Go.Proofs.Ytodmkjeankbieab
open Go.RowKit Go.Sort

def rrTo (p : Pg) (sg sl : Int) (rows : List Rw) (k : Nat) : Prop := ((p.code.zip rows).take k).all (fun x => rwR p sg sl x.1 x.2) = true
theorem rrTo_s {p : Pg} {sg sl : Int} {rows : List Rw} {k : Nat} {i : In} {r : Rw} (h : rrTo p sg sl rows k) (hi : p.code[k]? = some i) (hr : rows[k]? = some r) (hf : rwR p sg sl i r = true) : rrTo p sg sl rows (k + 1) := by
 unfold rrTo at *
 have hz : (p.code.zip rows)[k]? = some (i, r) := by rw [List.getElem?_zip_eq_some]; exact ⟨hi, hr⟩
 rw [List.take_add_one, List.all_append, h, hz]
 simp [hf]
theorem rrTo_no {p : Pg} {sg sl : Int} {rows : List Rw} {k : Nat} {i : In} {r : Rw} (hi : p.code[k]? = some i) (hr : rows[k]? = some r) (hf : rwR p sg sl i r = false) : ((p.code.zip rows).all fun x => rwR p sg sl x.1 x.2) = false := by
 have hz : (p.code.zip rows)[k]? = some (i, r) := by rw [List.getElem?_zip_eq_some]; exact ⟨hi, hr⟩
 rw [List.all_eq_false]
 exact ⟨(i, r), List.mem_of_getElem? hz, by simp [hf]⟩
theorem rrTo_all {p : Pg} {sg sl : Int} {rows : List Rw} (h : rrTo p sg sl rows p.code.length) : ((p.code.zip rows).all fun x => rwR p sg sl x.1 x.2) = true := by
 unfold rrTo at h
 rwa [List.take_of_length_le (by simp; omega)] at h

structure QmMem (w wr : World) (n0 : Nat) (vw vc : Value) (sg sl : Int) (vr : Value) (ci cr cp ct cb : Array Value) : Prop where
 pm : PmMem w wr vw vc sg sl vr
 bi : Blk wr n0 45 ci
 br : Blk wr (n0 + 1) 60 cr
 bp : Blk wr (n0 + 2) 57 cp
 bt : Blk wr (n0 + 3) 3 ct
 bb : Blk wr (n0 + 4) 4 cb
theorem QmMem.keep {w wr w2 : World} {n0 : Nat} {vw vc vr : Value} {sg sl : Int} {ci cr cp ct cb : Array Value} (h : QmMem w wr n0 vw vc sg sl vr ci cr cp ct cb) (hk : Fr wr w2) : QmMem w w2 n0 vw vc sg sl vr ci cr cp ct cb :=
 ⟨h.pm.keep hk, h.bi.kept hk (fun h => h), h.br.kept hk (fun h => h), h.bp.kept hk (fun h => h), h.bt.kept hk (fun h => h), h.bb.kept hk (fun h => h)⟩
structure Q4 (w wr W : World) (vw vc : Value) (sg sl : Int) (vr : Value) (ci cr cp ct : Array Value) : Prop where
 pm : PmMem w W vw vc sg sl vr
 bi : Blk W wr.heap.size 45 ci
 br : Blk W (wr.heap.size + 1) 60 cr
 bp : Blk W (wr.heap.size + 2) 57 cp
 bt : Blk W (wr.heap.size + 3) 3 ct
 sz : W.heap.size = wr.heap.size + 4
 fr : Fr wr W
theorem Q4.start {w wr : World} {vw vc vr : Value} {sg sl : Int} (h : PmMem w wr vw vc sg sl vr) (ci cr cp ct : Array Value) :
   Q4 w wr ((((wr.alloc (.cells ci 45)).alloc (.cells cr 60)).alloc (.cells cp 57)).alloc (.cells ct 3)) vw vc sg sl vr ci cr cp ct := by
 refine ⟨h.keep (((((Kept.refl _ wr).alloc _).alloc _).alloc _).alloc _), (((Blk.new wr _ _).alloc _).alloc _).alloc _, ?_, ?_, ?_, by simp, ((((Kept.refl _ wr).alloc _).alloc _).alloc _).alloc _⟩
 · have := ((Blk.new (wr.alloc (.cells ci 45)) 60 cr).alloc (.cells cp 57)).alloc (.cells ct 3)
   simpa using this
 · have := (Blk.new ((wr.alloc (.cells ci 45)).alloc (.cells cr 60)) 57 cp).alloc (.cells ct 3)
   simpa using this
 · have := Blk.new (((wr.alloc (.cells ci 45)).alloc (.cells cr 60)).alloc (.cells cp 57)) 3 ct
   simpa using this
theorem Q4.next {w wr W : World} {vw vc vr : Value} {sg sl : Int} {ci cr cp ct : Array Value} (h : Q4 w wr W vw vc sg sl vr ci cr cp ct) (cb : Array Value) : QmMem w (W.alloc (.cells cb 4)).drew wr.heap.size vw vc sg sl vr ci cr cp ct cb := by
 have hk : Fr W (W.alloc (.cells cb 4)).drew := ((Kept.refl _ W).alloc _).drew
 refine ⟨h.pm.keep hk, h.bi.kept hk (fun h => h), h.br.kept hk (fun h => h), h.bp.kept hk (fun h => h), h.bt.kept hk (fun h => h), ?_⟩
 have := (Blk.new W 4 cb).drew
 rwa [h.sz] at this

def QmRel (P0 P1 P2 : Bool) (k : Int) : Prop := k = 0 ∨ (k = 1 ∧ P0 = true) ∨ (k = 2 ∧ P0 = true ∧ P1 = true) ∨ (k = 3 ∧ P0 = true ∧ P1 = true ∧ P2 = true)

set_option maxHeartbeats 8000000 in
set_option maxRecDepth 100000 in
theorem refPlaceMay_any (R R' : Nat → Prop) (v vl : Value) (p : Pg) (sg : Int) (l : Pd) (w : World) (h : RdPg w R v p) (hL : RdPd w R' vl l) :
   Calls Try.prog 29 #[v, tgV sg, vl] w fun e w' => e = .returned (.bool (mayLR p sg l)) ∧ Fr w w' := by
 have H := Lib.hid h
 obtain ⟨vw, vc, rfl, ⟨A, c, rfl, hl, hr⟩, ⟨A', c', rfl, hl', hr', ho'⟩⟩ := h
 obtain ⟨vr, lv, rfl, hsl, ⟨Ar, cr, rfl, hlr, hrr, hor⟩, hrows⟩ := hL
 have HC := Lib.hid hr'
 have HRW := Lib.hid hrr
 have HOR := Lib.hid (fun (w2 : World) (hf : Fr w w2) x hx => (hor x hx).kept hf (fun _ _ h => h))
 unfold maxLen at hl hl' hlr
 clear hr hr' ho' hrr hor
 obtain ⟨sl, rows⟩ := l
 simp only at hrows hsl ⊢
 have HROWS := Lib.hid hrows
 have hlen : rows.length = lv.length := by rw [hrows]; simp
 clear hrows
 have HMay := Lib.hid (fun w1 (hk : Fr w w1) => refMay_any R _ p w1 (H.out.kept hk (fun _ _ h => h)))
 have HTg := Lib.hid (fun w => refTarget_any sg w)
 unfold tgV at HTg ⊢
 have HM0 : Hid (PmMem w (((w.alloc (.cells #[.slice A p.wide.length c, .slice A' p.code.length c'] 25)).alloc (.cells #[.int .i64 sg] 47)).alloc (.cells #[.int .i64 sl, .slice Ar lv.length cr] 50)) (.slice A p.wide.length c) (.slice A' p.code.length c') sg sl (.slice Ar lv.length cr)) := by
   refine ⟨((Blk.new w _ _).alloc _).alloc _, ?_, ?_, (((Kept.refl _ w).alloc _).alloc _).alloc _⟩
   · have := (Blk.new (w.alloc (.cells #[.slice A p.wide.length c, .slice A' p.code.length c'] 25)) 47 #[.int .i64 sg]).alloc (.cells #[.int .i64 sl, .slice Ar lv.length cr] 50)
     simpa using this
   · have := Blk.new ((w.alloc (.cells #[.slice A p.wide.length c, .slice A' p.code.length c'] 25)).alloc (.cells #[.int .i64 sg] 47)) 50 #[.int .i64 sl, .slice Ar lv.length cr]
     simpa using this
 go_enter Try.func29, Try.ntmps29
 go_wp2_with fail
 refine (HMay.out _ HM0.out.fr).mono ?_
 rintro e w1 ⟨rfl, f1⟩
 have HM1 := Lib.hid (HM0.out.keep f1)
 have t0 := HM1.out.bt.cell 0
 have zt := HM1.out.bt.lt
 simp only [List.getElem?_toArray, List.getElem?_cons_succ, List.getElem?_cons_zero] at t0
 clear f1 HM0 HMay
 cases hmay : mayB p with
 | false =>
   have HV : Hid (mayLR p sg ⟨sl, rows⟩ = false) := by show _ = _; unfold mayLR; rw [← mayB_eq, hmay]; rfl
   clear hmay
   go_wp2
   go_ret
   exact ⟨ret_b HV.out.symm, HM1.out.fr⟩
 | true =>
   go_wp2_with fail
   refine (HTg.out _).mono ?_
   rintro e w2 ⟨rfl, f2⟩
   have HM2 := Lib.hid (HM1.out.keep f2)
   have p1 := HM2.out.bp.cell 1
   have s0 := HM2.out.bl.cell 0
   have s1 := HM2.out.bl.cell 1
   have zp := HM2.out.bp.lt
   have zs := HM2.out.bl.lt
   simp only [List.getElem?_toArray, List.getElem?_cons_succ, List.getElem?_cons_zero] at p1 s0 s1
   clear f2 HM1 HTg
   cases htg : tgB sg with
   | false =>
     have HV : Hid (mayLR p sg ⟨sl, rows⟩ = false) := by show _ = _; unfold mayLR; rw [← mayB_eq, ← tg_eq, hmay, htg]; rfl
     clear hmay htg
     go_wp2
     go_ret
     exact ⟨ret_b HV.out.symm, HM2.out.fr⟩
   | true =>
     have HV : Hid (mayLR p sg ⟨sl, rows⟩ = (decide (0 ≤ sl) && decide (sl ≤ 12) && decide (lv.length = p.code.length) && (p.code.zip rows).all fun x => rwR p sg sl x.1 x.2)) := by
       show _ = _; unfold mayLR; simp only; rw [← mayB_eq, ← tg_eq, hmay, htg, hlen]; simp only [Bool.true_and]
     by_cases hs : 0 ≤ sl ∧ sl ≤ 12 ∧ lv.length = p.code.length
     · obtain ⟨g0, g1, g2⟩ := hs
       have HV2 : Hid (mayLR p sg ⟨sl, rows⟩ = (p.code.zip rows).all fun x => rwR p sg sl x.1 x.2) := by
         show _ = _; rw [HV.out, decide_eq_true g0, decide_eq_true g1, decide_eq_true g2]; rfl
       obtain ⟨t1, t2, t3⟩ := tg_facts htg
       obtain ⟨l1, l2, l3, l4⟩ := mayB_len hmay
       have HMAY := Lib.hid hmay
       have hl2 : ((lv.length : Nat) : Int) = (p.code.length : Int) := by omega
       rw [g2] at s1
       rw [g2] at HM2
       clear HV hmay htg hl2
       go_wp2
       go_loopw [7] (fun i wr => ∃ k : Nat, k ≤ p.code.length ∧ i = .int .i64 k ∧ Hid (rrTo p sg sl rows k) ∧ Hid (PmMem w wr (.slice A p.wide.length c) (.slice A' p.code.length c') sg sl (.slice Ar p.code.length cr))) (fun i _ => p.code.length - (intOf i).toNat)
       case atStart => exact ⟨0, by omega, rfl, rfl, HM2⟩
       case round =>
         obtain ⟨k, hk, rfl, hto, hm⟩ := hrel
         generalize wr = w8 at *
         clear wr
         clear p1 s0 s1 zp zs t0 zt
         have p1 := hm.out.bp.cell 1
         have s1 := hm.out.bl.cell 1
         have zp := hm.out.bp.lt
         have zs := hm.out.bl.lt
         simp only [List.getElem?_toArray, List.getElem?_cons_succ, List.getElem?_cons_zero] at p1 s1
         by_cases hlt : k < p.code.length
         · have hx : p.code[k]? = some p.code[k] := List.getElem?_eq_getElem hlt
           have hltv : k < lv.length := by omega
           have hy : lv[k]? = some lv[k] := List.getElem?_eq_getElem hltv
           obtain ⟨bi, oi, rfl, _, i0, i1, i2, i3, i4, i5⟩ := (HC.out.kept hm.out.fr (fun _ _ h => h)).ins hx
           obtain ⟨br, or_, hAr, _, r0, r1, r2, r3, r4, r5, r6, r7⟩ := (HRW.out.kept hm.out.fr (fun _ _ h => h)).rw hy
           subst hAr
           have hI := mayB_ins HMAY.out (List.mem_of_getElem? hx)
           have hxok := HOR.out w8 hm.out.fr lv[k] (List.mem_of_getElem? hy)
           have hyr : rows[k]? = some lv[k].r := by rw [HROWS.out, List.getElem?_map, hy]; rfl
           have zi := cell_lt i0
           have zr := cell_lt r0
           have hk0 : (0 : Int) ≤ (k : Int) := Int.natCast_nonneg _
           have hk1 : (k : Int) < (p.code.length : Int) := by omega
           have HX := Lib.hid (And.intro hx hyr)
           clear hx hy hyr
           generalize p.code[k] = i at *
           generalize lv[k] = rv at *
           obtain ⟨hdo, hao, hbo, hvb, hva⟩ := hxok
           obtain ⟨⟨⟨dk, dn⟩, ⟨ak, an⟩, ⟨bk, bn⟩, before, after⟩, vb, va⟩ := rv
           simp only at *
           obtain ⟨Ab, cb, evb, _⟩ := id hvb
           obtain ⟨Aa, ca, eva, hla, _⟩ := id hva
           subst evb; subst eva
           unfold maxLen at hla
           have HVB := Lib.hid hvb
           have HVA := Lib.hid hva
           obtain ⟨⟨ha0, ha1⟩, ⟨hb0, hb1⟩, ⟨hd0, hd1⟩, hc0⟩ := ins_fields hI l1
           obtain ⟨op, d, a, b, cc, n⟩ := i
           simp only at *
           have HP := Lib.hid (fun (w2 : World) (hf : Fr w w2) => H.out.kept hf (fun _ _ h => h))
           have HRD := Lib.hid (fun (w2 : World) (hf : Fr w w2) => refRegister_any R _ p sg d ⟨dk, dn⟩ w2 (HP.out w2 hf) (by omega) t2 t3 hdo ⟨hd0, hd1⟩)
           have HRA := Lib.hid (fun (w2 : World) (hf : Fr w w2) => refRegister_any R _ p sg a ⟨ak, an⟩ w2 (HP.out w2 hf) (by omega) t2 t3 hao ⟨ha0, ha1⟩)
           have HRB := Lib.hid (fun (w2 : World) (hf : Fr w w2) => refRegister_any R _ p sg b ⟨bk, bn⟩ w2 (HP.out w2 hf) (by omega) t2 t3 hbo ⟨hb0, hb1⟩)
           have HMB := Lib.hid (fun (w2 : World) (hf : Fr w8 w2) => refMoves6_any R' _ before sg sl w2 (HVB.out.kept hf (fun _ _ h => h)) (by omega) t2 t3)
           have HMA := Lib.hid (fun (w2 : World) (hf : Fr w8 w2) => refMoves6_any R' _ after sg sl w2 (HVA.out.kept hf (fun _ _ h => h)) (by omega) t2 t3)
           unfold tgV PlaceV.val at HRD HRA HRB
           unfold tgV at HMB HMA
           simp only at HRD HRA HRB
           have HG := Lib.hid (refGives_any op)
           have HM := Lib.hid (refMany_any op)
           clear hI hdo hao hbo hvb hva
           have HQ4 := Lib.hid (Q4.start hm.out #[.int .i64 op, .int .i64 d, .int .i64 a, .int .i64 b, .int .i64 cc, .int .u32 n] #[.int .i64 dk, .int .i64 dn, .int .i64 ak, .int .i64 an, .int .i64 bk, .int .i64 bn, .slice Ab before.length cb, .slice Aa after.length ca] #[.int .i64 dk, .int .i64 dn, .int .i64 ak, .int .i64 an, .int .i64 bk, .int .i64 bn] #[.int .i64 d, .int .i64 a, .int .i64 b])
           go_wp2_with fail
           generalize ((((w8.alloc (.cells #[.int .i64 op, .int .i64 d, .int .i64 a, .int .i64 b, .int .i64 cc, .int .u32 n] 45)).alloc (.cells #[.int .i64 dk, .int .i64 dn, .int .i64 ak, .int .i64 an, .int .i64 bk, .int .i64 bn, .slice Ab before.length cb, .slice Aa after.length ca] 60)).alloc (.cells #[.int .i64 dk, .int .i64 dn, .int .i64 ak, .int .i64 an, .int .i64 bk, .int .i64 bn] 57)).alloc (.cells #[.int .i64 d, .int .i64 a, .int .i64 b] 3)) = W at *
           have e0 := HQ4.out.bi.cell 0
           have zW := HQ4.out.bi.lt
           simp only [List.getElem?_toArray, List.getElem?_cons_succ, List.getElem?_cons_zero] at e0
           go_region_held3 (fun w' => w'.cell? ⟨w8.heap.size, 0, none⟩ = some (.int .i64 op))
             (first | go_keep)
             (first
               | (go_at_call 44; refine (HG.out _).mono ?_; rintro e w' ⟨rfl, rfl⟩)
               | (go_at_call 66; refine (HM.out _).mono ?_; rintro e w' ⟨rfl, rfl⟩))
           have em1 : decide ((1 : Int) < (many op : Int)) = decide (1 < many op) := by rw [decide_eq_decide]; omega
           rw [em1]
           clear em1
           have HS := Lib.hid (HQ4.out.next #[.bool (gvs op), .bool (decide (0 < many op)), .bool (decide (1 < many op))])
           have HRW2 : Hid (rwR p sg sl ⟨op, d, a, b, cc, n⟩ ⟨⟨dk, dn⟩, ⟨ak, an⟩, ⟨bk, bn⟩, before, after⟩ = ((plR p.wide sg (gvs op) d ⟨dk, dn⟩ && plR p.wide sg (decide (0 < many op)) a ⟨ak, an⟩ && plR p.wide sg (decide (1 < many op)) b ⟨bk, bn⟩) &&
             (mvsR sg sl before && mvsR sg sl after) && !(decide (op = 8 ∨ op = 9 ∨ op = 10) && decide (0 < after.length)))) := rfl
           generalize gvs op = g at *
           generalize decide (0 < many op) = m0 at *
           generalize decide (1 < many op) = m1 at *
           have HFr : Hid (Fr w8 ((W.alloc (.cells #[.bool g, .bool m0, .bool m1] 4)).drew)) := (HQ4.out.fr.alloc _).drew
           clear HG HM
           go_wp2
           go_loopw [13] (fun i wr => ∃ q : Int, i = .int .i64 q ∧ Hid (QmRel (plR p.wide sg g d ⟨dk, dn⟩) (plR p.wide sg m0 a ⟨ak, an⟩) (plR p.wide sg m1 b ⟨bk, bn⟩) q) ∧ Hid (QmMem w wr w8.heap.size (.slice A p.wide.length c) (.slice (some ⟨bi, oi, none⟩) p.code.length c') sg sl (.slice (some ⟨br, or_, none⟩) p.code.length cr) #[.int .i64 op, .int .i64 d, .int .i64 a, .int .i64 b, .int .i64 cc, .int .u32 n] #[.int .i64 dk, .int .i64 dn, .int .i64 ak, .int .i64 an, .int .i64 bk, .int .i64 bn, .slice Ab before.length cb, .slice Aa after.length ca] #[.int .i64 dk, .int .i64 dn, .int .i64 ak, .int .i64 an, .int .i64 bk, .int .i64 bn] #[.int .i64 d, .int .i64 a, .int .i64 b] #[.bool g, .bool m0, .bool m1]) ∧ Hid (Fr w8 wr)) (fun i _ => 3 - (intOf i).toNat)
           case atStart => exact ⟨0, rfl, Or.inl rfl, HS, HFr⟩
           case round =>
             obtain ⟨q, rfl, hrel, hq, hfw⟩ := hrel
             clear HS HFr
             have p0 := hq.out.pm.bp.cell 0
             have p1 := hq.out.pm.bp.cell 1
             have t0 := hq.out.pm.bt.cell 0
             have zp := hq.out.pm.bp.lt
             have zt := hq.out.pm.bt.lt
             have z2 := hq.out.bp.lt
             have z3 := hq.out.bt.lt
             have z4 := hq.out.bb.lt
             simp only [List.getElem?_toArray, List.getElem?_cons_succ, List.getElem?_cons_zero] at p0 p1 t0
             rw [← HQ4.out.sz] at z4
             have q_p0 := cell_regrown p0
             have q_p1 := cell_regrown p1
             have q_t0 := cell_regrown t0
             rcases hrel.out with rfl | ⟨rfl, h0⟩ | ⟨rfl, h0, h1⟩ | ⟨rfl, h0, h1, h2⟩
             · have b0 := hq.out.bb.cell 0
               have f0 := hq.out.bt.cell 0
               have a0 := hq.out.bp.cell 0
               have a1 := hq.out.bp.cell 1
               simp only [List.getElem?_toArray, List.getElem?_cons_succ, List.getElem?_cons_zero] at b0 f0 a0 a1
               rw [← HQ4.out.sz] at b0
               have q_b0 := cell_regrown b0
               have q_f0 := cell_regrown f0
               have q_a0 := cell_regrown a0
               have q_a1 := cell_regrown a1
               have HNXT := Lib.hid (fun (hp : plR p.wide sg g d ⟨dk, dn⟩ = true) => (show QmRel (plR p.wide sg g d ⟨dk, dn⟩) (plR p.wide sg m0 a ⟨ak, an⟩) (plR p.wide sg m1 b ⟨bk, bn⟩) 1 from Or.inr (Or.inl ⟨rfl, hp⟩)))
               have HVF := Lib.hid (fun (hp : plR p.wide sg g d ⟨dk, dn⟩ = false) => (show mayLR p sg ⟨sl, rows⟩ = false from by
                 rw [HV2.out]
                 exact rrTo_no HX.out.1 HX.out.2 (by rw [HRW2.out, hp]; simp)))
               have HR1 := Lib.hid (fun (dd : Nat) (os : Array Obj) => HRD.out (grow (redrawn wr dd) os) (hq.out.pm.fr.trans (kept_of_regrown dd os)))
               rcases Bool.eq_false_or_eq_true g with hG | hG
               · rw [hG] at b0 q_b0
                 cases hX : regR p.wide sg d ⟨dk, dn⟩ with
                 | true =>
                   have HNX := Lib.hid (HNXT.out (by rw [hG]; exact hX))
                   rw [hX] at HR1
                   clear hX hG hrel HRD HRA HRB HMB HMA HV2 HRW2
                   go_wp2
                   refine wp_region_quiet_below (by kernel_rfl) (by kernel_rfl) ?_
                   repeat (go_big_quiet_step (refine Calls.regrown_of ((HR1.out _ _).mono fun e w' h => ⟨h.1, h.2.below⟩)))
                   refine wpQuiet_nil ?_
                   intro _ hw2
                   obtain ⟨pq, rfl⟩ := hw2
                   go_wp2
                   go_roundw
                   case rel => exact ⟨1, rfl, HNX, Lib.hid (hq.out.keep (kept_of_regrown _ _)), Lib.hid (hfw.out.trans (kept_of_regrown _ _))⟩
                   case measure => simp [intOf]
                 | false =>
                   have HV3 := Lib.hid (HVF.out (by rw [hG]; exact hX))
                   rw [hX] at HR1
                   clear hX hG hrel HRD HRA HRB HMB HMA HV2 HRW2
                   go_wp2
                   refine wp_region_quiet_below (by kernel_rfl) (by kernel_rfl) ?_
                   repeat (go_big_quiet_step (refine Calls.regrown_of ((HR1.out _ _).mono fun e w' h => ⟨h.1, h.2.below⟩)))
                   refine wpQuiet_nil ?_
                   intro _ hw2
                   obtain ⟨pq, rfl⟩ := hw2
                   go_wp2
                   go_ret
                   exact ⟨ret_b HV3.out.symm, hq.out.pm.fr.trans (kept_of_regrown _ _)⟩
               · rw [hG] at b0 q_b0
                 by_cases hX : dk = 0 ∧ dn = 0
                 · have HNX := Lib.hid (HNXT.out (by rw [hG]; exact decide_eq_true hX))
                   have e1 : (dk != 0) = false := by simpa using hX.1
                   have e2 : (dn != 0) = false := by simpa using hX.2
                   clear hX hG hrel HRD HRA HRB HMB HMA HV2 HRW2
                   go_wp2
                   refine wp_region_quiet_below (by kernel_rfl) (by kernel_rfl) ?_
                   repeat (go_big_quiet_step (fail))
                   refine wpQuiet_nil ?_
                   intro _ hw2
                   obtain ⟨pq, rfl⟩ := hw2
                   go_wp2
                   go_roundw
                   case rel => exact ⟨1, rfl, HNX, Lib.hid (hq.out.keep (kept_of_regrown _ _)), Lib.hid (hfw.out.trans (kept_of_regrown _ _))⟩
                   case measure => simp [intOf]
                 · have HV3 := Lib.hid (HVF.out (by rw [hG]; exact decide_eq_false hX))
                   by_cases hY : dk = 0
                   · have e1 : (dk != 0) = false := by simpa using hY
                     have e2 : (dn != 0) = true := by simpa using fun h => hX ⟨hY, h⟩
                     clear hX hY hG hrel HRD HRA HRB HMB HMA HV2 HRW2
                     go_wp2
                     refine wp_region_quiet_below (by kernel_rfl) (by kernel_rfl) ?_
                     repeat (go_big_quiet_step (fail))
                     refine wpQuiet_nil ?_
                     intro _ hw2
                     obtain ⟨pq, rfl⟩ := hw2
                     go_wp2
                     go_ret
                     exact ⟨ret_b HV3.out.symm, hq.out.pm.fr.trans (kept_of_regrown _ _)⟩
                   · have e1 : (dk != 0) = true := by simpa using hY
                     clear hX hY hG hrel HRD HRA HRB HMB HMA HV2 HRW2
                     go_wp2
                     refine wp_region_quiet_below (by kernel_rfl) (by kernel_rfl) ?_
                     repeat (go_big_quiet_step (fail))
                     refine wpQuiet_nil ?_
                     intro _ hw2
                     obtain ⟨pq, rfl⟩ := hw2
                     go_wp2
                     go_ret
                     exact ⟨ret_b HV3.out.symm, hq.out.pm.fr.trans (kept_of_regrown _ _)⟩
             · have b0 := hq.out.bb.cell 1
               have f0 := hq.out.bt.cell 1
               have a0 := hq.out.bp.cell 2
               have a1 := hq.out.bp.cell 3
               simp only [List.getElem?_toArray, List.getElem?_cons_succ, List.getElem?_cons_zero] at b0 f0 a0 a1
               rw [← HQ4.out.sz] at b0
               have q_b0 := cell_regrown b0
               have q_f0 := cell_regrown f0
               have q_a0 := cell_regrown a0
               have q_a1 := cell_regrown a1
               have HNXT := Lib.hid (fun (hp : plR p.wide sg m0 a ⟨ak, an⟩ = true) => (show QmRel (plR p.wide sg g d ⟨dk, dn⟩) (plR p.wide sg m0 a ⟨ak, an⟩) (plR p.wide sg m1 b ⟨bk, bn⟩) 2 from Or.inr (Or.inr (Or.inl ⟨rfl, h0, hp⟩))))
               have HVF := Lib.hid (fun (hp : plR p.wide sg m0 a ⟨ak, an⟩ = false) => (show mayLR p sg ⟨sl, rows⟩ = false from by
                 rw [HV2.out]
                 exact rrTo_no HX.out.1 HX.out.2 (by rw [HRW2.out, hp]; simp)))
               have HR1 := Lib.hid (fun (dd : Nat) (os : Array Obj) => HRA.out (grow (redrawn wr dd) os) (hq.out.pm.fr.trans (kept_of_regrown dd os)))
               rcases Bool.eq_false_or_eq_true m0 with hG | hG
               · rw [hG] at b0 q_b0
                 cases hX : regR p.wide sg a ⟨ak, an⟩ with
                 | true =>
                   have HNX := Lib.hid (HNXT.out (by rw [hG]; exact hX))
                   rw [hX] at HR1
                   clear hX hG hrel HRD HRA HRB HMB HMA HV2 HRW2
                   go_wp2
                   refine wp_region_quiet_below (by kernel_rfl) (by kernel_rfl) ?_
                   repeat (go_big_quiet_step (refine Calls.regrown_of ((HR1.out _ _).mono fun e w' h => ⟨h.1, h.2.below⟩)))
                   refine wpQuiet_nil ?_
                   intro _ hw2
                   obtain ⟨pq, rfl⟩ := hw2
                   go_wp2
                   go_roundw
                   case rel => exact ⟨2, rfl, HNX, Lib.hid (hq.out.keep (kept_of_regrown _ _)), Lib.hid (hfw.out.trans (kept_of_regrown _ _))⟩
                   case measure => simp [intOf]
                 | false =>
                   have HV3 := Lib.hid (HVF.out (by rw [hG]; exact hX))
                   rw [hX] at HR1
                   clear hX hG hrel HRD HRA HRB HMB HMA HV2 HRW2
                   go_wp2
                   refine wp_region_quiet_below (by kernel_rfl) (by kernel_rfl) ?_
                   repeat (go_big_quiet_step (refine Calls.regrown_of ((HR1.out _ _).mono fun e w' h => ⟨h.1, h.2.below⟩)))
                   refine wpQuiet_nil ?_
                   intro _ hw2
                   obtain ⟨pq, rfl⟩ := hw2
                   go_wp2
                   go_ret
                   exact ⟨ret_b HV3.out.symm, hq.out.pm.fr.trans (kept_of_regrown _ _)⟩
               · rw [hG] at b0 q_b0
                 by_cases hX : ak = 0 ∧ an = 0
                 · have HNX := Lib.hid (HNXT.out (by rw [hG]; exact decide_eq_true hX))
                   have e1 : (ak != 0) = false := by simpa using hX.1
                   have e2 : (an != 0) = false := by simpa using hX.2
                   clear hX hG hrel HRD HRA HRB HMB HMA HV2 HRW2
                   go_wp2
                   refine wp_region_quiet_below (by kernel_rfl) (by kernel_rfl) ?_
                   repeat (go_big_quiet_step (fail))
                   refine wpQuiet_nil ?_
                   intro _ hw2
                   obtain ⟨pq, rfl⟩ := hw2
                   go_wp2
                   go_roundw
                   case rel => exact ⟨2, rfl, HNX, Lib.hid (hq.out.keep (kept_of_regrown _ _)), Lib.hid (hfw.out.trans (kept_of_regrown _ _))⟩
                   case measure => simp [intOf]
                 · have HV3 := Lib.hid (HVF.out (by rw [hG]; exact decide_eq_false hX))
                   by_cases hY : ak = 0
                   · have e1 : (ak != 0) = false := by simpa using hY
                     have e2 : (an != 0) = true := by simpa using fun h => hX ⟨hY, h⟩
                     clear hX hY hG hrel HRD HRA HRB HMB HMA HV2 HRW2
                     go_wp2
                     refine wp_region_quiet_below (by kernel_rfl) (by kernel_rfl) ?_
                     repeat (go_big_quiet_step (fail))
                     refine wpQuiet_nil ?_
                     intro _ hw2
                     obtain ⟨pq, rfl⟩ := hw2
                     go_wp2
                     go_ret
                     exact ⟨ret_b HV3.out.symm, hq.out.pm.fr.trans (kept_of_regrown _ _)⟩
                   · have e1 : (ak != 0) = true := by simpa using hY
                     clear hX hY hG hrel HRD HRA HRB HMB HMA HV2 HRW2
                     go_wp2
                     refine wp_region_quiet_below (by kernel_rfl) (by kernel_rfl) ?_
                     repeat (go_big_quiet_step (fail))
                     refine wpQuiet_nil ?_
                     intro _ hw2
                     obtain ⟨pq, rfl⟩ := hw2
                     go_wp2
                     go_ret
                     exact ⟨ret_b HV3.out.symm, hq.out.pm.fr.trans (kept_of_regrown _ _)⟩
             · have b0 := hq.out.bb.cell 2
               have f0 := hq.out.bt.cell 2
               have a0 := hq.out.bp.cell 4
               have a1 := hq.out.bp.cell 5
               simp only [List.getElem?_toArray, List.getElem?_cons_succ, List.getElem?_cons_zero] at b0 f0 a0 a1
               rw [← HQ4.out.sz] at b0
               have q_b0 := cell_regrown b0
               have q_f0 := cell_regrown f0
               have q_a0 := cell_regrown a0
               have q_a1 := cell_regrown a1
               have HNXT := Lib.hid (fun (hp : plR p.wide sg m1 b ⟨bk, bn⟩ = true) => (show QmRel (plR p.wide sg g d ⟨dk, dn⟩) (plR p.wide sg m0 a ⟨ak, an⟩) (plR p.wide sg m1 b ⟨bk, bn⟩) 3 from Or.inr (Or.inr (Or.inr ⟨rfl, h0, h1, hp⟩))))
               have HVF := Lib.hid (fun (hp : plR p.wide sg m1 b ⟨bk, bn⟩ = false) => (show mayLR p sg ⟨sl, rows⟩ = false from by
                 rw [HV2.out]
                 exact rrTo_no HX.out.1 HX.out.2 (by rw [HRW2.out, hp]; simp)))
               have HR1 := Lib.hid (fun (dd : Nat) (os : Array Obj) => HRB.out (grow (redrawn wr dd) os) (hq.out.pm.fr.trans (kept_of_regrown dd os)))
               rcases Bool.eq_false_or_eq_true m1 with hG | hG
               · rw [hG] at b0 q_b0
                 cases hX : regR p.wide sg b ⟨bk, bn⟩ with
                 | true =>
                   have HNX := Lib.hid (HNXT.out (by rw [hG]; exact hX))
                   rw [hX] at HR1
                   clear hX hG hrel HRD HRA HRB HMB HMA HV2 HRW2
                   go_wp2
                   refine wp_region_quiet_below (by kernel_rfl) (by kernel_rfl) ?_
                   repeat (go_big_quiet_step (refine Calls.regrown_of ((HR1.out _ _).mono fun e w' h => ⟨h.1, h.2.below⟩)))
                   refine wpQuiet_nil ?_
                   intro _ hw2
                   obtain ⟨pq, rfl⟩ := hw2
                   go_wp2
                   go_roundw
                   case rel => exact ⟨3, rfl, HNX, Lib.hid (hq.out.keep (kept_of_regrown _ _)), Lib.hid (hfw.out.trans (kept_of_regrown _ _))⟩
                   case measure => simp [intOf]
                 | false =>
                   have HV3 := Lib.hid (HVF.out (by rw [hG]; exact hX))
                   rw [hX] at HR1
                   clear hX hG hrel HRD HRA HRB HMB HMA HV2 HRW2
                   go_wp2
                   refine wp_region_quiet_below (by kernel_rfl) (by kernel_rfl) ?_
                   repeat (go_big_quiet_step (refine Calls.regrown_of ((HR1.out _ _).mono fun e w' h => ⟨h.1, h.2.below⟩)))
                   refine wpQuiet_nil ?_
                   intro _ hw2
                   obtain ⟨pq, rfl⟩ := hw2
                   go_wp2
                   go_ret
                   exact ⟨ret_b HV3.out.symm, hq.out.pm.fr.trans (kept_of_regrown _ _)⟩
               · rw [hG] at b0 q_b0
                 by_cases hX : bk = 0 ∧ bn = 0
                 · have HNX := Lib.hid (HNXT.out (by rw [hG]; exact decide_eq_true hX))
                   have e1 : (bk != 0) = false := by simpa using hX.1
                   have e2 : (bn != 0) = false := by simpa using hX.2
                   clear hX hG hrel HRD HRA HRB HMB HMA HV2 HRW2
                   go_wp2
                   refine wp_region_quiet_below (by kernel_rfl) (by kernel_rfl) ?_
                   repeat (go_big_quiet_step (fail))
                   refine wpQuiet_nil ?_
                   intro _ hw2
                   obtain ⟨pq, rfl⟩ := hw2
                   go_wp2
                   go_roundw
                   case rel => exact ⟨3, rfl, HNX, Lib.hid (hq.out.keep (kept_of_regrown _ _)), Lib.hid (hfw.out.trans (kept_of_regrown _ _))⟩
                   case measure => simp [intOf]
                 · have HV3 := Lib.hid (HVF.out (by rw [hG]; exact decide_eq_false hX))
                   by_cases hY : bk = 0
                   · have e1 : (bk != 0) = false := by simpa using hY
                     have e2 : (bn != 0) = true := by simpa using fun h => hX ⟨hY, h⟩
                     clear hX hY hG hrel HRD HRA HRB HMB HMA HV2 HRW2
                     go_wp2
                     refine wp_region_quiet_below (by kernel_rfl) (by kernel_rfl) ?_
                     repeat (go_big_quiet_step (fail))
                     refine wpQuiet_nil ?_
                     intro _ hw2
                     obtain ⟨pq, rfl⟩ := hw2
                     go_wp2
                     go_ret
                     exact ⟨ret_b HV3.out.symm, hq.out.pm.fr.trans (kept_of_regrown _ _)⟩
                   · have e1 : (bk != 0) = true := by simpa using hY
                     clear hX hY hG hrel HRD HRA HRB HMB HMA HV2 HRW2
                     go_wp2
                     refine wp_region_quiet_below (by kernel_rfl) (by kernel_rfl) ?_
                     repeat (go_big_quiet_step (fail))
                     refine wpQuiet_nil ?_
                     intro _ hw2
                     obtain ⟨pq, rfl⟩ := hw2
                     go_wp2
                     go_ret
                     exact ⟨ret_b HV3.out.symm, hq.out.pm.fr.trans (kept_of_regrown _ _)⟩
             · have i0 := hq.out.bi.cell 0
               have r6 := hq.out.br.cell 6
               have r7 := hq.out.br.cell 7
               have s0 := hq.out.pm.bl.cell 0
               have zi := hq.out.bi.lt
               have zr := hq.out.br.lt
               have zs := hq.out.pm.bl.lt
               simp only [List.getElem?_toArray, List.getElem?_cons_succ, List.getElem?_cons_zero] at i0 r6 r7 s0
               have HRW3 : Hid (rwR p sg sl ⟨op, d, a, b, cc, n⟩ ⟨⟨dk, dn⟩, ⟨ak, an⟩, ⟨bk, bn⟩, before, after⟩ = ((mvsR sg sl before && mvsR sg sl after) && !(decide (op = 8 ∨ op = 9 ∨ op = 10) && decide (0 < after.length)))) := by
                 show _ = _
                 rw [HRW2.out, h0, h1, h2]
                 rfl
               have HVF := Lib.hid (fun (hp : rwR p sg sl ⟨op, d, a, b, cc, n⟩ ⟨⟨dk, dn⟩, ⟨ak, an⟩, ⟨bk, bn⟩, before, after⟩ = false) => (show mayLR p sg ⟨sl, rows⟩ = false from by
                 rw [HV2.out]
                 exact rrTo_no HX.out.1 HX.out.2 hp))
               have HVT := Lib.hid (fun (hp : rwR p sg sl ⟨op, d, a, b, cc, n⟩ ⟨⟨dk, dn⟩, ⟨ak, an⟩, ⟨bk, bn⟩, before, after⟩ = true) => rrTo_s hto.out HX.out.1 HX.out.2 hp)
               clear q_p0 q_p1 q_t0 HRD HRA HRB HRW2 h0 h1 h2 hrel HV2
               cases hB : mvsR sg sl before with
               | false =>
                 have HV3 := Lib.hid (HVF.out (by rw [HRW3.out, hB]; rfl))
                 rw [hB] at HMB
                 clear hB
                 go_wp2_with fail
                 refine (HMB.out _ hfw.out).mono ?_
                 rintro e w5 ⟨rfl, f5⟩
                 have HF5 := Lib.hid (hq.out.pm.fr.trans f5)
                 clear f5
                 go_wp2
                 go_ret
                 exact ⟨ret_b HV3.out.symm, HF5.out⟩
               | true =>
                 rw [hB] at HMB HRW3
                 clear hB
                 go_wp2_with fail
                 refine (HMB.out _ hfw.out).mono ?_
                 rintro e w5 ⟨rfl, f5⟩
                 have HQ5 := Lib.hid (hq.out.keep f5)
                 have HF5 := Lib.hid (hfw.out.trans f5)
                 have t0 := HQ5.out.pm.bt.cell 0
                 have s0 := HQ5.out.pm.bl.cell 0
                 have r7 := HQ5.out.br.cell 7
                 have i0 := HQ5.out.bi.cell 0
                 have zt := HQ5.out.pm.bt.lt
                 have zs := HQ5.out.pm.bl.lt
                 have zr := HQ5.out.br.lt
                 have zi := HQ5.out.bi.lt
                 simp only [List.getElem?_toArray, List.getElem?_cons_succ, List.getElem?_cons_zero] at t0 s0 r7 i0
                 clear f5
                 cases hA : mvsR sg sl after with
                 | false =>
                   have HV3 := Lib.hid (HVF.out (by rw [HRW3.out, hA]; rfl))
                   rw [hA] at HMA
                   clear hA
                   go_wp2_with fail
                   refine (HMA.out _ HF5.out).mono ?_
                   rintro e w6 ⟨rfl, f6⟩
                   have HF6 := Lib.hid (HQ5.out.pm.fr.trans f6)
                   clear f6
                   go_wp2
                   go_ret
                   exact ⟨ret_b HV3.out.symm, HF6.out⟩
                 | true =>
                   rw [hA] at HMA HRW3
                   clear hA
                   go_wp2_with fail
                   refine (HMA.out _ HF5.out).mono ?_
                   rintro e w6 ⟨rfl, f6⟩
                   have HQ6 := Lib.hid (HQ5.out.keep f6)
                   have r7 := HQ6.out.br.cell 7
                   have i0 := HQ6.out.bi.cell 0
                   have zr := HQ6.out.br.lt
                   have zi := HQ6.out.bi.lt
                   simp only [List.getElem?_toArray, List.getElem?_cons_succ, List.getElem?_cons_zero] at r7 i0
                   clear f6
                   rcases (by omega : op = 8 ∨ op = 9 ∨ op = 10 ∨ (op ≠ 8 ∧ op ≠ 9 ∧ op ≠ 10)) with e8 | e8 | e8 | ⟨e8, e9, e10⟩
                   · by_cases hl0 : 0 < after.length
                     · have HV3 := Lib.hid (HVF.out (by rw [HRW3.out, decide_eq_true (by omega : op = 8 ∨ op = 9 ∨ op = 10), decide_eq_true hl0]; rfl))
                       have hl1 : (0 : Int) < (after.length : Int) := by omega
                       subst e8
                       clear HVF HVT
                       go_wp2
                       go_ret
                       exact ⟨ret_b HV3.out.symm, HQ6.out.pm.fr⟩
                     · have HV3 := Lib.hid (HVT.out (by rw [HRW3.out, decide_eq_false hl0]; simp))
                       have hl1 : ¬ (0 : Int) < (after.length : Int) := by omega
                       subst e8
                       clear HVF HVT
                       go_wp2
                       go_roundw
                       case rel => exact ⟨k + 1, by omega, by go_num, HV3, Lib.hid HQ6.out.pm⟩
                       case measure => simp [intOf]; omega
                   · by_cases hl0 : 0 < after.length
                     · have HV3 := Lib.hid (HVF.out (by rw [HRW3.out, decide_eq_true (by omega : op = 8 ∨ op = 9 ∨ op = 10), decide_eq_true hl0]; rfl))
                       have hl1 : (0 : Int) < (after.length : Int) := by omega
                       subst e8
                       clear HVF HVT
                       go_wp2
                       go_ret
                       exact ⟨ret_b HV3.out.symm, HQ6.out.pm.fr⟩
                     · have HV3 := Lib.hid (HVT.out (by rw [HRW3.out, decide_eq_false hl0]; simp))
                       have hl1 : ¬ (0 : Int) < (after.length : Int) := by omega
                       subst e8
                       clear HVF HVT
                       go_wp2
                       go_roundw
                       case rel => exact ⟨k + 1, by omega, by go_num, HV3, Lib.hid HQ6.out.pm⟩
                       case measure => simp [intOf]; omega
                   · by_cases hl0 : 0 < after.length
                     · have HV3 := Lib.hid (HVF.out (by rw [HRW3.out, decide_eq_true (by omega : op = 8 ∨ op = 9 ∨ op = 10), decide_eq_true hl0]; rfl))
                       have hl1 : (0 : Int) < (after.length : Int) := by omega
                       subst e8
                       clear HVF HVT
                       go_wp2
                       go_ret
                       exact ⟨ret_b HV3.out.symm, HQ6.out.pm.fr⟩
                     · have HV3 := Lib.hid (HVT.out (by rw [HRW3.out, decide_eq_false hl0]; simp))
                       have hl1 : ¬ (0 : Int) < (after.length : Int) := by omega
                       subst e8
                       clear HVF HVT
                       go_wp2
                       go_roundw
                       case rel => exact ⟨k + 1, by omega, by go_num, HV3, Lib.hid HQ6.out.pm⟩
                       case measure => simp [intOf]; omega
                   · have HV3 := Lib.hid (HVT.out (by rw [HRW3.out, decide_eq_false (by omega : ¬ (op = 8 ∨ op = 9 ∨ op = 10))]; rfl))
                     have q8 : (op == 8) = false := by simpa using e8
                     have q9 : (op == 9) = false := by simpa using e9
                     have q10 : (op == 10) = false := by simpa using e10
                     clear HVF HVT e8 e9 e10
                     go_wp2
                     go_roundw
                     case rel => exact ⟨k + 1, by omega, by go_num, HV3, Lib.hid HQ6.out.pm⟩
                     case measure => simp [intOf]; omega
         · obtain rfl : k = p.code.length := by omega
           have HV3 : Hid (mayLR p sg ⟨sl, rows⟩ = true) := by show _ = _; rw [HV2.out]; exact rrTo_all hto.out
           go_wp2
           go_ret
           exact ⟨ret_b HV3.out.symm, hm.out.fr⟩
     · have HV2 : Hid (mayLR p sg ⟨sl, rows⟩ = false) := by
         show _ = _
         rw [HV.out]
         by_cases e0 : 0 ≤ sl
         · by_cases e1 : sl ≤ 12
           · rw [decide_eq_false (fun e2 => hs ⟨e0, e1, e2⟩ : ¬ lv.length = p.code.length)]; simp
           · rw [decide_eq_false e1]; simp
         · rw [decide_eq_false e0]; simp
       rcases (by omega : sl < 0 ∨ (0 ≤ sl ∧ 12 < sl) ∨ (0 ≤ sl ∧ sl ≤ 12 ∧ ¬ (lv.length : Int) = (p.code.length : Int))) with g0 | ⟨g0, g1⟩ | ⟨g0, g1, g2⟩
       · clear HV hmay htg hs
         go_wp2
         go_ret
         exact ⟨ret_b HV2.out.symm, HM2.out.fr⟩
       · clear HV hmay htg hs
         go_wp2
         go_ret
         exact ⟨ret_b HV2.out.symm, HM2.out.fr⟩
       · have hne : ((lv.length : Int) != (p.code.length : Int)) = true := by simpa using g2
         clear HV hmay htg hs
         go_wp2
         go_ret
         exact ⟨ret_b HV2.out.symm, HM2.out.fr⟩
end Go.Proofs.Ytodmkjeankbieab


namespace Go.Proofs.Ytodmkjeankbieab
open Go.RowKit Go.Sort Go.Maps

theorem of8_may (R : Nat → Prop) (v : Value) (p : Pg) (sg sl : Nat) (l : Pd) (w : World) (h : RdPg w R v p) (hm : mayL p sg l = true) (hsl : l.slots = (sl : Int)) :
   Calls Try.prog 64 #[v, .agg #[.int .i64 (sg : Int)], .int .i64 (sl : Int)] w (Of8Post w p sg sl) := by
 have hC := fcnd_of hm hsl
 exact of8_any _ v p sg sl w h.old hC.w1 hC.w hC.c1 hC.c hC.s hC.l h.numOk (fun x hx => hx)

set_option maxHeartbeats 4000000 in
set_option maxRecDepth 100000 in
theorem takes8_any (R R' : Nat → Prop) (v vl : Value) (p : Pg) (sg : Int) (l : Pd) (w : World) (h : RdPg w R v p) (hL : RdPd w R' vl l) :
   Calls Try.prog 28 #[v, tgV sg, vl] w (TakesPost w p sg l) := by
 have H := Lib.hid h
 have HL := Lib.hid hL
 obtain ⟨vw, vc, rfl, ⟨A1, c1, rfl, hl1, hr1⟩, ⟨A, c2, rfl, hl2, hr2, ho2⟩⟩ := h
 obtain ⟨vr, lv, rfl, hsl, ⟨Al, cl, rfl, hlr, hrr, hor⟩, hrows⟩ := hL
 clear hr1 hr2 ho2 hrr hor hrows hsl
 have HMy := Lib.hid (fun w2 (hf : Fr w w2) => refPlaceMay_any R R' _ _ p sg l w2 (H.out.kept hf (fun _ _ h => h)) (HL.out.kept hf (fun _ _ h => h)))
 rw [← mayL_eq] at HMy
 have HQ := Lib.hid (Q3.start w #[.slice A1 p.wide.length c1, .slice A p.code.length c2] #[.int .i64 sg] #[.int .i64 l.slots, .slice Al lv.length cl])
 unfold tgV at HMy ⊢
 go_enter Try.func28, Try.ntmps28
 go_wp2_with fail
 refine (HMy.out _ HQ.out.fr).mono ?_
 rintro e w2 ⟨rfl, f2⟩
 have HQ2 := Lib.hid (HQ.out.keep f2)
 clear HQ f2 HMy
 cases hm : mayL p sg l with
 | false =>
   have HM := Lib.hid hm
   clear hm
   go_wp2
   go_ret
   exact ⟨false, rfl, iff_of_false (by decide) (fun h => by rw [HM.out] at h; cases h.1), HQ2.out.fr⟩
 | true =>
   have HM := Lib.hid hm
   obtain ⟨m1, m2, m3, m4, m5⟩ := mayL_facts hm
   obtain ⟨t1, t2, t3⟩ := tg_facts m2
   clear hm m1 m2 m5
   obtain ⟨sgn, rfl⟩ : ∃ n : Nat, sg = (n : Int) := ⟨sg.toNat, by omega⟩
   obtain ⟨sl, hsl⟩ : ∃ n : Nat, l.slots = (n : Int) := ⟨l.slots.toNat, by omega⟩
   have HSL := Lib.hid hsl
   have HOF := Lib.hid (fun w3 (hf : Fr w w3) => of8_may R _ p sgn sl l w3 (H.out.kept hf (fun _ _ h => h)) HM.out HSL.out)
   have HLL := Lib.hid (show ∀ w3, Fr w w3 → RdPd w3 R' (.agg #[.int .i64 (sl : Int), .slice Al lv.length cl]) l from fun w3 hf => by rw [← HSL.out]; exact HL.out.kept hf (fun _ _ h => h))
   rw [hsl] at HQ2
   clear hsl m3 m4 HL
   have q0 := HQ2.out.b0.cell 0
   have q1 := HQ2.out.b0.cell 1
   have t0 := HQ2.out.b1.cell 0
   have s0 := HQ2.out.b2.cell 0
   have s1 := HQ2.out.b2.cell 1
   have z0 := HQ2.out.b0.lt
   have z1 := HQ2.out.b1.lt
   have z2 := HQ2.out.b2.lt
   simp only [List.getElem?_toArray, List.getElem?_cons_succ, List.getElem?_cons_zero] at q0 q1 t0 s0 s1
   have HDEF : Hid (∀ (e : Ending) (w' : World), (∃ b : Bool, e = .returned (.bool b) ∧ (b = true ↔ (mayL p sgn l = true ∧ Taken p sgn l)) ∧ Fr w w') → TakesPost w p sgn l e w') := fun _ _ h => h
   go_wp2_with fail
   refine (HOF.out _ HQ2.out.fr).mono ?_
   rintro e w3 ⟨vw8, vc8, Aa, ca, vst, vn, ns, rfl, hW, hC, hvn, f3⟩
   obtain ⟨vw9, vc9, e9, ⟨Aw, cw, rfl, _, _⟩, ⟨Ac, cc, rfl, _, _, _⟩⟩ := id hW.pg
   simp only [Value.agg.injEq, Array.mk.injEq, List.cons.injEq, and_true] at e9
   obtain ⟨rfl, rfl⟩ := e9
   obtain ⟨bs, os, cs, vss, rfl, _, _⟩ := hW.st.ex
   obtain ⟨An, nn, cn, rfl⟩ := hvn
   have f34 : Fr w3 (w3.alloc (.cells #[.slice Aw p.wide.length cw, .slice Ac p.code.length cc, .slice Aa (allFs p ns sgn sl).length ca, .slice (some ⟨bs, os, none⟩) 4 cs, .slice An nn cn] 121)) := (Kept.refl _ w3).alloc _
   have HQ4 := Lib.hid ((HQ2.out.keep f3).keep f34)
   have HB8 := Lib.hid (Blk.new w3 121 #[.slice Aw p.wide.length cw, .slice Ac p.code.length cc, .slice Aa (allFs p ns sgn sl).length ca, .slice (some ⟨bs, os, none⟩) 4 cs, .slice An nn cn])
   have HST := Lib.hid (sets8_any _ _ _ Aa ca _ _ p ns sgn sl R' _ l _ (hW.fr f34) hC (HLL.out _ HQ4.out.fr) HM.out HSL.out)
   clear HQ2 HOF HLL hW hC f3 f34 q0 q1 t0 s0 s1 z0 z1 z2
   generalize (allFs p ns sgn sl) = all at *
   have s0 := HQ4.out.b2.cell 0
   have s1 := HQ4.out.b2.cell 1
   have z2 := HQ4.out.b2.lt
   simp only [List.getElem?_toArray, List.getElem?_cons_succ, List.getElem?_cons_zero] at s0 s1
   go_wp2_with fail
   refine HST.out.mono ?_
   rintro e w5 ⟨g, gc, bk, S, c, tk, rfl, _, _, _, ⟨_, _, hok⟩, f5⟩
   have HF := Lib.hid (HQ4.out.fr.trans f5)
   have HOK : Hid (tk = true ↔ (mayL p sgn l = true ∧ Taken p sgn l)) := ⟨fun h => ⟨HM.out, hok.1 h⟩, fun h => hok.2 h.2⟩
   clear hok f5 s0 s1 z2
   go_wp2
   go_ret
   exact HDEF.out _ _ ⟨tk, rfl, HOK.out, HF.out⟩
end Go.Proofs.Ytodmkjeankbieab

