/- Texts of this claim, packed. -/
import Derived.Test.YtodmkjeankbieaaGreatDoorKAllk21
set_option linter.all false
namespace Go.Proofs.YtodmkjeankbieaaGreatDoor
open Go.RowKit Go.Sort

def NearPostC (w : World) (p : Pg) (e : Ending) (w' : World) : Prop :=
 Fr w w' ∧ ((mayB p = false ∧ e = .returned (.tuple #[.slice none 0 0, .int .i64 2])) ∨
   (mayB p = true ∧ ∃ (g0 rb : Nat) (f : Nat → Nat → Bool), e = .returned (.tuple #[.slice (some ⟨g0, 0, none⟩) p.wide.length p.wide.length, .int .i64 0]) ∧
     (∀ a, a < p.wide.length → w'.cell? ⟨g0, a, none⟩ = some (.slice (some ⟨rb + a, 0, none⟩) p.wide.length p.wide.length)) ∧
     (∀ a b, a < p.wide.length → b < p.wide.length → w'.cell? ⟨rb + a, b, none⟩ = some (.bool (f a b))) ∧ matL p.wide.length p.wide.length f = nearM p))
theorem NrMem.cellsC {wr : World} {nv g0 rb W : Nat} {f : Nat → Nat → Bool} (h : NrMem wr nv g0 rb W W f) :
   (∀ a, a < W → wr.cell? ⟨g0, a, none⟩ = some (.slice (some ⟨rb + a, 0, none⟩) W W)) ∧ (∀ a b, a < W → b < W → wr.cell? ⟨rb + a, b, none⟩ = some (.bool (f a b))) := by
 refine ⟨fun a ha => ?_, fun a b ha hb => ?_⟩
 · rw [h.ob.cell, mkS_at ha, if_pos ha]
 · rw [(h.row a ha).cell, mkB_at hb]

set_option maxHeartbeats 8000000 in
set_option maxRecDepth 100000 in
theorem nearOf_cap (R : Nat → Prop) (v : Value) (p : Pg) (w : World) (h : RdPg w R v p) : Calls Tryz.prog 10 #[v] w (NearPostC w p) := by
 have H := Lib.hid h
 obtain ⟨vw, vc, rfl, ⟨A, c, rfl, hl, hr⟩, ⟨A', c', rfl, hl', hr', ho'⟩⟩ := h
 unfold maxLen at hl hl'
 clear hr hr' ho'
 have B0 := Lib.hid (Blk.new w 28 #[.slice A p.wide.length c, .slice A' p.code.length c'])
 have F0 := Lib.hid (show Fr w (w.alloc (.cells #[.slice A p.wide.length c, .slice A' p.code.length c'] 28)) from (Kept.refl _ w).alloc _)
 go_enter Tryz.func10, Tryz.ntmps10
 go_wp2_with fail
 refine (liveOf_any R _ p _ (H.out.kept F0.out (fun _ _ h => h))).mono ?_
 rintro e w1 ⟨f1, he⟩
 have HF1 := Lib.hid (F0.out.trans f1)
 have HB1 := Lib.hid (B0.out.kept f1 (fun h => h))
 have z1 := HB1.out.lt
 have c0 := HB1.out.cell 0
 have c1 := HB1.out.cell 1
 simp only [List.getElem?_toArray, List.getElem?_cons_succ, List.getElem?_cons_zero] at c0 c1
 clear f1
 rcases he with ⟨hm, rfl⟩ | ⟨hm, gl, rfl, hnd⟩
 · have HMay := Lib.hid hm
   clear hm
   go_wp2
   go_ret2
   exact ⟨HF1.out, Or.inl ⟨HMay.out, rfl⟩⟩
 · have HMay := Lib.hid hm
   obtain ⟨l1, l2, l3, l4⟩ := mayB_len hm
   have HND := Lib.hid (show RdM w1 (fun b => w.heap.size < b ∧ b < w1.heap.size) (.slice (some ⟨gl, 0, none⟩) p.code.length p.code.length) (needM p) from by
     obtain ⟨A5, c5, vs5, e5, hl5, hr5, hrow5⟩ := hnd.old
     exact ⟨A5, c5, vs5, e5, hl5, hr5.more (fun b hb => ⟨by have := hb.1; simp at this; omega, hb.2⟩), fun k row hk => let ⟨v5, h5, A6, c6, e6, hl6, hr6⟩ := hrow5 k row hk; ⟨v5, h5, A6, c6, e6, hl6, hr6.more (fun b hb => ⟨by have := hb.1; simp at this; omega, hb.2⟩)⟩⟩)
   clear hm hnd
   have hmr := run_make_rows p.wide.length (by omega)
   have hmk := run_make_bools p.wide.length (by omega)
   have hN0 : NrMem ((w1.alloc (.cells (mkS p.wide.length fun _ => .slice none 0 0) 25)).alloc (.cells #[.slice (some ⟨w1.heap.size, 0, none⟩) p.wide.length p.wide.length] 39)) (w1.heap.size + 1) w1.heap.size (w1.heap.size + 2) p.wide.length 0 (fun _ _ => false) := by
     refine ⟨?_, (Blk.new w1 _ _).alloc _, fun k hk => by omega⟩
     have := Blk.new (w1.alloc (.cells (mkS p.wide.length fun _ => .slice none 0 0) 25)) 39 #[.slice (some ⟨w1.heap.size, 0, none⟩) p.wide.length p.wide.length]
     simpa using this
   have HN0 := Lib.hid hN0
   have HF2 := Lib.hid (show Fr w1 ((w1.alloc (.cells (mkS p.wide.length fun _ => .slice none 0 0) 25)).alloc (.cells #[.slice (some ⟨w1.heap.size, 0, none⟩) p.wide.length p.wide.length] 39)) from ((Kept.refl _ w1).alloc _).alloc _)
   clear hN0
   go_wp2
   go_loopw [31] (fun i wr => ∃ j : Nat, j ≤ p.wide.length ∧ i = .int .i64 j ∧ Hid (NrMem wr (w1.heap.size + 1) w1.heap.size (w1.heap.size + 2) p.wide.length j (fun _ _ => false)) ∧ Hid (Fr w1 wr) ∧ Hid (wr.heap.size = w1.heap.size + 2 + j)) (fun i _ => p.wide.length - (intOf i).toNat)
   case atStart => exact ⟨0, Nat.zero_le _, rfl, HN0, HF2, by show _ = _; simp⟩
   case round =>
     obtain ⟨j, hj, rfl, hn, hf, hsz⟩ := hrel
     clear HN0 HF2 c0 c1
     have hB := HB1.out.kept hf.out (fun h => h)
     have c0 := hB.cell 0
     have c1 := hB.cell 1
     have zb := hB.lt
     have n0 := hn.out.nb.cell 0
     have zn := hn.out.nb.lt
     have zo := hn.out.ob.lt
     simp only [List.getElem?_toArray, List.getElem?_cons_succ, List.getElem?_cons_zero] at c0 c1 n0
     by_cases hlt : j < p.wide.length
     · have o0 := hn.out.ob.cell j
       rw [mkS_at hlt, if_neg (by omega)] at o0
       have y0 := hn.out.ob.frozen j
       have hj0 : (0 : Int) ≤ (j : Int) := Int.natCast_nonneg _
       have hj1 : (j : Int) < (p.wide.length : Int) := by omega
       clear hB
       go_wp2
       go_region
       have HN1 := Lib.hid (hn.out.more hsz.out hlt)
       have HF3 : Hid (Fr w1 ((wr.setCell ⟨w1.heap.size, j, none⟩ (.slice (some ⟨wr.heap.size, 0, none⟩) p.wide.length p.wide.length)).alloc (.cells (mkB p.wide.length fun _ => false) 4)).drew) :=
         ((hf.out.setCell (fun e => by simp only at e; omega) _).alloc _).drew
       have HS3 : Hid (((wr.setCell ⟨w1.heap.size, j, none⟩ (.slice (some ⟨wr.heap.size, 0, none⟩) p.wide.length p.wide.length)).alloc (.cells (mkB p.wide.length fun _ => false) 4)).drew.heap.size = w1.heap.size + 2 + (j + 1)) := by
         have := hsz.out
         show _ = _
         simp [World.drew, World.setCell]
         omega
       go_wp2
       go_roundw
       case rel => exact ⟨j + 1, by omega, by go_num, HN1, HF3, HS3⟩
       case measure => simp [intOf]; omega
     · obtain rfl : j = p.wide.length := by omega
       have HM0 := Lib.hid (show NoMem w wr (.slice A p.wide.length c) (.slice A' p.code.length c') w1.heap.size p.wide.length gl p (fun _ _ => false) from
         ⟨hB, hn.out, HND.out.kept hf.out (fun _ _ h => h), HF1.out.trans hf.out, z1⟩)
       have HK0 := Lib.hid (NearK.zero (code := p.code) (M := needB p.code) (W := p.wide.length))
       have hmf : ∀ (fn : Fn) (first cap : Array Value) (w : World), (Instr.makeFunc fn first cap).run Tryz.prog w = .ok (.func fn first cap) w := fun _ _ _ _ => rfl
       clear hn hf hsz hB
       clear hmr hmk
       obtain ⟨wo, rfl⟩ : ∃ wo : World, wo = wr := ⟨_, rfl⟩
       go_wp2
       go_loopw [46] (fun i wr => ∃ (k : Nat) (f : Nat → Nat → Bool), k ≤ p.code.length ∧ i = .int .i64 k ∧ Hid (NearK p.code (needB p.code) p.wide.length k f) ∧ Hid (NoMem w wr (.slice A p.wide.length c) (.slice A' p.code.length c') w1.heap.size p.wide.length gl p f)) (fun i _ => p.code.length - (intOf i).toNat)
       case atStart => exact ⟨0, _, Nat.zero_le _, rfl, HK0, HM0⟩
       case round =>
         obtain ⟨k, f, hk, rfl, hnk, hm⟩ := hrel
         clear HM0 HK0 c0 c1 n0 zb zn zo
         have c0 := hm.out.bp.cell 0
         have c1 := hm.out.bp.cell 1
         have zb := hm.out.bp.lt
         simp only [List.getElem?_toArray, List.getElem?_cons_succ, List.getElem?_cons_zero] at c0 c1
         by_cases hlt : k < p.code.length
         · have hx : p.code[k]? = some (inAt p.code k) := by rw [inAt_get hlt]; exact List.getElem?_eq_getElem hlt
           obtain ⟨b3, o3, hA3, _, d0, d1, d2, d3, d4, d5⟩ := ((pg_code H.out).kept hm.out.fr (fun _ _ h => h)).ins hx
           subst hA3
           have hI := mayB_ins HMay.out (inAt_mem hlt)
           obtain ⟨⟨ha0, ha1⟩, ⟨hb0, hb1⟩, ⟨hd0, hd1⟩, hc0⟩ := ins_fields hI l1
           have hkn := (insOk hI).kn
           have hb3 := cell_lt d0
           have hk0 : (0 : Int) ≤ (k : Int) := Int.natCast_nonneg _
           have hk1 : (k : Int) < (p.code.length : Int) := by omega
           have HNO := Lib.hid (fun (h : gvs (inAt p.code k).op = false) => hnk.out.none h)
           have HYES := Lib.hid (fun (t d : Nat) (f : Nat → Nat → Bool) (h : NearT p.code (needB p.code) p.wide.length k t f) (hg : gvs (inAt p.code k).op = true) (hd : (inAt p.code k).d = (d : Int)) (hb : behindM p.code (needB p.code) k t = true) (hm : ¬ ((inAt p.code k).op = 2 ∧ (inAt p.code k).a = (t : Int))) => h.yes hg hd hb hm)
           have HNT := Lib.hid (fun (t : Nat) (f : Nat → Nat → Bool) (h : NearT p.code (needB p.code) p.wide.length k t f) (hn : ¬ (behindM p.code (needB p.code) k t = true ∧ ¬ ((inAt p.code k).op = 2 ∧ (inAt p.code k).a = (t : Int)))) => h.no hn)
           clear hx hI
           generalize hii : inAt p.code k = i at *
           clear hii
           obtain ⟨op, d, a, bb, cc, n⟩ := i
           simp only at *
           obtain ⟨dn, rfl⟩ : ∃ dn : Nat, d = (dn : Int) := ⟨d.toNat, by omega⟩
           have HGv := Lib.hid (fun w => Gives_any (⟨op, dn, a, bb, cc, n⟩ : In) w hkn)
           unfold In.val at HGv
           simp only at HGv
           obtain ⟨wB, rfl⟩ : ∃ wB : World, wB = wr := ⟨_, rfl⟩
           have HBe := Lib.hid (fun w2 (hf : Fr wB w2) => Behind_any R _ _ _ p (needM p) k w2 (H.out.kept (hm.out.fr.trans hf) (fun _ _ h => h)) (hm.out.keep hf).nd (matL_ok (M := needB p.code)) HMay.out hlt)
           have BI := Lib.hid (Blk.new wB 45 #[.int .i64 op, .int .i64 dn, .int .i64 a, .int .i64 bb, .int .i64 cc, .int .u32 n])
           have HMA := Lib.hid (hm.out.keep ((Kept.refl _ wB).alloc (.cells #[.int .i64 op, .int .i64 dn, .int .i64 a, .int .i64 bb, .int .i64 cc, .int .u32 n] 45)))
           have hbig : w1.heap.size + 2 + p.wide.length ≤ wB.heap.size := by
             have := (hm.out.nr.row (p.wide.length - 1) (by omega)).lt
             omega
           go_wp2_with fail
           refine (HGv.out _).mono ?_
           rintro e w3 ⟨rfl, f3⟩
           have HM3 := Lib.hid (HMA.out.keep f3)
           have BI3 := Lib.hid (BI.out.kept f3 (fun h => h))
           have HF3 := Lib.hid (((Kept.refl _ wB).alloc (.cells #[.int .i64 op, .int .i64 dn, .int .i64 a, .int .i64 bb, .int .i64 cc, .int .u32 n] 45)).trans f3)
           clear f3 HGv
           cases hg : gvs op with
           | false =>
             have HN1 := Lib.hid (HNO.out hg)
             clear hg
             go_wp2
             go_roundw
             case rel => exact ⟨k + 1, f, by omega, by go_num, HN1, HM3⟩
             case measure => simp [intOf]; omega
           | true =>
             have HG := Lib.hid hg
             clear hg HNO
             have c0 := HM3.out.bp.cell 0
             have c1 := HM3.out.bp.cell 1
             have zb := HM3.out.bp.lt
             simp only [List.getElem?_toArray, List.getElem?_cons_succ, List.getElem?_cons_zero] at c0 c1
             go_wp2_with fail
             refine (HBe.out _ HF3.out).mono ?_
             rintro e w4 ⟨g, rfl, hge, hbR, f4⟩
             have HM4 := Lib.hid (HM3.out.keep f4)
             have BI4 := Lib.hid (BI3.out.kept f4 (fun h => h))
             have hbR' : Blk w4 g 4 (mkB p.wide.length (behindM p.code (needB p.code) k)) := by
               have e : mkB p.wide.length (behindM p.code (mfn (needM p)) k) = mkB p.wide.length (behindM p.code (needB p.code) k) := mkB_congr (fun t ht => behind_matL (code := p.code) (W := p.wide.length) (k := k) (M := needB p.code) ht)
               rw [e] at hbR
               exact hbR
             have HR4 := Lib.hid hbR'
             have hgB : wB.heap.size ≤ g := by have := HF3.out.size; omega
             have HT0 := Lib.hid hnk.out.toT
             clear f4 hbR hbR' HBe
             go_wp2
             obtain ⟨wq, rfl⟩ : ∃ wq : World, wq = w4 := ⟨_, rfl⟩
             go_loopw [59] (fun i wr => ∃ (t : Nat) (f : Nat → Nat → Bool), t ≤ p.wide.length ∧ i = .int .i64 t ∧ Hid (NearT p.code (needB p.code) p.wide.length k t f) ∧ Hid (NoMem w wr (.slice A p.wide.length c) (.slice (some ⟨b3, o3, none⟩) p.code.length c') w1.heap.size p.wide.length gl p f) ∧ Hid (Blk wr wB.heap.size 45 #[.int .i64 op, .int .i64 dn, .int .i64 a, .int .i64 bb, .int .i64 cc, .int .u32 n]) ∧
               Hid (Blk wr g 4 (mkB p.wide.length (behindM p.code (needB p.code) k)))) (fun i _ => p.wide.length - (intOf i).toNat)
             case atStart => exact ⟨0, f, Nat.zero_le _, rfl, HT0, HM4, BI4, HR4⟩
             case round =>
               obtain ⟨t, f2, ht, rfl, hnt, hm2, hi2, hr2⟩ := hrel
               clear HT0 HM4 BI4 HR4 c0 c1 zb
               by_cases htl : t < p.wide.length
               · have r0 := hr2.out.bcell htl
                 have zr := hr2.out.lt
                 have e0 := hi2.out.cell 0
                 have e1 := hi2.out.cell 1
                 have e2 := hi2.out.cell 2
                 have zi := hi2.out.lt
                 have ht0 : (0 : Int) ≤ (t : Int) := Int.natCast_nonneg _
                 have ht1 : (t : Int) < (p.wide.length : Int) := by omega
                 simp only [List.getElem?_toArray, List.getElem?_cons_succ, List.getElem?_cons_zero] at e0 e1 e2
                 have HN2 := Lib.hid (HNT.out t f2 hnt.out)
                 have HY2 := Lib.hid (HYES.out t dn f2 hnt.out HG.out rfl)
                 cases hb : behindM p.code (needB p.code) k t with
                 | false =>
                   have HX := Lib.hid (HN2.out (fun h => by rw [hb] at h; cases h.1))
                   rw [hb] at r0
                   clear hb HN2 HY2
                   go_wp2
                   go_roundw
                   case rel => exact ⟨t + 1, f2, by omega, by go_num, HX, hm2, hi2, hr2⟩
                   case measure => simp [intOf]; omega
                 | true =>
                   by_cases hoa : op = 2 ∧ a = (t : Int)
                   · have HX := Lib.hid (HN2.out (fun h => h.2 hoa))
                     obtain ⟨eo, ea⟩ := hoa
                     have eo' : (op != 2) = false := by simpa using eo
                     have ea' : ((t : Int) != a) = false := by simpa using ea.symm
                     rw [hb] at r0
                     clear hb HN2 HY2 eo ea
                     go_wp2
                     go_roundw
                     case rel => exact ⟨t + 1, f2, by omega, by go_num, HX, hm2, hi2, hr2⟩
                     case measure => simp [intOf]; omega
                   · have HX := Lib.hid (HY2.out hb hoa)
                     have HC := Lib.hid (near1_any _ _ _ _ dn t f2 _ hm2.out.nr (by omega) htl (by omega))
                     rw [hb] at r0
                     have hcs : (op != 2) = true ∨ ((op != 2) = false ∧ ((t : Int) != a) = true) := by
                       by_cases eo : op = 2
                       · exact Or.inr ⟨by simpa using eo, by simpa using fun h => hoa ⟨eo, h.symm⟩⟩
                       · exact Or.inl (by simpa using eo)
                     clear hb HN2 HY2 hoa
                     rcases hcs with eo | ⟨eo, ea⟩
                     all_goals
                       go_wp2_with fail
                       refine HC.out.mono ?_
                       rintro e w5 ⟨rfl, hn5, hk5⟩
                       have HM5 := Lib.hid (hm2.out.put hn5 hk5)
                       have HI5 := Lib.hid (hi2.out.kept hk5 (by omega))
                       have HR5 := Lib.hid (hr2.out.kept hk5 (by omega))
                       go_wp2
                     · go_roundw
                       case rel => exact ⟨t + 1, _, by omega, by go_num, HX, HM5, HI5, HR5⟩
                       case measure => simp [intOf]; omega
                     · go_roundw
                       case rel => exact ⟨t + 1, _, by omega, by go_num, HX, HM5, HI5, HR5⟩
                       case measure => simp [intOf]; omega
               · obtain rfl : t = p.wide.length := by omega
                 have HX := Lib.hid hnt.out.toK
                 go_wp2
                 go_roundw
                 case rel => exact ⟨k + 1, f2, by omega, by go_num, HX, hm2⟩
                 case measure => simp [intOf]; omega
         · obtain rfl : k = p.code.length := by omega
           have HA0 := Lib.hid hnk.out.toA
           obtain ⟨bg, og, cg, u, hv, hR0, hl0, hcell, hbo⟩ := hm.out.nd.row (k := 0) (row := (List.range p.wide.length).map (needB p.code 0)) (matL_at (M := needB p.code) (by omega))
           obtain ⟨A0, cz, ru, _, hrz⟩ := hbo
           simp only [Value.slice.injEq, Option.some.injEq, Addr.mk.injEq, and_true] at hv
           obtain ⟨⟨hv1, hv2⟩, hv3⟩ := hv
           clear hv3
           subst hv1; subst hv2
           rw [show ((List.range p.wide.length).map (needB p.code 0)).length = p.wide.length by simp] at ru hrz
           obtain ⟨bb, ob, rfl, hRb, hcb⟩ := hrz.2 (by omega)
           subst ru
           have hcb' : ∀ j, j < p.wide.length → wr.cell? ⟨bb, ob + j, none⟩ = some (.bool (needB p.code 0 j)) := fun j hj => hcb j _ (by simp [List.getElem?_range hj])
           have HR0 := Lib.hid (show Row0 wr gl w1.heap.size bb ob p.wide.length cz (needB p.code 0) from ⟨hcell, hcb', hR0.2, hRb.2, hl0, cell_lt (hcb' 0 (by omega))⟩)
           clear hcell hcb hcb' hrz hR0 hRb hl0
           have g0' := HR0.out.ptr
           have zg := HR0.out.h1
           obtain ⟨wq, rfl⟩ : ∃ wq : World, wq = wr := ⟨_, rfl⟩
           go_wp2
           go_loopw [87] (fun i wr => ∃ (x : Nat) (f : Nat → Nat → Bool), x ≤ p.wide.length ∧ i = .int .i64 x ∧ Hid (NearA p.code (needB p.code) p.wide.length x 0 f) ∧ Hid (NoMem w wr (.slice A p.wide.length c) (.slice A' p.code.length c') w1.heap.size p.wide.length gl p f) ∧ Hid (Row0 wr gl w1.heap.size bb ob p.wide.length cz (needB p.code 0))) (fun i _ => p.wide.length - (intOf i).toNat)
           case atStart => exact ⟨0, f, Nat.zero_le _, rfl, HA0, hm, HR0⟩
           case round =>
             obtain ⟨x, f2, hx, rfl, hna, hm2, hr0⟩ := hrel
             clear HA0 HR0 g0' zg c0 c1 zb
             have g0' := hr0.out.ptr
             have zg := hr0.out.h1
             have zb := hr0.out.h2
             by_cases hxl : x < p.wide.length
             · have x0 := hr0.out.cell x hxl
               have hx0 : (0 : Int) ≤ (x : Int) := Int.natCast_nonneg _
               have hx1 : (x : Int) < (p.wide.length : Int) := by omega
               obtain ⟨wq2, rfl⟩ : ∃ wq2 : World, wq2 = wr := ⟨_, rfl⟩
               go_wp2
               go_loopw [96] (fun i wr => ∃ (y : Nat) (f : Nat → Nat → Bool), y ≤ p.wide.length ∧ i = .int .i64 y ∧ Hid (NearA p.code (needB p.code) p.wide.length x y f) ∧ Hid (NoMem w wr (.slice A p.wide.length c) (.slice A' p.code.length c') w1.heap.size p.wide.length gl p f) ∧ Hid (Row0 wr gl w1.heap.size bb ob p.wide.length cz (needB p.code 0))) (fun i _ => p.wide.length - (intOf i).toNat)
               case atStart => exact ⟨0, f2, Nat.zero_le _, rfl, hna, hm2, hr0⟩
               case round =>
                 obtain ⟨y, f3, hy, rfl, hna2, hm3, hr3⟩ := hrel
                 clear x0 g0' zg zb
                 have zb := hr3.out.h2
                 by_cases hyl : y < p.wide.length
                 · have y0 := hr3.out.cell y hyl
                   have hy0 : (0 : Int) ≤ (y : Int) := Int.natCast_nonneg _
                   have hy1 : (y : Int) < (p.wide.length : Int) := by omega
                   cases hbx : needB p.code 0 x with
                   | false =>
                     have HX := Lib.hid (hna2.out.no (fun h => by rw [hbx] at h; cases h.1))
                     clear hbx
                     go_wp2
                     go_roundw
                     case rel => exact ⟨y + 1, f3, by omega, by go_num, HX, hm3, hr3⟩
                     case measure => simp [intOf]; omega
                   | true =>
                     cases hby : needB p.code 0 y with
                     | false =>
                       have HX := Lib.hid (hna2.out.no (fun h => by rw [hby] at h; cases h.2))
                       rw [hby] at y0
                       clear hbx hby
                       go_wp2
                       go_roundw
                       case rel => exact ⟨y + 1, f3, by omega, by go_num, HX, hm3, hr3⟩
                       case measure => simp [intOf]; omega
                     | true =>
                       have HX := Lib.hid (hna2.out.yes hbx hby)
                       have HC := Lib.hid (near1_any _ _ _ _ x y f3 _ hm3.out.nr hxl hyl (by omega))
                       rw [hby] at y0
                       clear hbx hby
                       go_wp2_with fail
                       refine HC.out.mono ?_
                       rintro e w5 ⟨rfl, hn5, hk5⟩
                       have HM5 := Lib.hid (hm3.out.put hn5 hk5)
                       have HR5 := Lib.hid (hr3.out.keep hk5 (fun k hk => by omega))
                       go_wp2
                       go_roundw
                       case rel => exact ⟨y + 1, _, by omega, by go_num, HX, HM5, HR5⟩
                       case measure => simp [intOf]; omega
                 · obtain rfl : y = p.wide.length := by omega
                   have HX := Lib.hid hna2.out.next
                   go_wp2
                   go_roundw
                   case rel => exact ⟨x + 1, f3, by omega, by go_num, HX, hm3, hr3⟩
                   case measure => simp [intOf]; omega
             · obtain rfl : x = p.wide.length := by omega
               have HE := Lib.hid (nearM_eq (p := p) (f := f2) (fun a b ha hb => hna.out.all ha hb))
               have HQ := Lib.hid hm2.out.nr.cellsC
               have n0 := hm2.out.nr.nb.cell 0
               have zn := hm2.out.nr.nb.lt
               simp only [List.getElem?_toArray, List.getElem?_cons_succ, List.getElem?_cons_zero] at n0
               go_wp2
               go_ret2
               exact ⟨hm2.out.fr, Or.inr ⟨HMay.out, _, _, _, rfl, HQ.out.1, HQ.out.2, HE.out⟩⟩
end Go.Proofs.YtodmkjeankbieaaGreatDoor


namespace Go.Proofs.YtodmkjeankbieaaGreatDoor
open Go.RowKit Go.Sort Go.Lib

def cntR (f : Nat → Bool) : Nat → Nat
 | 0 => 0
 | b + 1 => cntR f b + if f b = true then 1 else 0
theorem cntR_le (f : Nat → Bool) : ∀ b, cntR f b ≤ b
 | 0 => Nat.le_refl _
 | b + 1 => by have := cntR_le f b; unfold cntR; split <;> omega
theorem count_range (f : Nat → Bool) : ∀ b, ((List.range b).map f).count true = cntR f b
 | 0 => rfl
 | b + 1 => by
   rw [List.range_succ, List.map_append, List.count_append, count_range f b]
   show _ = cntR f b + if f b = true then 1 else 0
   cases hb : f b
   · rw [show List.map f [b] = [false] from by rw [← hb]; rfl]; rfl
   · rw [show List.map f [b] = [true] from by rw [← hb]; rfl]; rfl
theorem aheadM_s {W : Nat} {f : Nat → Nat → Bool} {a : Nat} (h : a < W) : aheadM (matL W W f) (a + 1) = aheadM (matL W W f) a + cntR (f a) a := by
 have e : (matL W W f).getD a [] = (List.range W).map (f a) := by
   rw [List.getD_eq_getElem?_getD, matL_at h]; rfl
 have e2 : ((List.range W).map (f a)).take a = (List.range a).map (f a) := by
   rw [← List.map_take, List.take_range, Nat.min_eq_left (by omega)]
 show aheadM (matL W W f) a + (((matL W W f).getD a []).take a).count true = _
 rw [e, e2, count_range]

set_option maxHeartbeats 6400000 in
set_option maxRecDepth 100000 in
theorem dnear_any (w : World) (base r : Nat) (vw vc vi : Value) (g : PS) (hm : PlM w base r 65 vw vc vi g) (hv : Env w) :
   Calls Tryz.prog 48 #[.pointer (some ⟨r, 0, none⟩)] w fun e w' => e = .returned (.string (bA (nearF g))) ∧ Fr w w' := by
 have HM := Lib.hid hm
 have HV := Lib.hid hv
 have p0 := hm.blk.cell 0
 have p1 := hm.blk.cell 1
 have z0 := hm.blk.lt
 simp only [List.getElem?_toArray, List.getElem?_cons_succ, List.getElem?_cons_zero] at p0 p1
 have HNO := Lib.hid (nearOf_cap _ _ g.p w hm.rd)
 clear hm hv
 go_enter Tryz.func48, Tryz.ntmps48
 go_wp2_with fail
 refine HNO.out.mono ?_
 rintro e w1 ⟨f1, ⟨hmay, rfl⟩ | ⟨hmay, g0, rb, f, rfl, hrow, hcell, hM⟩⟩
 · have HE : Hid (nearF g = saidF badT [2]) := by show _ = _; unfold nearF; rw [if_pos hmay]
   have HF1 := Lib.hid f1
   have HS := Lib.hid (sayI1x badT ⟨#[98, 97, 100]⟩ rfl 2 2 rfl (by omega) (by decide) w1 (HV.out.kept f1) w1.heap.size rfl)
   clear f1 hmay
   go_wp2_with fail
   refine HS.out.mono ?_
   rintro e w2 ⟨rfl, f2⟩
   have HF2 := Lib.hid (HF1.out.trans f2)
   clear f2
   go_wp2
   go_ret
   rw [HE.out]
   exact ⟨rfl, HF2.out⟩
 · have hW : g.p.wide.length ≤ 12 := by
     unfold mayB at hmay
     simp only [Bool.and_eq_true, decide_eq_true_eq] at hmay
     exact hmay.1.1.2
   have HE : Hid (nearF g = decDigits (aheadM (matL g.p.wide.length g.p.wide.length f) g.p.wide.length)) := by show _ = _; unfold nearF; rw [if_neg (by rw [hmay]; simp), hM]
   have HF1 := Lib.hid f1
   have HR := Lib.hid hrow
   have HC := Lib.hid hcell
   clear f1 hmay hrow hcell hM
   have HAL := Lib.hid (aheadM_le (matL g.p.wide.length g.p.wide.length f))
   generalize hMM : matL g.p.wide.length g.p.wide.length f = M at *
   have HMM := Lib.hid hMM
   clear hMM
   generalize g.p.wide.length = W at *
   go_wp2
   go_loopw [25, 5] (fun i nv wr => ∃ a : Nat, a ≤ W ∧ i = .int .i64 a ∧ nv = .int .i64 (aheadM M a : Nat) ∧ w1 = wr) (fun i _ _ => W - (intOf i).toNat)
   case atStart => exact ⟨0, by omega, rfl, rfl, rfl⟩
   case round =>
     obtain ⟨a, ha, rfl, rfl, rfl⟩ := hrel
     have hal := HAL.out a
     have hal2 : a * a ≤ 144 := Nat.le_trans (Nat.mul_le_mul (show a ≤ 12 by omega) (show a ≤ 12 by omega)) (by omega)
     by_cases hlt : a < W
     · have hr := HR.out a hlt
       have hz := cell_lt hr
       have HAS := Lib.hid (show aheadM M (a + 1) = aheadM M a + cntR (f a) a from by rw [← HMM.out]; exact aheadM_s hlt)
       generalize aheadM M a = nA at *
       have ha2 : (a : Int) ≤ (W : Int) := by omega
       go_wp2
       go_loopw [34, 5] (fun i nv wr => ∃ b : Nat, b ≤ a ∧ i = .int .i64 b ∧ nv = .int .i64 ((nA + cntR (f a) b : Nat) : Int) ∧ w1 = wr) (fun i _ _ => a - (intOf i).toNat)
       case atStart => exact ⟨0, by omega, rfl, rfl, rfl⟩
       case round =>
         obtain ⟨b, hb, rfl, rfl, rfl⟩ := hrel
         have hcl := cntR_le (f a) b
         by_cases hbl : b < a
         · have hc := HC.out a b hlt (by omega)
           have hzc := cell_lt hc
           cases hfab : f a b with
           | true =>
             rw [hfab] at hc
             have HS := Lib.hid (show cntR (f a) (b + 1) = cntR (f a) b + 1 from by show _ + _ = _; rw [hfab]; rfl)
             generalize cntR (f a) b = nB at *
             go_wp2
             go_roundw
             case rel => exact ⟨b + 1, by omega, by go_num, by rw [HS.out]; go_num, trivial⟩
             case measure => simp [intOf]; omega
           | false =>
             rw [hfab] at hc
             have HS := Lib.hid (show cntR (f a) (b + 1) = cntR (f a) b from by show _ + _ = _; rw [hfab]; rfl)
             generalize cntR (f a) b = nB at *
             go_wp2
             go_roundw
             case rel => exact ⟨b + 1, by omega, by go_num, by rw [HS.out], trivial⟩
             case measure => simp [intOf]; omega
         · obtain rfl : b = a := by omega
           go_wp2
           go_roundw
           case rel => exact ⟨b + 1, by omega, by go_num, by rw [HAS.out], trivial⟩
           case measure => simp [intOf]; omega
     · obtain rfl : a = W := by omega
       have HI := Lib.hid (itoa_any (aheadM M a) (by omega) w1 (HV.out.kept HF1.out))
       generalize aheadM M a = nA at *
       go_wp2_with fail
       refine HI.out.mono ?_
       rintro e w2 ⟨rfl, f2⟩
       have HF2 := Lib.hid (HF1.out.trans f2)
       clear f2
       go_wp2
       go_ret
       rw [HE.out]
       exact ⟨rfl, HF2.out⟩
end Go.Proofs.YtodmkjeankbieaaGreatDoor


namespace Go.Proofs.YtodmkjeankbieaaGreatDoor
open Go.RowKit Go.Sort Go.Lib

set_option maxHeartbeats 12800000 in
set_option maxRecDepth 100000 in
theorem don_any (w : World) (base r : Nat) (vw vc vi : Value) (g : PS) (s n : Nat) (hs : s < 4294967296) (hn : n < 4294967296) (hm : PlM w base r 65 vw vc vi g) (hv : Env w) :
   Calls Tryz.prog 47 #[.pointer (some ⟨r, 0, none⟩), .int .u32 (s : Int), .int .u32 (n : Int)] w fun e w' => e = .returned (.string (bA (onF g s n))) ∧ Fr w w' := by
 have HM := Lib.hid hm
 have HV := Lib.hid hv
 have p0 := hm.blk.cell 0
 have p1 := hm.blk.cell 1
 have p2 := hm.blk.cell 2
 have z0 := hm.blk.lt
 simp only [List.getElem?_toArray, List.getElem?_cons_succ, List.getElem?_cons_zero] at p0 p1 p2
 have u0 : IntKind.i64.wrap (s : Int) = (s : Int) := by simp [IntKind.wrap, IntKind.bits, IntKind.signed]; omega
 have u1 : IntKind.i64.wrap (n : Int) = (n : Int) := by simp [IntKind.wrap, IntKind.bits, IntKind.signed]; omega
 have HF0 := Lib.hid (show Fr w (w.alloc (.cells #[.int .i64 (s : Int)] 52)) from (Kept.refl _ w).alloc _)
 have BT := Lib.hid (Blk.new w 52 #[.int .i64 (s : Int)])
 have t0 := BT.out.cell 0
 simp only [List.getElem?_toArray, List.getElem?_cons_succ, List.getElem?_cons_zero] at t0
 clear hm hv
 cases hb : (mayB g.p && tgB (s : Int)) with
 | false =>
   have HE : Hid (onF g s n = saidF badT [2]) := by show _ = _; unfold onF; rw [if_pos hb]
   have HBU := Lib.hid (fun w2 (f : Fr w w2) => build_no (sg := (s : Int)) ((HM.out.fr f).rd) hb)
   unfold tgV at HBU
   clear hb
   go_enter Tryz.func47, Tryz.ntmps47
   go_wp2
   go_region_held_law (fun w' => w'.cell? ⟨r, 0, none⟩ = some vw ∧ w'.cell? ⟨r, 1, none⟩ = some vc ∧ w'.cell? ⟨w.heap.size, 0, none⟩ = some (.int .i64 (s : Int))) (first | go_keep | exact sa | exact sb _ _)
     (first
       | (go_at_call 14; refine (HBU.out _ (HF0.out.drew)).mono ?_; rintro e w1 ⟨rfl, f1⟩; have HF1 := Lib.hid (HF0.out.drew.trans f1); have bt1 := (BT.out.drew.kept f1 (fun h => h)); have sa := And.intro ((HM.out.fr HF1.out).blk.cell 0) (And.intro ((HM.out.fr HF1.out).blk.cell 1) (bt1.cell 0)); simp only [List.getElem?_toArray, List.getElem?_cons_succ, List.getElem?_cons_zero] at sa; have hz1 := f1.size)
       | (go_at_call 14; refine (HBU.out _ ((HF0.out.alloc _).drew)).mono ?_; rintro e w1 ⟨rfl, f1⟩; have HF1 := Lib.hid ((HF0.out.alloc _).drew.trans f1); have bt1 := ((BT.out.alloc (.cells #[.int .i64 0, .slice none 0 0] 55)).drew.kept f1 (fun h => h)); have sa := And.intro ((HM.out.fr HF1.out).blk.cell 0) (And.intro ((HM.out.fr HF1.out).blk.cell 1) (bt1.cell 0)); have bg1 := ((Blk.new (w.alloc (.cells #[.int .i64 (s : Int)] 52)) 55 #[.int .i64 0, .slice none 0 0]).drew.kept f1 (fun h => h)); have g0 := bg1.cell 0; have g1 := bg1.cell 1; have y0 := bg1.frozen 0; have y1 := bg1.frozen 1; have zg := bg1.lt; simp only [List.getElem?_toArray, List.getElem?_cons_succ, List.getElem?_cons_zero] at sa g0 g1; have hsz := (show (w.alloc (.cells #[.int .i64 (s : Int)] 52)).heap.size = w.heap.size + 1 from by simp); rw [hsz] at g0 g1 y0 y1 zg; have sb := (fun (x y : Value) => (show (((w1.setCell ⟨w.heap.size + 1, 0, none⟩ x).setCell ⟨w.heap.size + 1, 1, none⟩ y).cell? ⟨r, 0, none⟩ = some vw ∧ ((w1.setCell ⟨w.heap.size + 1, 0, none⟩ x).setCell ⟨w.heap.size + 1, 1, none⟩ y).cell? ⟨r, 1, none⟩ = some vc ∧ ((w1.setCell ⟨w.heap.size + 1, 0, none⟩ x).setCell ⟨w.heap.size + 1, 1, none⟩ y).cell? ⟨w.heap.size, 0, none⟩ = some (.int .i64 (s : Int))) from by have k := ((Kept.refl (fun k => k = w.heap.size + 1) w1).setCell (p := ⟨w.heap.size + 1, 0, none⟩) (fun _ => rfl) x).setCell (p := ⟨w.heap.size + 1, 1, none⟩) (fun _ => rfl) y; exact ⟨(k.cell (p := ⟨r, 0, none⟩) (by simp only; omega) (by simp only; omega)).trans sa.1, (k.cell (p := ⟨r, 1, none⟩) (by simp only; omega) (by simp only; omega)).trans sa.2.1, (k.cell (p := ⟨w.heap.size, 0, none⟩) (by simp only; omega) (by simp only; omega)).trans sa.2.2⟩))))
   all_goals
     first
       | (have sb2 := sb (.int .i64 0) (.slice none 0 0)
          have hsw := HF1.out.size
          have HFE := Lib.hid ((HF1.out.setCell (p := ⟨w.heap.size + 1, 0, none⟩) (fun h => by simp only at h; omega) (.int .i64 0)).setCell (p := ⟨w.heap.size + 1, 1, none⟩) (fun h => by simp only at h; omega) (.slice none 0 0))
          have kE := ((Kept.refl (fun k => k = w.heap.size + 1) w1).setCell (p := ⟨w.heap.size + 1, 0, none⟩) (fun _ => rfl) (.int .i64 0)).setCell (p := ⟨w.heap.size + 1, 1, none⟩) (fun _ => rfl) (.slice none 0 0)
          have BTE := Lib.hid (bt1.kept kE (fun h => by omega))
          clear sb sb2 sa kE f1 bt1 bg1 g0 g1 y0 y1 zg hsz hsw
          generalize ((w1.setCell ⟨w.heap.size + 1, 0, none⟩ (.int .i64 0)).setCell ⟨w.heap.size + 1, 1, none⟩ (.slice none 0 0)) = wE at *)
       | (have HFE := Lib.hid (HF1.out.alloc (.cells #[.int .i64 0, .slice none 0 0] 55))
          have BTE := Lib.hid (bt1.alloc (.cells #[.int .i64 0, .slice none 0 0] 55))
          clear sa f1 bt1 hz1
          generalize (w1.alloc (.cells #[.int .i64 0, .slice none 0 0] 55)) = wE at *)
     have HS := Lib.hid (sayI1x badT ⟨#[98, 97, 100]⟩ rfl 2 2 rfl (by omega) (by decide) wE (HV.out.kept HFE.out) wE.heap.size rfl)
     go_wp2_with fail
     refine HS.out.mono ?_
     rintro e w3 ⟨rfl, f3⟩
     have HF3 := Lib.hid (HFE.out.trans f3)
     clear f3
     go_wp2
     go_ret
     rw [HE.out]
     exact ⟨rfl, HF3.out⟩
 | true =>
   have HE : Hid (onF g s n = shownF (dWrong g.p (s : Int) (buildF g.p (s : Int)) g.ins.length (n : Int)) (doneV g.p (buildF g.p (s : Int)).rows (insI g.ins) n)) := by show _ = _; unfold onF; rw [hb, if_neg (by simp)]
   have HBU := Lib.hid (fun w2 (f : Fr w w2) => build_ok (sg := (s : Int)) ((HM.out.fr f).rd) hb)
   unfold tgV at HBU
   clear hb
   generalize buildF g.p (s : Int) = bf at *
   go_enter Tryz.func47, Tryz.ntmps47
   go_wp2
   go_region_held_law (fun w' => w'.cell? ⟨r, 0, none⟩ = some vw ∧ w'.cell? ⟨r, 1, none⟩ = some vc ∧ w'.cell? ⟨w.heap.size, 0, none⟩ = some (.int .i64 (s : Int))) (first | go_keep | exact sa | exact sb _ _)
     (first
       | (go_at_call 14; refine (HBU.out _ (HF0.out.drew)).mono ?_; rintro e w1 ⟨A1, c1, rfl, hr1, f1⟩; have HF1 := Lib.hid (HF0.out.drew.trans f1); have bt1 := (BT.out.drew.kept f1 (fun h => h)); have sa := And.intro ((HM.out.fr HF1.out).blk.cell 0) (And.intro ((HM.out.fr HF1.out).blk.cell 1) (bt1.cell 0)); simp only [List.getElem?_toArray, List.getElem?_cons_succ, List.getElem?_cons_zero] at sa; have hz1 := f1.size)
       | (go_at_call 14; refine (HBU.out _ ((HF0.out.alloc _).drew)).mono ?_; rintro e w1 ⟨A1, c1, rfl, hr1, f1⟩; have HF1 := Lib.hid ((HF0.out.alloc _).drew.trans f1); have bt1 := ((BT.out.alloc (.cells #[.int .i64 0, .slice none 0 0] 55)).drew.kept f1 (fun h => h)); have sa := And.intro ((HM.out.fr HF1.out).blk.cell 0) (And.intro ((HM.out.fr HF1.out).blk.cell 1) (bt1.cell 0)); have bg1 := ((Blk.new (w.alloc (.cells #[.int .i64 (s : Int)] 52)) 55 #[.int .i64 0, .slice none 0 0]).drew.kept f1 (fun h => h)); have g0 := bg1.cell 0; have g1 := bg1.cell 1; have y0 := bg1.frozen 0; have y1 := bg1.frozen 1; have zg := bg1.lt; simp only [List.getElem?_toArray, List.getElem?_cons_succ, List.getElem?_cons_zero] at sa g0 g1; have hsz := (show (w.alloc (.cells #[.int .i64 (s : Int)] 52)).heap.size = w.heap.size + 1 from by simp); rw [hsz] at g0 g1 y0 y1 zg; have sb := (fun (x y : Value) => (show (((w1.setCell ⟨w.heap.size + 1, 0, none⟩ x).setCell ⟨w.heap.size + 1, 1, none⟩ y).cell? ⟨r, 0, none⟩ = some vw ∧ ((w1.setCell ⟨w.heap.size + 1, 0, none⟩ x).setCell ⟨w.heap.size + 1, 1, none⟩ y).cell? ⟨r, 1, none⟩ = some vc ∧ ((w1.setCell ⟨w.heap.size + 1, 0, none⟩ x).setCell ⟨w.heap.size + 1, 1, none⟩ y).cell? ⟨w.heap.size, 0, none⟩ = some (.int .i64 (s : Int))) from by have k := ((Kept.refl (fun k => k = w.heap.size + 1) w1).setCell (p := ⟨w.heap.size + 1, 0, none⟩) (fun _ => rfl) x).setCell (p := ⟨w.heap.size + 1, 1, none⟩) (fun _ => rfl) y; exact ⟨(k.cell (p := ⟨r, 0, none⟩) (by simp only; omega) (by simp only; omega)).trans sa.1, (k.cell (p := ⟨r, 1, none⟩) (by simp only; omega) (by simp only; omega)).trans sa.2.1, (k.cell (p := ⟨w.heap.size, 0, none⟩) (by simp only; omega) (by simp only; omega)).trans sa.2.2⟩))))
   all_goals
     first
       | (have sb2 := sb (.int .i64 (g.p.wide.length : Int)) (.slice A1 g.p.code.length c1)
          have hsw := HF1.out.size
          have HFE := Lib.hid ((HF1.out.setCell (p := ⟨w.heap.size + 1, 0, none⟩) (fun h => by simp only at h; omega) (.int .i64 (g.p.wide.length : Int))).setCell (p := ⟨w.heap.size + 1, 1, none⟩) (fun h => by simp only at h; omega) (.slice A1 g.p.code.length c1))
          have kE := ((Kept.refl (fun k => k = w.heap.size + 1) w1).setCell (p := ⟨w.heap.size + 1, 0, none⟩) (fun _ => rfl) (.int .i64 (g.p.wide.length : Int))).setCell (p := ⟨w.heap.size + 1, 1, none⟩) (fun _ => rfl) (.slice A1 g.p.code.length c1)
          have BTE := Lib.hid (bt1.kept kE (fun h => by omega))
          rw [hsz] at bg1
          have BPE := Lib.hid ((bg1.set_ 0 (.int .i64 (g.p.wide.length : Int))).set_ 1 (.slice A1 g.p.code.length c1))
          have HRE := Lib.hid ((hr1.kept kE (fun b h e => by have := h.1; simp at this; omega)).more (R' := fun _ => True) (fun _ _ => trivial))
          clear sb sb2 sa kE f1 bt1 bg1 g0 g1 y0 y1 zg hsz hsw hr1
          generalize ((w1.setCell ⟨w.heap.size + 1, 0, none⟩ (.int .i64 (g.p.wide.length : Int))).setCell ⟨w.heap.size + 1, 1, none⟩ (.slice A1 g.p.code.length c1)) = wE at *
          generalize w.heap.size + 1 = gE at *)
       | (have HFE := Lib.hid (HF1.out.alloc (.cells #[.int .i64 (g.p.wide.length : Int), .slice A1 g.p.code.length c1] 55))
          have BTE := Lib.hid (bt1.alloc (.cells #[.int .i64 (g.p.wide.length : Int), .slice A1 g.p.code.length c1] 55))
          have BPE := Lib.hid (Blk.new w1 55 #[.int .i64 (g.p.wide.length : Int), .slice A1 g.p.code.length c1])
          have HRE := Lib.hid ((hr1.kept ((Kept.refl (fun _ => False) w1).alloc (.cells #[.int .i64 (g.p.wide.length : Int), .slice A1 g.p.code.length c1] 55)) (fun _ _ h => h)).more (R' := fun _ => True) (fun _ _ => trivial))
          clear sa f1 bt1 hz1 hr1
          generalize (w1.alloc (.cells #[.int .i64 (g.p.wide.length : Int), .slice A1 g.p.code.length c1] 55)) = wE at *
          generalize w1.heap.size = gE at *)
     obtain ⟨A3, c3, rfl, hn3, hc3, hr3⟩ := own_cap (HM.out.fr HFE.out).oi
     have HPE := Lib.hid (HM.out.fr HFE.out)
     have q0 := HPE.out.blk.cell 0
     have q1 := HPE.out.blk.cell 1
     have q2 := HPE.out.blk.cell 2
     have zq := HPE.out.blk.lt
     have tt0 := BTE.out.cell 0
     have zt := BTE.out.lt
     have zl := BPE.out.lt
     simp only [List.getElem?_toArray, List.getElem?_cons_succ, List.getElem?_cons_zero] at q0 q1 q2 tt0
     have pl0 : wE.cell? ⟨gE, 0, none⟩ = some (.int .i64 (g.p.wide.length : Int)) := by have := BPE.out.cell 0; simpa using this
     have pl1 : wE.cell? ⟨gE, 1, none⟩ = some (.slice A1 g.p.code.length c1) := by have := BPE.out.cell 1; simpa using this
     have HD := Lib.hid (fun w2 (f : Fr wE w2) => done_sh (n := n) (sg := (s : Int)) ((HPE.out.fr f).rd) (HRE.out.kept f (fun _ _ h => h)) hn3 hc3 (hr3.kept f (fun _ _ h => h)) HM.out.oki)
     unfold tgV at HD
     have hwr := dWrong_at g.p (s : Int) bf g.ins.length (n : Int)
     generalize dWrong g.p (s : Int) bf g.ins.length (n : Int) = wr at *
     generalize doneV g.p bf.rows (insI g.ins) n = xx at *
     have HWR := Lib.hid hwr
     clear hr3 hn3 hc3 hwr p0 p1 p2 t0 z0
     go_wp2
     go_region_held_law (fun w' => w'.cell? ⟨r, 0, none⟩ = some vw ∧ w'.cell? ⟨r, 1, none⟩ = some vc ∧ w'.cell? ⟨r, 2, none⟩ = some (.slice A3 g.ins.length c3) ∧ w'.cell? ⟨w.heap.size, 0, none⟩ = some (.int .i64 (s : Int)) ∧ w'.cell? ⟨gE, 0, none⟩ = some (.int .i64 (g.p.wide.length : Int)) ∧ w'.cell? ⟨gE, 1, none⟩ = some (.slice A1 g.p.code.length c1)) (first | go_keep | exact sc | exact sd)
       (first
         | (go_at_call 15; refine (HD.out _ ((Kept.refl (fun _ => False) wE).drew)).mono ?_; rintro e w5 ⟨v5, y5, rfl, hsh, hok, heq, f5⟩; have f5b : Fr wE w5 := ((Kept.refl (fun _ => False) wE).drew).trans f5; have sc := And.intro ((Kept.cell (p := ⟨r, 0, none⟩) f5b zq (fun h => h)).trans q0) (And.intro ((Kept.cell (p := ⟨r, 1, none⟩) f5b zq (fun h => h)).trans q1) (And.intro ((Kept.cell (p := ⟨r, 2, none⟩) f5b zq (fun h => h)).trans q2) (And.intro ((Kept.cell (p := ⟨w.heap.size, 0, none⟩) f5b zt (fun h => h)).trans tt0) (And.intro ((Kept.cell (p := ⟨gE, 0, none⟩) f5b zl (fun h => h)).trans pl0) ((Kept.cell (p := ⟨gE, 1, none⟩) f5b zl (fun h => h)).trans pl1))))); have HF5 := Lib.hid (HFE.out.trans f5b); have HSH := Lib.hid hsh; have HOK := Lib.hid hok; have HEQ := Lib.hid heq; have HQ5 := Lib.hid f5b; clear hsh hok heq f5 f5b)
         | (go_at_call 46; refine (dshown_any _ wr HWR.out.1 (by have := HWR.out.2; omega) v5 y5 w5 HSH.out HOK.out (HV.out.kept HF5.out)).mono ?_; rintro e w6 ⟨rfl, f6⟩; have f6b : Fr wE w6 := Kept.trans HQ5.out f6; have sd := And.intro ((Kept.cell (p := ⟨r, 0, none⟩) f6b zq (fun h => h)).trans q0) (And.intro ((Kept.cell (p := ⟨r, 1, none⟩) f6b zq (fun h => h)).trans q1) (And.intro ((Kept.cell (p := ⟨r, 2, none⟩) f6b zq (fun h => h)).trans q2) (And.intro ((Kept.cell (p := ⟨w.heap.size, 0, none⟩) f6b zt (fun h => h)).trans tt0) (And.intro ((Kept.cell (p := ⟨gE, 0, none⟩) f6b zl (fun h => h)).trans pl0) ((Kept.cell (p := ⟨gE, 1, none⟩) f6b zl (fun h => h)).trans pl1))))); have HF6 := Lib.hid (HF5.out.trans f6); clear f6 f6b))
     go_wp2
     go_ret
     rw [HE.out, ← HEQ.out]
     exact ⟨rfl, HF6.out⟩
end Go.Proofs.YtodmkjeankbieaaGreatDoor


namespace Go.Proofs.YtodmkjeankbieaaGreatDoor
open Go.RowKit Go.Sort Go.Lib

theorem splitL_any (s : Tx) (b : UInt8) (hs : s.length < 4294967281) (w : World) (hv : Env w) :
   Calls Tryz.prog 17 #[.string (bA s), .string ⟨#[b]⟩] w fun e w' =>
     e = .returned (.slice (some ⟨w.heap.size, 0, none⟩) (partsL b s).length (partsL b s).length) ∧ w' = w.alloc (.cells (txs (partsL b s)).toArray 9) := by
 obtain ⟨m, hm⟩ := hv.len
 refine (Tryz.strings_Split (bA s) ⟨#[b]⟩ m w (by rw [bA_size]; exact hs) hm (by show 1 ≤ (#[b] : Array UInt8).size; simp)).mono ?_
 rintro e w' ⟨rfl, rfl⟩
 have h1 : Lib.splitB ⟨#[b]⟩ 0 (Lib.countB (bA s) ⟨#[b]⟩) (bA s) = (partsL b s).map bA := split_parts b s
 have h2 : (Lib.splitB ⟨#[b]⟩ 0 (Lib.countB (bA s) ⟨#[b]⟩) (bA s)).length = Lib.countB (bA s) ⟨#[b]⟩ + 1 :=
   Lib.splitB_all ⟨#[b]⟩ (by show 1 ≤ (#[b] : Array UInt8).size; simp) 0 _ (bA s) rfl
 rw [h1, List.length_map] at h2
 rw [h1, ← h2]
 refine ⟨rfl, ?_⟩
 unfold txs
 rw [List.map_map]
 rfl
end Go.Proofs.YtodmkjeankbieaaGreatDoor


namespace Go.Proofs.YtodmkjeankbieaaGreatDoor
open Go.RowKit Go.Sort Go.Lib

theorem playTo_app : ∀ (l m : List Tx) (z : PS × Tx), playTo (l ++ m) z = playTo m (playTo l z)
 | [], _, _ => rfl
 | s :: r, m, z => playTo_app r m _
theorem playTo_grows : ∀ (l : List Tx) (z : PS × Tx), z.2 <+: (playTo l z).2
 | [], z => List.prefix_refl _
 | s :: r, z => by
   refine List.IsPrefix.trans ?_ (playTo_grows r _)
   show z.2 <+: z.2 ++ (lineF z.1 s).2 ++ [10]
   rw [List.append_assoc]
   exact List.prefix_append _ _
theorem linesF_nl (a : Tx) : linesF (a ++ [10]) = partsL 10 a := by
 have e : partsL 10 (a ++ [10]) = partsL 10 a ++ [[]] := partsL_app 10 a []
 unfold linesF
 rw [e, if_pos (by simp)]
 simp
theorem linesF_on (a b : Tx) : ∃ m, linesF (a ++ 10 :: b) = partsL 10 a ++ m := by
 unfold linesF
 rw [partsL_app]
 split
 · exact ⟨(partsL 10 b).dropLast, by rw [List.dropLast_append_of_ne_nil (partsL_ne 10 b)]⟩
 · exact ⟨_, rfl⟩
theorem playF_on (a b : Tx) : playF (a ++ [10]) <+: playF (a ++ [10] ++ b) := by
 have e1 : a ++ [10] ++ b = a ++ 10 :: b := by simp
 obtain ⟨m, hm⟩ := linesF_on a b
 unfold playF
 rw [linesF_nl, e1, hm, List.take_append, playTo_app]
 exact playTo_grows _ _
theorem playF_q : playF [63] = [63, 10] := by
 have h1 : partsL 10 ([63] : Tx) = [[63]] := by simp [partsL, glue]
 have h2 : partsL 32 ([63] : Tx) = [[63]] := by simp [partsL, glue]
 have h3 : linesF [63] = [[63]] := by unfold linesF; rw [h1, if_neg (by simp)]
 have h4 : lineF ps0 [63] = (ps0, [63]) := by
   unfold lineF
   rw [h2]
   show armF ps0 [63] [63] [] = _
   unfold armF
   rw [if_neg (by decide), if_neg (by decide), if_neg (by decide), if_neg (by decide), if_neg (by decide), if_neg (by decide), if_neg (by decide)]
 unfold playF
 rw [h3]
 show (playTo [[63]] (ps0, [])).2 = _
 show ([] : Tx) ++ (lineF ps0 [63]).2 ++ [10] = _
 rw [h4]
 rfl
theorem shownF_len {wr : Int} {x : Sh} (h0 : 0 ≤ wr) (h4 : wr < 4) (hx : wr = 0 → ShOk x ∧ x.out.length ≤ 100000) : (shownF wr x).length ≤ 3000000 := by
 unfold shownF
 by_cases h : wr ≠ 0
 · rw [if_pos h]
   have := saidF_len [98, 97, 100] [wr.toNat] (by simp; omega)
   simp at this
   omega
 · rw [if_neg h]
   have h2 : wr = 0 := by omega
   obtain ⟨h3, h4⟩ := hx h2
   have := shTo_len h3 h4 x.out.length
   unfold shTo at this
   rwa [List.take_of_length_le (by simp)] at this
end Go.Proofs.YtodmkjeankbieaaGreatDoor


namespace Go.Proofs.YtodmkjeankbieaaGreatDoor
open Go.RowKit Go.Sort Go.Lib

def PsOk (g : PS) : Prop := g.p.wide.length ≤ 12 ∧ g.p.code.length ≤ 40 ∧ g.ins.length < 4294967296
theorem ps0_ok : PsOk ps0 := ⟨by simp [ps0], by simp [ps0], by simp [ps0]⟩
theorem parts_mem {b : UInt8} : ∀ {l x : Tx}, x ∈ partsL b l → x.length ≤ l.length
 | [], x, h => by simp [partsL] at h; subst h; simp
 | c :: l, x, h => by
   unfold partsL at h
   split at h
   · rcases List.mem_cons.1 h with rfl | h
     · simp
     · have := parts_mem h; rw [List.length_cons]; omega
   · cases hp : partsL b l with
     | nil => exact absurd hp (partsL_ne b l)
     | cons y r =>
       rw [hp] at h
       rcases List.mem_cons.1 h with rfl | h
       · have : y.length ≤ l.length := parts_mem (by rw [hp]; exact List.mem_cons_self)
         simp; omega
       · have : x.length ≤ l.length := parts_mem (by rw [hp]; exact List.mem_cons_of_mem _ h)
         rw [List.length_cons]; omega
theorem tempF_ok {g : PS} {b : Bool} (h : PsOk g) : PsOk (tempF g b).1 := by
 unfold tempF
 split
 · exact h
 · rename_i h12
   refine ⟨?_, h.2.1, h.2.2⟩
   simp
   omega
theorem addF_ok {g : PS} {l : List Nat} (h : PsOk g) : PsOk (addF g l).1 := by
 unfold addF
 split
 · exact h
 · rename_i h40
   refine ⟨h.1, ?_, h.2.2⟩
   simp
   omega
theorem armF_ok {g : PS} {s x : Tx} {l : List Nat} (h : PsOk g) (hl : l.length < 4294967296) : PsOk (armF g s x l).1 := by
 unfold armF
 split
 · exact tempF_ok h
 · split
   · exact h
   · split
     · exact addF_ok h
     · split
       · exact ⟨h.1, h.2.1, hl⟩
       · split
         · exact h
         · split
           · exact h
           · split <;> exact h
theorem lineF_ok {g : PS} {s : Tx} (h : PsOk g) (hs : s.length < 4294967296) : PsOk (lineF g s).1 := by
 unfold lineF
 split
 · exact h
 · rename_i l hl
   refine armF_ok h ?_
   have h1 := numsF_len hl
   have h2 := partsL_len 32 s
   rw [List.length_tail] at h1
   omega
end Go.Proofs.YtodmkjeankbieaaGreatDoor


namespace Go.Proofs.YtodmkjeankbieaaGreatDoor
open Go.RowKit Go.Sort Go.Lib

theorem own_low {w : World} {base base' : Nat} {e : TypeId} {size n : Nat} {v : Value} {xs : List Value} (h : w.ownsRow base e size v n xs) (hb : base' ≤ base) : w.ownsRow base' e size v n xs := by
 obtain ⟨h1, h2⟩ := h
 refine ⟨h1, ?_⟩
 rcases h2 with h2 | ⟨g, cap, cur, hv, hg, r⟩
 · exact Or.inl h2
 · exact Or.inr ⟨g, cap, cur, hv, by omega, r⟩
theorem words_tail (x : Tx) (ws : List Tx) (w : World) (hl : ws.length + 1 ≤ maxLen) : ∃ A c, (∀ w2 : World, (Instr.slice 22 (.slice (some ⟨w.heap.size, 0, none⟩) (ws.length + 1) (ws.length + 1)) (some (.int .i64 1)) none none).run Tryz.prog w2 = .ok (.slice A ws.length c) w2) ∧
   Reads (w.alloc (.cells (txs (x :: ws)).toArray 9)) (fun _ => True) 1 A ws.length (txs ws) := by
 have hq : QRow (w.alloc (.cells (txs (x :: ws)).toArray 9)) w.heap.size 9 (.slice (some ⟨w.heap.size, 0, none⟩) (ws.length + 1) (ws.length + 1)) (.string (bA x) :: txs ws) :=
   ⟨w.heap.size, 0, ws.length + 1, (txs (x :: ws)).toArray, by simp [txs], Nat.le_refl _, Blk.new _ _ _, by simp [txs], by simp [txs], hl, fun j u hj => by
     rw [Nat.zero_add, List.getElem?_toArray]; exact hj⟩
 obtain ⟨g, off, cap, v', e, _, _, _, _, ⟨g2, o2, c2, cur, rfl, _, hB, _, _, _, hcur⟩, hrun⟩ := hq.popV slStr
 injection e with e1 e2 e3
 subst e3
 injection e1 with e1
 injection e1 with e4 e5
 subst e4 e5
 rw [txs_len] at hrun
 refine ⟨some ⟨g2, o2, none⟩, c2, hrun, by simp [txs], fun _ => ⟨g2, o2, rfl, trivial, fun j u hu => (hB.cell (o2 + j)).trans (hcur j u hu)⟩⟩
theorem numbers_no {ws : List Tx} (hn : numsF ws = none) (hws : ∀ x ∈ ws, x.length < 4294967296) (hlen : ws.length < 4294967300) {A : Option Addr} {c : Nat} {w : World} (hr : Reads w (fun _ => True) 1 A ws.length (txs ws)) (hv : Env w) :
   Calls Tryz.prog 42 #[.slice A ws.length c] w fun e w' => e = .returned (.tuple #[.slice none 0 0, .bool false]) ∧ Fr w w' := by
 refine (numbers_any _ ws hws hlen A c w hr hv).mono ?_
 rintro e w' ⟨f, ⟨_, he⟩ | ⟨l, v, h, _⟩⟩
 · exact ⟨he, f⟩
 · rw [hn] at h; cases h
theorem numbers_ok {ws : List Tx} {l : List Nat} (hn : numsF ws = some l) (hws : ∀ x ∈ ws, x.length < 4294967296) (hlen : ws.length < 4294967300) {A : Option Addr} {c : Nat} {w : World} (hr : Reads w (fun _ => True) 1 A ws.length (txs ws)) (hv : Env w) :
   Calls Tryz.prog 42 #[.slice A ws.length c] w fun e w' => ∃ A' c', e = .returned (.tuple #[.slice A' l.length c', .bool true]) ∧ w'.ownsRow w.heap.size 35 1 (.slice A' l.length c') l.length (u32n l) ∧ Fr w w' := by
 refine (numbers_any _ ws hws hlen A c w hr hv).mono ?_
 rintro e w' ⟨f, ⟨h, _⟩ | ⟨l', v, h, he, ho⟩⟩
 · rw [hn] at h; cases h
 · rw [hn] at h
   injection h with h
   subst h
   obtain ⟨A', c', rfl, _⟩ := own_reads ho
   exact ⟨A', c', he, ho, f⟩
theorem tx_t {s t : Tx} (h : s = t) : (bA s).toList = t := by rw [h, Lib.toList_data]; rfl
theorem tx_n {s t : Tx} (h : s ≠ t) : ¬ (bA s).toList = t := by
 rw [Lib.toList_data]
 exact h
theorem tx_f {s t : Tx} (h : s ≠ t) : ((bA s).toList == t) = false := by
 rw [Lib.toList_data]
 exact beq_false_of_ne h
theorem own_apart {w : World} {base r n c : Nat} {ty : TypeId} {vw vc vi : Value} {g : PS} {A : Option Addr} {l : List Value} (ho : w.ownsRow base 35 1 (.slice A n c) n l) (hp : PlM w base r ty vw vc vi g) :
   Reads w (fun k => k ≠ r ∧ vc.ownBlock ≠ some k) 1 A n l := by
 obtain ⟨A', c', e, _, hr⟩ := own_reads ho
 injection e with e1 _ e3
 subst e1 e3
 exact hr.more fun b hb => ⟨fun h => own_blk_ne ho hp.blk hp.hty.2.2 (h ▸ hb.2), fun h => own_two_ne hp.oc ho (by decide) b h hb.2⟩
theorem line_none {g : PS} {s x : Tx} {ws : List Tx} (hps : partsL 32 s = x :: ws) (hl : numsF ws = none) : lineF g s = (g, [63]) := by
 unfold lineF
 rw [hps]
 show (match numsF ws with | none => (g, [63]) | some l => armF g s x l) = _
 rw [hl]
theorem line_some {g : PS} {s x : Tx} {ws : List Tx} {l : List Nat} (hps : partsL 32 s = x :: ws) (hl : numsF ws = some l) : lineF g s = armF g s x l := by
 unfold lineF
 rw [hps]
 show (match numsF ws with | none => (g, [63]) | some l => armF g s x l) = _
 rw [hl]
theorem parts_near : partsL 32 nearT = [nearT] := by decide
theorem near_head {s x : Tx} {ws : List Tx} (hps : partsL 32 s = x :: ws) (h : s = nearT) : x ≠ codeT ∧ x ≠ insT ∧ x ≠ runT ∧ x ≠ onT ∧ x ≠ bytesT := by
 rw [h, parts_near] at hps
 injection hps with hx _
 rw [← hx]
 decide
theorem nat1 {l : List Nat} (h : l.length = 1) : ∃ a0, l = [a0] := by
 match l, h with
 | [a0], _ => exact ⟨a0, rfl⟩
theorem nat2 {l : List Nat} (h : l.length = 2) : ∃ a0 a1, l = [a0, a1] := by
 match l, h with
 | [a0, a1], _ => exact ⟨a0, a1, rfl⟩
theorem nat6 {l : List Nat} (h : l.length = 6) : ∃ a0 a1 a2 a3 a4 a5, l = [a0, a1, a2, a3, a4, a5] := by
 match l, h with
 | [a0, a1, a2, a3, a4, a5], _ => exact ⟨a0, a1, a2, a3, a4, a5, rfl⟩
end Go.Proofs.YtodmkjeankbieaaGreatDoor


namespace Go.Proofs.YtodmkjeankbieaaGreatDoor
open Go.RowKit Go.Sort Go.Lib

theorem number_ok {y : Tx} {u : Nat} (h : numF y = some u) (w : World) :
   Calls Tryz.prog 8 #[.string (bA y)] w fun e w' => e = .returned (.tuple #[.int .u32 (u : Int), .bool true]) ∧ w' = w :=
 (number_any y w).mono fun e w' ⟨h1, h2⟩ => ⟨by rw [h] at h1; exact h1, h2⟩
theorem number_bad {y : Tx} (h : numF y = none) (w : World) :
   Calls Tryz.prog 8 #[.string (bA y)] w fun e w' => ∃ x : Int, e = .returned (.tuple #[.int .u32 x, .bool false]) ∧ w' = w :=
 (number_any y w).mono fun e w' ⟨h1, h2⟩ => by rw [h] at h1; obtain ⟨x, hx⟩ := h1; exact ⟨x, hx, h2⟩
theorem numsF_at {ws : List Tx} {l : List Nat} (h : numsF ws = some l) {k : Nat} {y : Tx} (hy : ws[k]? = some y) : ∃ u, l[k]? = some u ∧ numF y = some u := by
 induction ws generalizing l k with
 | nil => simp at hy
 | cons z ws ih =>
   unfold numsF at h
   cases hz : numF z with
   | none => rw [hz] at h; simp at h
   | some v =>
     cases hl : numsF ws with
     | none => rw [hz, hl] at h; simp at h
     | some ms =>
       rw [hz, hl] at h
       simp only [Option.some.injEq] at h
       subst h
       cases k with
       | zero => simp at hy; subst hy; exact ⟨v, rfl, hz⟩
       | succ k => simp at hy ⊢; exact ih hl hy
theorem numsF_all {ws : List Tx} {l : List Nat} (h : numsF ws = some l) : ∀ k, k < ws.length → ∃ y u, ws[k]? = some y ∧ l[k]? = some u ∧ numF y = some u ∧ u < 4294967296 := fun k hk => by
 have hy : ws[k]? = some ws[k] := List.getElem?_eq_getElem hk
 obtain ⟨u, h1, h2⟩ := numsF_at h hy
 exact ⟨_, u, hy, h1, h2, numsF_lt h u (List.mem_of_getElem? h1)⟩
theorem take_snoc' {l : List Nat} {j u : Nat} (hj : 1 ≤ j) (hu : l[j - 1]? = some u) : l.take (j + 1 - 1) = l.take (j - 1) ++ [u] := by
 rw [show j + 1 - 1 = (j - 1) + 1 by omega, List.take_add_one, hu]; rfl
theorem txs_at {x : Tx} {ws : List Tx} {j : Nat} {y : Tx} (hj : 1 ≤ j) (hy : ws[j - 1]? = some y) : (txs (x :: ws))[j]? = some (.string (bA y)) := by
 obtain ⟨k, rfl⟩ : ∃ k, j = k + 1 := ⟨j - 1, by omega⟩
 unfold txs
 rw [List.getElem?_map, List.getElem?_cons_succ]
 rw [Nat.add_sub_cancel] at hy
 rw [hy]; rfl
theorem said1x (s : Tx) (b : ByteArray) (hb : b = bA s) (n : Nat) (x : Int) (hx : x = (n : Int)) (hn : n < 9223372036854775808) (hs : s.length < 9223372036854774000) (w0 : World) (g : Nat) (hg : g = w0.heap.size) :
   Calls Tryz.prog 9 #[.string b, .slice (some ⟨g, 0, none⟩) 1 1] (w0.alloc (.cells #[.int .i64 x] 2)) fun e w' => e = .returned (.string (bA (saidF s [n]))) ∧ Fr w0 w' := by
 subst hx
 exact said1 s b hb n hn hs w0 g hg
def RunSh2 (w : World) (wr : Int) (x : Sh) (e : Ending) (w' : World) : Prop :=
 ∃ A c y, e = .returned (.tuple #[.agg #[.int .i64 (y.state : Int), .slice A y.out.length c, .int .i64 (y.steps : Int)], .int .i64 wr]) ∧ y.out.length ≤ 100000 ∧ Reads w' (fun b => w.heap.size ≤ b) 1 A y.out.length (u32s y.out) ∧ ShOk y ∧ shownF wr y = shownF wr x ∧ Fr w w'
theorem runSh2_of {w : World} {wr : Int} {x : Sh} {e : Ending} {w' : World} (h : RunPost w wr x e w') (ho : wr = 0 → ShOk x) : RunSh2 w wr x e w' := by
 obtain ⟨f, ⟨h1, rfl⟩ | ⟨h1, v, rfl, hr⟩⟩ := h
 · exact ⟨none, 0, sh0 [], rfl, by simp [sh0], Reads.none_, sh0_ok [], shownF_wr h1 _ _, f⟩
 · subst h1
   obtain ⟨A, c, rfl, hl, hr⟩ := hr
   exact ⟨A, c, x, rfl, hl, hr, ho rfl, rfl, f⟩
theorem done_sh2 {R' : Nat → Prop} {v vl : Value} {p : Pg} {sg : Int} {l : Pd} {Ai : Option Addr} {ins : List Nat} {ci : Nat} {n : Nat} {w : World} (h : RdPg w (fun _ => True) v p) (hL : RdPd w R' vl l) (hl : ins.length ≤ ci) (hc : ci ≤ maxLen) (hr : Reads w (fun _ => True) 1 Ai ins.length (u32n ins)) (hi : ∀ n ∈ ins, n < 4294967296) :
   Calls Tryz.prog 15 #[v, tgV sg, vl, .slice Ai ins.length ci, .int .i64 (n : Int)] w (RunSh2 w (dWrong p sg l ins.length (n : Int)) (doneV p l.rows (insI ins) n)) := by
 have h1 := done_any (fun _ => True) R' v vl p sg l Ai (insI ins) ci (n : Int) w h hL (by rw [insI_len]; exact hl) hc (by rw [insI_len, u32s_insI]; exact hr) (insI_ok hi)
 rw [insI_len] at h1
 refine h1.mono fun e w' hp => runSh2_of hp fun h0 => ?_
 have h2 := (wrong_0 (dWrong_0 h0).2).2.2.2
 exact doneV_shok (by omega)
theorem run_sh2 {v : Value} {p : Pg} {Ai : Option Addr} {ins : List Nat} {ci : Nat} {n : Nat} {w : World} (h : RdPg w (fun _ => True) v p) (hl : ins.length ≤ ci) (hc : ci ≤ maxLen) (hr : Reads w (fun _ => True) 1 Ai ins.length (u32n ins)) (hi : ∀ n ∈ ins, n < 4294967296) :
   Calls Tryz.prog 12 #[v, .slice Ai ins.length ci, .int .i64 (n : Int)] w (RunSh2 w (wrongV p ins.length (n : Int)) (runV p (insI ins) n)) := by
 have h1 := run_any (fun _ => True) v p Ai (insI ins) ci (n : Int) w h (by rw [insI_len]; exact hl) hc (by rw [insI_len, u32s_insI]; exact hr) (insI_ok hi)
 rw [insI_len] at h1
 refine h1.mono fun e w' hp => runSh2_of hp fun h0 => ?_
 have h2 := (wrong_0 h0).2.2.2
 exact runV_shok (by omega)
end Go.Proofs.YtodmkjeankbieaaGreatDoor

