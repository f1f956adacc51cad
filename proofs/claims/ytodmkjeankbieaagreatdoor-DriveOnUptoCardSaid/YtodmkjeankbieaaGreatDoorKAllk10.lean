/- Texts of this claim, packed. -/
import Derived.Test.YtodmkjeankbieaaGreatDoorKAllk9
import Derived.WideKeyEntry
set_option linter.all false
namespace Go.Proofs.YtodmkjeankbieaaGreatDoor
open Go.RowKit Go.Sort Go.Maps

set_option maxHeartbeats 2000000 in
set_option maxRecDepth 100000 in
theorem takes_nil (base gr gb g0 : Nat) (R : Nat → Prop) (p : Pg) (A : Option Addr) (c : Nat) (A' : Option Addr) (c' sg : Nat) (o : Nat → PlaceV) (d a b : PlaceV) (vb va : Value) (l : List Mv) (t j : Nat) (w : World) (h : Bd w gb g0 R p A c A' c' sg o) (ht : t < p.wide.length) (hj : j ≤ 1) (hs : 4 ≤ sg) (hs1 : sg ≤ 16)
   (hr : Blk w gr 102 (rowC d a b vb va)) (hb : w.ownsRow base 141 6 vb l.length (l.flatMap Mv.cells)) (hl : l.length ≤ 10) (hbase : base ≤ w.heap.size) (hk : (o t).k = 0) :
   Calls Tryz.prog 60 #[.pointer (some ⟨gb, 0, none⟩), .pointer (some ⟨gr, 0, none⟩), .int .i64 (t : Int), .int .i64 (j : Int), .map none] w (TakePost w base gr d a b vb va (l ++ [(⟨scr p.wide (sg : Int) (t : Int) (j : Int), slotP (t : Int), false, 0⟩ : Mv)]) (scr p.wide (sg : Int) (t : Int) (j : Int))) := by
 have q3 := h.bm.bb.cell 3
 have zb := h.bm.bb.lt
 have zo := h.ob.lt
 simp only [List.getElem?_toArray, List.getElem?_cons_succ, List.getElem?_cons_zero] at q3
 obtain ⟨d0, _⟩ := mkP_at (o := o) ht
 have e0 := (h.ob.cell (t * 2)).trans d0
 rw [hk] at e0
 have ht0 : (0 : Int) ≤ (t : Int) := by omega
 have ht1 : (t : Int) < (p.wide.length : Int) := by omega
 have HSC := Lib.hid (fun w2 (hf : Fr w w2) => scratch_any gb R p A c A' c' sg _ t j w2 (h.bm.kept hf (fun h => h)) (h.wide.kept hf (fun _ _ h => h)) ht hj hs hs1)
 have HSL := Lib.hid (fun w2 => slot_any (t : Int) w2)
 have HR := Lib.hid hr
 have HB := Lib.hid hb
 have hrl := hr.lt
 have HDEF : Hid (∀ e w', (e = Ending.returned (scr p.wide (sg : Int) (t : Int) (j : Int)).val ∧ ∃ vb', Blk w' gr 102 (rowC d a b vb' va) ∧ w'.ownsRow base 141 6 vb' (l ++ [(⟨scr p.wide (sg : Int) (t : Int) (j : Int), slotP (t : Int), false, 0⟩ : Mv)]).length ((l ++ [(⟨scr p.wide (sg : Int) (t : Int) (j : Int), slotP (t : Int), false, 0⟩ : Mv)]).flatMap Mv.cells) ∧ Kept (fun k => k = gr ∨ vb.ownBlock = some k) w w' ∧ ∀ g, vb'.ownBlock = some g → vb.ownBlock = some g ∨ w.heap.size ≤ g) → TakePost w base gr d a b vb va (l ++ [(⟨scr p.wide (sg : Int) (t : Int) (j : Int), slotP (t : Int), false, 0⟩ : Mv)]) (scr p.wide (sg : Int) (t : Int) (j : Int)) e w') := fun _ _ h => h
 clear h hr hb d0 hk
 generalize scr p.wide (sg : Int) (t : Int) (j : Int) = sc at *
 obtain ⟨sk, sn⟩ := sc
 unfold PlaceV.val at HSC HDEF
 unfold slotP PlaceV.val at HSL
 simp only at HSC HSL HDEF
 have hF0 : Fr w (w.alloc (.cells #[.int .i64 0, .int .i64 0] 99)) := (Kept.refl _ w).alloc _
 have HF0 := Lib.hid hF0
 have hres := Lib.hid (Blk.new w 99 #[.int .i64 0, .int .i64 0])
 clear hF0
 go_enter Tryz.func60, Tryz.ntmps60
 go_wp2_with fail
 refine (HSC.out _ HF0.out).mono ?_
 rintro e w1 ⟨rfl, f1⟩
 have HA1 := Lib.hid (Blk.new w1 99 #[.int .i64 sk, .int .i64 sn])
 have f1a : Fr w1 (w1.alloc (.cells #[.int .i64 sk, .int .i64 sn] 99)) := (Kept.refl _ w1).alloc _
 have HF1 := Lib.hid (HF0.out.trans (f1.trans f1a))
 have hres1 := Lib.hid ((hres.out.kept f1 (fun h => h)).kept f1a (fun h => h))
 have hzz : w.heap.size + 1 ≤ w1.heap.size := by have := f1.size; simpa using this
 have a0 := HA1.out.cell 0
 have a1 := HA1.out.cell 1
 have za := HA1.out.lt
 simp only [List.getElem?_toArray, List.getElem?_cons_succ, List.getElem?_cons_zero] at a0 a1
 obtain ⟨wq, hwq⟩ : ∃ wq : World, wq = w1.alloc (.cells #[.int .i64 sk, .int .i64 sn] 99) := ⟨_, rfl⟩
 rw [← hwq] at HA1 HF1 hres1 a0 a1 za
 have HWQ := Lib.hid hwq
 have hzq : w1.heap.size + 1 ≤ wq.heap.size := by rw [hwq]; simp
 have hnw := World.new_ne wq ⟨w1.heap.size, 0, none⟩ a0
 clear f1 f1a HF0 hres HSC q3 zb zo e0 hwq
 go_wp2
 rw [← HWQ.out]
 go_region_held3 (fun w' => w'.cell? ⟨w1.heap.size, 0, none⟩ = some (.int .i64 sk) ∧ w'.cell? ⟨w1.heap.size, 1, none⟩ = some (.int .i64 sn))
   (first
     | go_keep)
   ((go_at_call 62; refine (HSL.out _).mono ?_; rintro e wa ⟨rfl, rfl⟩))
 · obtain ⟨wm, hwm⟩ : ∃ wm : World, wm = ((wq.alloc (.cells #[.int .i64 3, .int .i64 (t : Int)] 99)).alloc (.cells #[.int .i64 sk, .int .i64 sn, .int .i64 3, .int .i64 (t : Int), .bool false, .int .u32 0] 141)).drew := ⟨_, rfl⟩
   have HMB := Lib.hid (show Blk wm (wq.heap.size + 1) 141 #[.int .i64 sk, .int .i64 sn, .int .i64 3, .int .i64 (t : Int), .bool false, .int .u32 0] from by rw [hwm]; have := (Blk.new (wq.alloc (.cells #[.int .i64 3, .int .i64 (t : Int)] 99)) 141 #[.int .i64 sk, .int .i64 sn, .int .i64 3, .int .i64 (t : Int), .bool false, .int .u32 0]).drew; simpa using this)
   have HFQ := Lib.hid (show Fr wq wm from by rw [hwm]; exact (((Kept.refl _ wq).alloc _).alloc _).drew)
   have HFM := Lib.hid (HF1.out.trans HFQ.out)
   have HAM := Lib.hid (HA1.out.kept HFQ.out (fun h => h))
   have HRS := Lib.hid (hres1.out.kept HFQ.out (fun h => h))
   have HRM := Lib.hid (HR.out.kept HFM.out (fun h => h))
   have HBM := Lib.hid (own_kept HB.out HFM.out (fun _ _ h => h))
   have HOL := Lib.hid (fun g hg => (own_lt HB.out (g := g) hg))
   obtain ⟨Av, cv, rfl, hvl, _⟩ := own_reads HB.out
   have hzm : wq.heap.size + 2 ≤ wm.heap.size := by rw [hwm]; simp
   rw [← hwm]
   clear hwm HWQ HA1 hres1 a0 a1 za hnw
   have hrg := fun w2 => run_range_none (P := Tryz.prog) Tryz.underlying133 w2
   have hsx : (wm.alloc (.mapIter none 0 #[] 0)).heap[wm.heap.size]? = some (.mapIter none 0 #[] 0) := heap_alloc_new wm _
   go_wp2
   clear hrg
   go_loopw [] (fun wr => wr = wm.alloc (.mapIter none 0 #[] 0)) (fun _ => 0)
   case atStart => exact rfl
   case round =>
     obtain rfl := hrel
     have hnx := fun ty => run_next_none (P := Tryz.prog) hsx ty
     have HF9 := Lib.hid ((Kept.refl (fun _ => False) wm).alloc (.mapIter none 0 #[] 0))
     obtain ⟨wn, hwn⟩ : ∃ wn : World, wn = wm.alloc (.mapIter none 0 #[] 0) := ⟨_, rfl⟩
     rw [← hwn] at hnx HF9 ⊢
     have hzn : wm.heap.size + 1 ≤ wn.heap.size := by rw [hwn]; simp
     clear hsx hwn
     have HMN := Lib.hid (HMB.out.kept HF9.out (fun h => h))
     have HAN := Lib.hid (HAM.out.kept HF9.out (fun h => h))
     have HRN := Lib.hid (HRM.out.kept HF9.out (fun h => h))
     have HBN := Lib.hid (own_kept HBM.out HF9.out (fun _ _ h => h))
     have HSN := Lib.hid (HRS.out.kept HF9.out (fun h => h))
     have HFN := Lib.hid (HFM.out.trans HF9.out)
     have b6 := HRN.out.cell 6
     have yb := HRN.out.frozen 6
     have zr := HRN.out.lt
     have m0 := HMN.out.cell 0
     have m1 := HMN.out.cell 1
     have m2 := HMN.out.cell 2
     have m3 := HMN.out.cell 3
     have m4 := HMN.out.cell 4
     have m5 := HMN.out.cell 5
     have zm := HMN.out.lt
     unfold rowC at b6
     simp only [List.getElem?_toArray, List.getElem?_cons_succ, List.getElem?_cons_zero] at b6 m0 m1 m2 m3 m4 m5
     have hgo : ∀ g, (Value.slice Av l.length cv).ownBlock = some g → g < w.heap.size := fun g hg => (HOL.out g hg).2
     go_wp2
     go_region_law ((refine step_app (base := base) (by rfl) slMv (.tmp 62) (.tmp 64) (by rfl) (.slice Av l.length cv) l.length _ (by rfl) ((World.ownsRow.alloc HBN.out _).drew_) (fun _ => True) _ 1 1 _ (by rfl) (Reads.lit' (by simp) trivial rfl) (by simp [Value.oneCell']) (by omega) (by unfold maxLen; omega) (by simp; omega) ?_; intro v1 w1' hown1 hk1 hat1; have hrn2 := Lib.hid (Blk.kept ((HRN.out.alloc _).drew) hk1 (own_blk_ne HBN.out HRN.out (by decide))); have yb2 := hrn2.out.frozen 6; have zr2 := hrn2.out.lt; have c6 := hrn2.out.cell 6; unfold rowC at c6; simp only [List.getElem?_toArray, List.getElem?_cons_succ, List.getElem?_cons_zero] at c6; obtain ⟨A1, c1, rfl, _⟩ := own_reads hown1))
     all_goals
       have HR7 := Lib.hid (show Blk (w1'.setCell ⟨gr, 6, none⟩ (.slice A1 (l.length + 1) c1)) gr 102 (rowC d a b (.slice A1 (l.length + 1) c1) va) from by have := hrn2.out.set_ 6 (.slice A1 (l.length + 1) c1); simpa [rowC] using this)
       have HK7 : Hid (Kept (fun k => k = gr ∨ (Value.slice Av l.length cv).ownBlock = some k) w (w1'.setCell ⟨gr, 6, none⟩ (.slice A1 (l.length + 1) c1))) := by
         refine Kept.setCell (p := ⟨gr, 6, none⟩) ?_ (fun _ => Or.inl rfl) _
         exact Kept.trans (Kept.of_fr (HFN.out.trans (((Kept.refl (fun _ => False) wn).alloc _).drew))) (Kept.mono hk1 (fun _ _ h => Or.inr h))
       have HA7 := Lib.hid ((Blk.kept ((HAN.out.alloc _).drew) hk1 (fun e => by have := hgo _ e; omega)).far (p := ⟨gr, 6, none⟩) (by simp only; omega) (.slice A1 (l.length + 1) c1))
       have hs1' := Blk.kept ((HSN.out.alloc _).drew) hk1 (fun e => by have := hgo _ e; omega)
       have HS7 := Lib.hid (hs1'.far (p := ⟨gr, 6, none⟩) (by simp only; omega) (.slice A1 (l.length + 1) c1))
       have HO7 := Lib.hid (own_kept hown1 ((Kept.refl (fun k => k = gr) w1').setCell (p := ⟨gr, 6, none⟩) (fun _ => rfl) (.slice A1 (l.length + 1) c1)) (fun g hg e => own_blk_ne hown1 hrn2.out (by decide) (e ▸ hg)))
       have HN7 := Lib.hid (own_blk_ne hown1 hs1' (by decide))
       have HT7 : Hid (∀ g, (Value.slice A1 (l.length + 1) c1).ownBlock = some g → (Value.slice Av l.length cv).ownBlock = some g ∨ w.heap.size ≤ g) := fun g hg => by
         rcases hat1 with e | e
         · rw [e] at hg; exact Or.inl hg
         · rw [e] at hg; cases hg; right; simp; omega
       have z9 := HR7.out.lt
       clear hown1 hk1 hat1 hrn2 yb2 zr2 c6 hs1' b6 yb zr m0 m1 m2 m3 m4 m5 zm HMN HAN HRN HBN HSN HFN hgo
       obtain ⟨w9, hw9⟩ : ∃ w9 : World, w9 = w1'.setCell ⟨gr, 6, none⟩ (.slice A1 (l.length + 1) c1) := ⟨_, rfl⟩
       rw [← hw9] at HR7 HK7 HA7 HS7 HO7 z9 ⊢
       have HW9 := Lib.hid hw9
       clear hw9
       have a0 := HA7.out.cell 0
       have a1 := HA7.out.cell 1
       have za := HA7.out.lt
       have s0 := HS7.out.cell 0
       have s1 := HS7.out.cell 1
       have zs := HS7.out.lt
       have ys0 := HS7.out.frozen 0
       have ys1 := HS7.out.frozen 1
       simp only [List.getElem?_toArray, List.getElem?_cons_succ, List.getElem?_cons_zero] at a0 a1 s0 s1
       go_wp2
       refine bodyPost_ret (v := .agg #[.int .i64 sk, .int .i64 sn]) ?_ rfl ?_
       · simp [results, Tryz.results60, go_sem, s0, s1]
       · have hkS : Kept (fun k => k = w.heap.size) w9 ((w9.setCell ⟨w.heap.size, 0, none⟩ (.int .i64 sk)).setCell ⟨w.heap.size, 1, none⟩ (.int .i64 sn)) := ((Kept.refl (fun k => k = w.heap.size) w9).setCell (p := ⟨w.heap.size, 0, none⟩) (fun _ => rfl) _).setCell (p := ⟨w.heap.size, 1, none⟩) (fun _ => rfl) _
         refine HDEF.out _ _ ⟨rfl, .slice A1 (l.length + 1) c1, HR7.out.kept hkS (by omega), ?_, HK7.out.then hkS (fun i hi e => by omega), HT7.out⟩
         have := own_kept HO7.out hkS (fun g hg e => HN7.out (e ▸ hg))
         simpa [Mv.cells, slotP] using this
 · obtain ⟨wm, hwm⟩ : ∃ wm : World, wm = ((wq.alloc (.cells #[.int .i64 sk, .int .i64 sn, .int .i64 3, .int .i64 (t : Int), .bool false, .int .u32 0] 141)).alloc (.cells #[.int .i64 3, .int .i64 (t : Int)] 99)).drew := ⟨_, rfl⟩
   have HMB := Lib.hid (show Blk wm wq.heap.size 141 #[.int .i64 sk, .int .i64 sn, .int .i64 3, .int .i64 (t : Int), .bool false, .int .u32 0] from by rw [hwm]; exact ((Blk.new wq 141 #[.int .i64 sk, .int .i64 sn, .int .i64 3, .int .i64 (t : Int), .bool false, .int .u32 0]).alloc _).drew)
   have HFQ := Lib.hid (show Fr wq wm from by rw [hwm]; exact (((Kept.refl _ wq).alloc _).alloc _).drew)
   have HFM := Lib.hid (HF1.out.trans HFQ.out)
   have HAM := Lib.hid (HA1.out.kept HFQ.out (fun h => h))
   have HRS := Lib.hid (hres1.out.kept HFQ.out (fun h => h))
   have HRM := Lib.hid (HR.out.kept HFM.out (fun h => h))
   have HBM := Lib.hid (own_kept HB.out HFM.out (fun _ _ h => h))
   have HOL := Lib.hid (fun g hg => (own_lt HB.out (g := g) hg))
   obtain ⟨Av, cv, rfl, hvl, _⟩ := own_reads HB.out
   have hzm : wq.heap.size + 2 ≤ wm.heap.size := by rw [hwm]; simp
   rw [← hwm]
   clear hwm HWQ HA1 hres1 a0 a1 za hnw
   have hrg := fun w2 => run_range_none (P := Tryz.prog) Tryz.underlying133 w2
   have hsx : (wm.alloc (.mapIter none 0 #[] 0)).heap[wm.heap.size]? = some (.mapIter none 0 #[] 0) := heap_alloc_new wm _
   go_wp2
   clear hrg
   go_loopw [] (fun wr => wr = wm.alloc (.mapIter none 0 #[] 0)) (fun _ => 0)
   case atStart => exact rfl
   case round =>
     obtain rfl := hrel
     have hnx := fun ty => run_next_none (P := Tryz.prog) hsx ty
     have HF9 := Lib.hid ((Kept.refl (fun _ => False) wm).alloc (.mapIter none 0 #[] 0))
     obtain ⟨wn, hwn⟩ : ∃ wn : World, wn = wm.alloc (.mapIter none 0 #[] 0) := ⟨_, rfl⟩
     rw [← hwn] at hnx HF9 ⊢
     have hzn : wm.heap.size + 1 ≤ wn.heap.size := by rw [hwn]; simp
     clear hsx hwn
     have HMN := Lib.hid (HMB.out.kept HF9.out (fun h => h))
     have HAN := Lib.hid (HAM.out.kept HF9.out (fun h => h))
     have HRN := Lib.hid (HRM.out.kept HF9.out (fun h => h))
     have HBN := Lib.hid (own_kept HBM.out HF9.out (fun _ _ h => h))
     have HSN := Lib.hid (HRS.out.kept HF9.out (fun h => h))
     have HFN := Lib.hid (HFM.out.trans HF9.out)
     have b6 := HRN.out.cell 6
     have yb := HRN.out.frozen 6
     have zr := HRN.out.lt
     have m0 := HMN.out.cell 0
     have m1 := HMN.out.cell 1
     have m2 := HMN.out.cell 2
     have m3 := HMN.out.cell 3
     have m4 := HMN.out.cell 4
     have m5 := HMN.out.cell 5
     have zm := HMN.out.lt
     unfold rowC at b6
     simp only [List.getElem?_toArray, List.getElem?_cons_succ, List.getElem?_cons_zero] at b6 m0 m1 m2 m3 m4 m5
     have hgo : ∀ g, (Value.slice Av l.length cv).ownBlock = some g → g < w.heap.size := fun g hg => (HOL.out g hg).2
     go_wp2
     go_region_law ((refine step_app (base := base) (by rfl) slMv (.tmp 62) (.tmp 64) (by rfl) (.slice Av l.length cv) l.length _ (by rfl) ((World.ownsRow.alloc HBN.out _).drew_) (fun _ => True) _ 1 1 _ (by rfl) (Reads.lit' (by simp) trivial rfl) (by simp [Value.oneCell']) (by omega) (by unfold maxLen; omega) (by simp; omega) ?_; intro v1 w1' hown1 hk1 hat1; have hrn2 := Lib.hid (Blk.kept ((HRN.out.alloc _).drew) hk1 (own_blk_ne HBN.out HRN.out (by decide))); have yb2 := hrn2.out.frozen 6; have zr2 := hrn2.out.lt; have c6 := hrn2.out.cell 6; unfold rowC at c6; simp only [List.getElem?_toArray, List.getElem?_cons_succ, List.getElem?_cons_zero] at c6; obtain ⟨A1, c1, rfl, _⟩ := own_reads hown1))
     all_goals
       have HR7 := Lib.hid (show Blk (w1'.setCell ⟨gr, 6, none⟩ (.slice A1 (l.length + 1) c1)) gr 102 (rowC d a b (.slice A1 (l.length + 1) c1) va) from by have := hrn2.out.set_ 6 (.slice A1 (l.length + 1) c1); simpa [rowC] using this)
       have HK7 : Hid (Kept (fun k => k = gr ∨ (Value.slice Av l.length cv).ownBlock = some k) w (w1'.setCell ⟨gr, 6, none⟩ (.slice A1 (l.length + 1) c1))) := by
         refine Kept.setCell (p := ⟨gr, 6, none⟩) ?_ (fun _ => Or.inl rfl) _
         exact Kept.trans (Kept.of_fr (HFN.out.trans (((Kept.refl (fun _ => False) wn).alloc _).drew))) (Kept.mono hk1 (fun _ _ h => Or.inr h))
       have HA7 := Lib.hid ((Blk.kept ((HAN.out.alloc _).drew) hk1 (fun e => by have := hgo _ e; omega)).far (p := ⟨gr, 6, none⟩) (by simp only; omega) (.slice A1 (l.length + 1) c1))
       have hs1' := Blk.kept ((HSN.out.alloc _).drew) hk1 (fun e => by have := hgo _ e; omega)
       have HS7 := Lib.hid (hs1'.far (p := ⟨gr, 6, none⟩) (by simp only; omega) (.slice A1 (l.length + 1) c1))
       have HO7 := Lib.hid (own_kept hown1 ((Kept.refl (fun k => k = gr) w1').setCell (p := ⟨gr, 6, none⟩) (fun _ => rfl) (.slice A1 (l.length + 1) c1)) (fun g hg e => own_blk_ne hown1 hrn2.out (by decide) (e ▸ hg)))
       have HN7 := Lib.hid (own_blk_ne hown1 hs1' (by decide))
       have HT7 : Hid (∀ g, (Value.slice A1 (l.length + 1) c1).ownBlock = some g → (Value.slice Av l.length cv).ownBlock = some g ∨ w.heap.size ≤ g) := fun g hg => by
         rcases hat1 with e | e
         · rw [e] at hg; exact Or.inl hg
         · rw [e] at hg; cases hg; right; simp; omega
       have z9 := HR7.out.lt
       clear hown1 hk1 hat1 hrn2 yb2 zr2 c6 hs1' b6 yb zr m0 m1 m2 m3 m4 m5 zm HMN HAN HRN HBN HSN HFN hgo
       obtain ⟨w9, hw9⟩ : ∃ w9 : World, w9 = w1'.setCell ⟨gr, 6, none⟩ (.slice A1 (l.length + 1) c1) := ⟨_, rfl⟩
       rw [← hw9] at HR7 HK7 HA7 HS7 HO7 z9 ⊢
       have HW9 := Lib.hid hw9
       clear hw9
       have a0 := HA7.out.cell 0
       have a1 := HA7.out.cell 1
       have za := HA7.out.lt
       have s0 := HS7.out.cell 0
       have s1 := HS7.out.cell 1
       have zs := HS7.out.lt
       have ys0 := HS7.out.frozen 0
       have ys1 := HS7.out.frozen 1
       simp only [List.getElem?_toArray, List.getElem?_cons_succ, List.getElem?_cons_zero] at a0 a1 s0 s1
       go_wp2
       refine bodyPost_ret (v := .agg #[.int .i64 sk, .int .i64 sn]) ?_ rfl ?_
       · simp [results, Tryz.results60, go_sem, s0, s1]
       · have hkS : Kept (fun k => k = w.heap.size) w9 ((w9.setCell ⟨w.heap.size, 0, none⟩ (.int .i64 sk)).setCell ⟨w.heap.size, 1, none⟩ (.int .i64 sn)) := ((Kept.refl (fun k => k = w.heap.size) w9).setCell (p := ⟨w.heap.size, 0, none⟩) (fun _ => rfl) _).setCell (p := ⟨w.heap.size, 1, none⟩) (fun _ => rfl) _
         refine HDEF.out _ _ ⟨rfl, .slice A1 (l.length + 1) c1, HR7.out.kept hkS (by omega), ?_, HK7.out.then hkS (fun i hi e => by omega), HT7.out⟩
         have := own_kept HO7.out hkS (fun g hg e => HN7.out (e ▸ hg))
         simpa [Mv.cells, slotP] using this
end Go.Proofs.YtodmkjeankbieaaGreatDoor


namespace Go.Proofs.YtodmkjeankbieaaGreatDoor
open Go.RowKit Go.Sort Go.Maps Go.ChangeMaps

section
variable {P : Program} {T K E : TypeId} {α : Type} {ok : α → Prop} {val : α → Value} {lit : α → Lit}
theorem SetAt.same {w w2 : World} {b n : Nat} {S : α → Prop} (h : SetAt P K E ok lit w b n S) (e : w2.heap[b]? = w.heap[b]?) : SetAt P K E ok lit w2 b n S := by
 obtain ⟨D, ⟨es, clock, hb, r⟩, rest⟩ := h
 exact ⟨D, ⟨es, clock, e.trans hb, r⟩, rest⟩
def Pend (P : Program) (T K E : TypeId) (ok : α → Prop) (lit : α → Lit) (w : World) (b n : Nat) (S : α → Prop) (X : α) (st : Int) : Prop :=
 ∀ w2 : World, w2.heap[b]? = w.heap[b]? → ∃ w3, (Instr.entryStore T (.map (some b)) (goInt st) (.bool true)).run P w2 = .ok () w3 ∧ SetAt P K E ok lit w3 b (n + 1) (fun y => S y ∨ y = X) ∧ Kept (fun k => k = b) w2 w3
theorem kept_setBlock {w : World} {b : Nat} {o : Obj} (hb : b < w.heap.size) : Kept (fun k => k = b) w (setBlock w b o) := by
 refine ⟨rfl, rfl, rfl, ?_, fun i _ hi => ?_⟩
 · simp [setBlock]
 · simp only [setBlock]
   rw [Array.getElem?_setIfInBounds, if_neg (fun e => hi e.symm)]
theorem SetAt.entry (hT : SetTy P T K E ok val lit) (KL : WideMaps.KeyLaw P K) {w : World} {b n : Nat} {S : α → Prop} (h : SetAt P K E ok lit w b n S) (hn : n < maxLen) {x : α} (hx : ok x) :
   ∃ (v0 : Value) (st : Int) (w1 : World), (Instr.mapEntry T (.map (some b)) (val x)).run P w = .ok (.tuple #[v0, goInt st]) w1 ∧ Kept (fun k => k = b) w w1 ∧ Pend P T K E ok lit w1 b n S x st := by
 obtain ⟨w', hrun, hs, _⟩ := h.store hT hn hx
 have hlt := h.lt
 obtain ⟨D, ⟨es, clock, hb, F, hsz, hD⟩, rest⟩ := h
 obtain ⟨v0, st, es1, clock1, h1, _, h3⟩ := WideElems.entry_then_store KL hT.ht hT.hz hb F (hT.key x hx)
 refine ⟨v0, st, _, h1, kept_setBlock hlt, fun w2 hw2 => ?_⟩
 have hb1 : (setBlock w b (.map es1 clock1)).heap[b]? = some (.map es1 clock1) := by simp [setBlock, hlt]
 obtain ⟨es', clock', h4, h5⟩ := h3 w2 (.bool true) (hw2.trans hb1)
 have hl2 : b < w2.heap.size := by
   have := hw2.trans hb1
   exact (Array.getElem?_eq_some_iff.1 this).1
 refine ⟨_, h4, ?_, kept_setBlock hl2⟩
 rw [hrun] at h5
 have e : w' = setBlock w b (.map es' clock') := by injection h5
 subst e
 exact hs.same (by simp [setBlock, hlt, hl2])

variable {w : World} {ops : Array Oper} {o : Oper} {a : Act} {Kk : Act → World → Prop} {Q : Exit → Act → World → Prop} {EE : Prop}
end
theorem fact_law : WideMaps.KeyLaw Tryz.prog 165 := deep_law_laid (m := 3) (by kernel_rfl) (by decide) (of_decide_eq_true (by kernel_rfl)) (by kernel_rfl) (by kernel_rfl)
end Go.Proofs.YtodmkjeankbieaaGreatDoor

