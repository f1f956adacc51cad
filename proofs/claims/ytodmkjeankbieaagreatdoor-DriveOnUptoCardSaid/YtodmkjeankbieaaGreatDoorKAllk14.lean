/- Texts of this claim, packed. -/
import Derived.Test.YtodmkjeankbieaaGreatDoorKAllk13
set_option linter.all false
namespace Go.Proofs.YtodmkjeankbieaaGreatDoor
open Go.RowKit Go.Sort Go.Maps

noncomputable def knS (S : FS) (t : Int) : Option Nat := open Classical in if h : ∃ n, S (knF t n) then some (Classical.choose h) else none
def takeMv (wide : List Bool) (sg t j : Int) (q : Option Nat) : Mv := match q with | none => ⟨scr wide sg t j, slotP t, false, 0⟩ | some n => ⟨scr wide sg t j, ⟨0, 0⟩, true, n⟩
theorem knS_some {S : FS} {t : Int} {n : Nat} (h : S (knF t n)) (hu : ∀ n n', S (knF t n) → S (knF t n') → n = n') : knS S t = some n := by
 have hx : ∃ n, S (knF t n) := ⟨n, h⟩
 unfold knS
 rw [dif_pos hx, hu _ n (Classical.choose_spec hx) h]
theorem knS_none {S : FS} {t : Int} (h : ∀ n, ¬ S (knF t n)) : knS S t = none := by
 unfold knS
 rw [dif_neg (fun ⟨n, hn⟩ => h n hn)]
def mvC (sk sn t : Int) : Option Nat → Array Value
 | none => #[.int .i64 sk, .int .i64 sn, .int .i64 3, .int .i64 t, .bool false, .int .u32 0]
 | some n => #[.int .i64 sk, .int .i64 sn, .int .i64 0, .int .i64 0, .bool true, .int .u32 (n : Int)]
theorem mvC_letters (sk sn t : Int) (q : Option Nat) : ∃ (x2 x3 : Int) (x4 : Bool) (x5 : Nat), mvC sk sn t q = #[.int .i64 sk, .int .i64 sn, .int .i64 x2, .int .i64 x3, .bool x4, .int .u32 (x5 : Int)] ∧ (match q with | none => (⟨⟨sk, sn⟩, slotP t, false, 0⟩ : Mv) | some n => ⟨⟨sk, sn⟩, ⟨0, 0⟩, true, n⟩) = ⟨⟨sk, sn⟩, ⟨x2, x3⟩, x4, x5⟩ := by
 cases q with
 | none => exact ⟨3, t, false, 0, rfl, rfl⟩
 | some n => exact ⟨0, 0, true, n, rfl, rfl⟩
structure VisS (S L : FS) (t : Int) (q : Option Nat) : Prop where
 no : q = none → ∀ f, S f → ¬ L f → ¬ (f.pl.k = 0 ∧ f.t = t)
 yes : ∀ n, q = some n → S (knF t n)
theorem VisS.start (S : FS) (t : Int) : VisS S S t none := ⟨fun _ f h1 h2 => absurd h1 h2, fun n h => by cases h⟩
theorem VisS.done {S L : FS} {t : Int} {q : Option Nat} (h : VisS S L t q) (hl : ∀ f, ¬ L f) (hu : ∀ n n', S (knF t n) → S (knF t n') → n = n') (_hk : ∀ f, S f → f.pl.k = 0 → f = knF f.t f.n) : knS S t = q := by
 cases q with
 | some n => exact knS_some (h.yes n rfl) hu
 | none => exact knS_none fun n hn => h.no rfl _ hn (hl _) ⟨rfl, rfl⟩
theorem VisS.skip {S L : FS} {t : Int} {q : Option Nat} {f : Fc} (h : VisS S L t q) (hf : ¬ (f.pl.k = 0 ∧ f.t = t)) : VisS S (fun y => L y ∧ y ≠ f) t q :=
 ⟨fun hq g h1 h2 => by
   by_cases e : g = f
   · subst e; exact hf
   · exact h.no hq g h1 (fun hc => h2 ⟨hc, e⟩), h.yes⟩
theorem VisS.hit {S L : FS} {t : Int} {q : Option Nat} {f : Fc} (_h : VisS S L t q) (hs : S (knF t f.n)) : VisS S (fun y => L y ∧ y ≠ f) t (some f.n) :=
 ⟨(fun hq => by cases hq), fun n hn => by cases hn; exact hs⟩
theorem fact_kn {p : Pg} {sg sl : Nat} {S : FS} (hU : InU p sg sl S) : ∀ f, S f → f.pl.k = 0 → f = knF f.t f.n := by
 intro f hf h0
 obtain ⟨h1, h2, _⟩ := factIn_k0 (hU f hf) h0
 obtain ⟨pl, temp, t, n⟩ := f
 simp only at h1 h2
 subst h1; subst h2; rfl

set_option maxHeartbeats 2000000 in
set_option maxRecDepth 100000 in
theorem takes_set (base gr gb g0 : Nat) (R : Nat → Prop) (p : Pg) (A : Option Addr) (c : Nat) (A' : Option Addr) (c' sg : Nat) (o : Nat → PlaceV) (d a b : PlaceV) (vb va : Value) (l : List Mv) (t j : Nat) (bk : Nat) (S : FS) (sl : Nat) (w : World) (h : Bd w gb g0 R p A c A' c' sg o) (ht : t < p.wide.length) (hj : j ≤ 1) (hs : 4 ≤ sg) (hs1 : sg ≤ 16)
   (hr : Blk w gr 102 (rowC d a b vb va)) (hb : w.ownsRow base 141 6 vb l.length (l.flatMap Mv.cells)) (hl : l.length ≤ 10) (hbase : base ≤ w.heap.size) (hk : (o t).k = 0) (hS : FSet w bk 2400 S) (hU : InU p sg sl S) (hq : ∀ n n', S (knF (t : Int) n) → S (knF (t : Int) n') → n = n') :
   Calls Tryz.prog 60 #[.pointer (some ⟨gb, 0, none⟩), .pointer (some ⟨gr, 0, none⟩), .int .i64 (t : Int), .int .i64 (j : Int), .map (some bk)] w (TakePost w base gr d a b vb va (l ++ [takeMv p.wide (sg : Int) (t : Int) (j : Int) (knS S (t : Int))]) (scr p.wide (sg : Int) (t : Int) (j : Int))) := by
 have q3 := h.bm.bb.cell 3
 have zb := h.bm.bb.lt
 have zo := h.ob.lt
 simp only [List.getElem?_toArray, List.getElem?_cons_succ, List.getElem?_cons_zero] at q3
 obtain ⟨d0, _⟩ := mkP_at (o := o) ht
 have e0 := (h.ob.cell (t * 2)).trans d0
 rw [hk] at e0
 have ht0 : (0 : Int) ≤ (t : Int) := by omega
 have ht1 : (t : Int) < (p.wide.length : Int) := by omega
 have HSC := Lib.hid (fun w2 (hf : Fr w w2) => scratch_any gb R p A c A' c' sg _ t j w2 (h.bm.kept hf (fun h => h)) (h.wide.kept hf (fun _ _ h => h)) ht hj hs hs1)
 have HSL := Lib.hid (fun w2 => slot_any (t : Int) w2)
 have HR := Lib.hid hr
 have HSET := Lib.hid hS
 have HUNI := Lib.hid hq
 have HKIN := Lib.hid (fact_kn hU)
 have HB := Lib.hid hb
 have hrl := hr.lt
 have HDEF : Hid (∀ e w', (e = Ending.returned (scr p.wide (sg : Int) (t : Int) (j : Int)).val ∧ ∃ vb', Blk w' gr 102 (rowC d a b vb' va) ∧ w'.ownsRow base 141 6 vb' (l ++ [takeMv p.wide (sg : Int) (t : Int) (j : Int) (knS S (t : Int))]).length ((l ++ [takeMv p.wide (sg : Int) (t : Int) (j : Int) (knS S (t : Int))]).flatMap Mv.cells) ∧ Kept (fun k => k = gr ∨ vb.ownBlock = some k) w w' ∧ ∀ g, vb'.ownBlock = some g → vb.ownBlock = some g ∨ w.heap.size ≤ g) → TakePost w base gr d a b vb va (l ++ [takeMv p.wide (sg : Int) (t : Int) (j : Int) (knS S (t : Int))]) (scr p.wide (sg : Int) (t : Int) (j : Int)) e w') := fun _ _ h => h
 clear h hr hb d0 hk hS hq hU
 have hmv0 : takeMv p.wide (sg : Int) (t : Int) (j : Int) (knS S (t : Int)) = (match knS S (t : Int) with | none => ⟨scr p.wide (sg : Int) (t : Int) (j : Int), slotP (t : Int), false, 0⟩ | some n => ⟨scr p.wide (sg : Int) (t : Int) (j : Int), ⟨0, 0⟩, true, n⟩) := rfl
 generalize takeMv p.wide (sg : Int) (t : Int) (j : Int) (knS S (t : Int)) = mv at *
 generalize scr p.wide (sg : Int) (t : Int) (j : Int) = sc at *
 obtain ⟨sk, sn⟩ := sc
 unfold PlaceV.val at HSC HDEF
 unfold slotP PlaceV.val at HSL
 simp only at HSC HSL HDEF
 have hF0 : Fr w (w.alloc (.cells #[.int .i64 0, .int .i64 0] 99)) := (Kept.refl _ w).alloc _
 have HF0 := Lib.hid hF0
 have hres := Lib.hid (Blk.new w 99 #[.int .i64 0, .int .i64 0])
 clear hF0
 have HMV := Lib.hid hmv0
 clear hmv0
 go_enter Tryz.func60, Tryz.ntmps60
 go_wp2_with fail
 refine (HSC.out _ HF0.out).mono ?_
 rintro e w1 ⟨rfl, f1⟩
 have HA1 := Lib.hid (Blk.new w1 99 #[.int .i64 sk, .int .i64 sn])
 have f1a : Fr w1 (w1.alloc (.cells #[.int .i64 sk, .int .i64 sn] 99)) := (Kept.refl _ w1).alloc _
 have HF1 := Lib.hid (HF0.out.trans (f1.trans f1a))
 have hres1 := Lib.hid ((hres.out.kept f1 (fun h => h)).kept f1a (fun h => h))
 have hzz : w.heap.size + 1 ≤ w1.heap.size := by have := f1.size; simpa using this
 have a0 := HA1.out.cell 0
 have a1 := HA1.out.cell 1
 have za := HA1.out.lt
 simp only [List.getElem?_toArray, List.getElem?_cons_succ, List.getElem?_cons_zero] at a0 a1
 obtain ⟨wq, hwq⟩ : ∃ wq : World, wq = w1.alloc (.cells #[.int .i64 sk, .int .i64 sn] 99) := ⟨_, rfl⟩
 rw [← hwq] at HA1 HF1 hres1 a0 a1 za
 have HWQ := Lib.hid hwq
 have hzq : w1.heap.size + 1 ≤ wq.heap.size := by rw [hwq]; simp
 have hnw := World.new_ne wq ⟨w1.heap.size, 0, none⟩ a0
 clear f1 f1a HF0 hres HSC q3 zb zo e0 hwq
 go_wp2
 rw [← HWQ.out]
 go_region_held3 (fun w' => w'.cell? ⟨w1.heap.size, 0, none⟩ = some (.int .i64 sk) ∧ w'.cell? ⟨w1.heap.size, 1, none⟩ = some (.int .i64 sn))
   (first
     | go_keep)
   ((go_at_call 62; refine (HSL.out _).mono ?_; rintro e wa ⟨rfl, rfl⟩))
 · obtain ⟨wm, hwm⟩ : ∃ wm : World, wm = ((wq.alloc (.cells #[.int .i64 3, .int .i64 (t : Int)] 99)).alloc (.cells #[.int .i64 sk, .int .i64 sn, .int .i64 3, .int .i64 (t : Int), .bool false, .int .u32 0] 141)).drew := ⟨_, rfl⟩
   have HMB := Lib.hid (show Blk wm (wq.heap.size + 1) 141 #[.int .i64 sk, .int .i64 sn, .int .i64 3, .int .i64 (t : Int), .bool false, .int .u32 0] from by rw [hwm]; have := (Blk.new (wq.alloc (.cells #[.int .i64 3, .int .i64 (t : Int)] 99)) 141 #[.int .i64 sk, .int .i64 sn, .int .i64 3, .int .i64 (t : Int), .bool false, .int .u32 0]).drew; simpa using this)
   have HFQ := Lib.hid (show Fr wq wm from by rw [hwm]; exact (((Kept.refl _ wq).alloc _).alloc _).drew)
   have HFM := Lib.hid (HF1.out.trans HFQ.out)
   have HAM := Lib.hid (HA1.out.kept HFQ.out (fun h => h))
   have HRS := Lib.hid (hres1.out.kept HFQ.out (fun h => h))
   have HRM := Lib.hid (HR.out.kept HFM.out (fun h => h))
   have HBM := Lib.hid (own_kept HB.out HFM.out (fun _ _ h => h))
   have HOL := Lib.hid (fun g hg => (own_lt HB.out (g := g) hg))
   obtain ⟨Av, cv, rfl, hvl, _⟩ := own_reads HB.out
   have hzm : wq.heap.size + 2 ≤ wm.heap.size := by rw [hwm]; simp
   rw [← hwm]
   clear hwm HWQ HA1 hres1 a0 a1 za hnw
   have HSM := Lib.hid (HSET.out.kept HFM.out (fun h => h))
   have hgz : (wq.heap.size + 1) < wm.heap.size := by omega
   go_wp2_with (first
     | (at_range; refine wpList_set_range _ rfl _ rfl setTy bk 2400 S rfl HSM.out ?_; intro w0 cnt hrg hk hs hle; go_frame)
     | go_in)
   have HRG0 := Lib.hid (show FRange w0 bk wm.heap.size 2400 S S cnt from hrg)
   have HK0 := Lib.hid (show Kept (fun k => k = (wq.heap.size + 1) ∨ k = wm.heap.size) wm w0 from Kept.of_fr hk)
   have HM0 := Lib.hid (show Blk w0 (wq.heap.size + 1) 141 (mvC sk sn (t : Int) none) from HMB.out.kept hk (fun h => h))
   have HV0 := Lib.hid (VisS.start S (t : Int))
   clear hrg hk hs
   go_loopw [13] (fun _ wr => ∃ (L : FS) (cnt : Nat) (q : Option Nat), Hid (FRange wr bk wm.heap.size 2400 S L cnt) ∧ Hid (Kept (fun k => k = (wq.heap.size + 1) ∨ k = wm.heap.size) wm wr) ∧ Hid (Blk wr (wq.heap.size + 1) 141 (mvC sk sn (t : Int) q)) ∧ Hid (VisS S L (t : Int) q)) (fun _ wr => wr.rangeLeft bk wm.heap.size)
   case atStart => exact ⟨S, cnt, none, HRG0, HK0, HM0, HV0⟩
   case round =>
     obtain ⟨L, cn, q, hrgx, hkx, hmx, hvx⟩ := hrel
     clear HRG0 HK0 HM0 HV0 hle
     have hzx := hkx.out.size
     have HAX := Lib.hid (HAM.out.kept hkx.out (by omega))
     have ax0 := HAX.out.cell 0
     have ax1 := HAX.out.cell 1
     have zax := HAX.out.lt
     simp only [List.getElem?_toArray, List.getElem?_cons_succ, List.getElem?_cons_zero] at ax0 ax1
     go_wp2_with (first
       | (at_next; refine wpList_set_next _ rfl _ rfl setTy bk wm.heap.size 2400 S L cn rfl hrgx.out ?_ ?_)
       | go_in)
     · intro _ hl0
       have HQ := Lib.hid (hvx.out.done hl0 HUNI.out HKIN.out)
       obtain ⟨x2, x3, x4, x5, hmc⟩ := mvC_letters sk sn (t : Int) q
       have HMC := Lib.hid hmc
       rw [hmc.1] at hmx
       clear hmc hvx hrgx ax0 ax1 zax
       have HME : Hid (mv = ⟨⟨sk, sn⟩, ⟨x2, x3⟩, x4, x5⟩) := by show _ = _; rw [HMV.out, HQ.out]; exact HMC.out.2
       obtain ⟨wn, rfl⟩ : ∃ wn : World, wn = wr := ⟨_, rfl⟩
       have HMN := hmx
       have HAN := HAX
       have HRN := Lib.hid (HRM.out.kept hkx.out (by omega))
       have HBN := Lib.hid (own_kept HBM.out hkx.out (fun g hg e => by have := (HOL.out g hg).2; omega))
       have HSN := Lib.hid (HRS.out.kept hkx.out (by omega))
       have HFN := Lib.hid (HFM.out.then hkx.out (fun i hi e => by omega))
       have hzn := hzx
       have b6 := HRN.out.cell 6
       have yb := HRN.out.frozen 6
       have zr := HRN.out.lt
       have m0 := HMN.out.cell 0
       have m1 := HMN.out.cell 1
       have m2 := HMN.out.cell 2
       have m3 := HMN.out.cell 3
       have m4 := HMN.out.cell 4
       have m5 := HMN.out.cell 5
       have zm := HMN.out.lt
       unfold rowC at b6
       simp only [List.getElem?_toArray, List.getElem?_cons_succ, List.getElem?_cons_zero] at b6 m0 m1 m2 m3 m4 m5
       clear HMV HMC HQ
       have hgo : ∀ g, (Value.slice Av l.length cv).ownBlock = some g → g < w.heap.size := fun g hg => (HOL.out g hg).2
       go_wp2
       go_region_law ((refine step_app (base := base) (by rfl) slMv (.tmp 62) (.tmp 64) (by rfl) (.slice Av l.length cv) l.length _ (by rfl) ((World.ownsRow.alloc HBN.out _).drew_) (fun _ => True) _ 1 1 _ (by rfl) (Reads.lit' (by simp) trivial rfl) (by simp [Value.oneCell']) (by omega) (by unfold maxLen; omega) (by simp; omega) ?_; intro v1 w1' hown1 hk1 hat1; have hrn2 := Lib.hid (Blk.kept ((HRN.out.alloc _).drew) hk1 (own_blk_ne HBN.out HRN.out (by decide))); have yb2 := hrn2.out.frozen 6; have zr2 := hrn2.out.lt; have c6 := hrn2.out.cell 6; unfold rowC at c6; simp only [List.getElem?_toArray, List.getElem?_cons_succ, List.getElem?_cons_zero] at c6; obtain ⟨A1, c1, rfl, _⟩ := own_reads hown1))
       all_goals
         have HR7 := Lib.hid (show Blk (w1'.setCell ⟨gr, 6, none⟩ (.slice A1 (l.length + 1) c1)) gr 102 (rowC d a b (.slice A1 (l.length + 1) c1) va) from by have := hrn2.out.set_ 6 (.slice A1 (l.length + 1) c1); simpa [rowC] using this)
         have HK7 : Hid (Kept (fun k => k = gr ∨ (Value.slice Av l.length cv).ownBlock = some k) w (w1'.setCell ⟨gr, 6, none⟩ (.slice A1 (l.length + 1) c1))) := by
           refine Kept.setCell (p := ⟨gr, 6, none⟩) ?_ (fun _ => Or.inl rfl) _
           exact Kept.trans (Kept.of_fr (HFN.out.trans (((Kept.refl (fun _ => False) wn).alloc _).drew))) (Kept.mono hk1 (fun _ _ h => Or.inr h))
         have HA7 := Lib.hid ((Blk.kept ((HAN.out.alloc _).drew) hk1 (fun e => by have := hgo _ e; omega)).far (p := ⟨gr, 6, none⟩) (by simp only; omega) (.slice A1 (l.length + 1) c1))
         have hs1' := Blk.kept ((HSN.out.alloc _).drew) hk1 (fun e => by have := hgo _ e; omega)
         have HS7 := Lib.hid (hs1'.far (p := ⟨gr, 6, none⟩) (by simp only; omega) (.slice A1 (l.length + 1) c1))
         have HO7 := Lib.hid (own_kept hown1 ((Kept.refl (fun k => k = gr) w1').setCell (p := ⟨gr, 6, none⟩) (fun _ => rfl) (.slice A1 (l.length + 1) c1)) (fun g hg e => own_blk_ne hown1 hrn2.out (by decide) (e ▸ hg)))
         have HN7 := Lib.hid (own_blk_ne hown1 hs1' (by decide))
         have HT7 : Hid (∀ g, (Value.slice A1 (l.length + 1) c1).ownBlock = some g → (Value.slice Av l.length cv).ownBlock = some g ∨ w.heap.size ≤ g) := fun g hg => by
           rcases hat1 with e | e
           · rw [e] at hg; exact Or.inl hg
           · rw [e] at hg; cases hg; right; simp; omega
         have z9 := HR7.out.lt
         clear hown1 hk1 hat1 hrn2 yb2 zr2 c6 hs1' b6 yb zr m0 m1 m2 m3 m4 m5 zm HMN HAN HRN HBN HSN HFN hgo
         obtain ⟨w9, hw9⟩ : ∃ w9 : World, w9 = w1'.setCell ⟨gr, 6, none⟩ (.slice A1 (l.length + 1) c1) := ⟨_, rfl⟩
         rw [← hw9] at HR7 HK7 HA7 HS7 HO7 z9 ⊢
         have HW9 := Lib.hid hw9
         clear hw9
         have a0 := HA7.out.cell 0
         have a1 := HA7.out.cell 1
         have za := HA7.out.lt
         have s0 := HS7.out.cell 0
         have s1 := HS7.out.cell 1
         have zs := HS7.out.lt
         have ys0 := HS7.out.frozen 0
         have ys1 := HS7.out.frozen 1
         simp only [List.getElem?_toArray, List.getElem?_cons_succ, List.getElem?_cons_zero] at a0 a1 s0 s1
         go_wp2
         refine bodyPost_ret (v := .agg #[.int .i64 sk, .int .i64 sn]) ?_ rfl ?_
         · simp [results, Tryz.results60, go_sem, s0, s1]
         · have hkS : Kept (fun k => k = w.heap.size) w9 ((w9.setCell ⟨w.heap.size, 0, none⟩ (.int .i64 sk)).setCell ⟨w.heap.size, 1, none⟩ (.int .i64 sn)) := ((Kept.refl (fun k => k = w.heap.size) w9).setCell (p := ⟨w.heap.size, 0, none⟩) (fun _ => rfl) _).setCell (p := ⟨w.heap.size, 1, none⟩) (fun _ => rfl) _
           refine HDEF.out _ _ ⟨rfl, .slice A1 (l.length + 1) c1, HR7.out.kept hkS (by omega), ?_, HK7.out.then hkS (fun i hi e => by omega), HT7.out⟩
           have := own_kept HO7.out hkS (fun g hg e => HN7.out (e ▸ hg))
           rw [HME.out]; simpa [Mv.cells] using this
     · intro f w1' cn1 hLf hrg1 hlt hk1 hs1 hen
       have hSf := FRange.sub hrgx.out f hLf
       have hok := FRange.ok hrgx.out f hSf
       have hkn := HKIN.out f hSf
       have hrne := hrgx.out.lt
       have hbne : bk ≠ (wq.heap.size + 1) := SetAt.ne_blk (hrgx.out.set) hmx.out
       have HK1 := Lib.hid (show Kept (fun k => k = (wq.heap.size + 1) ∨ k = wm.heap.size) wm w1' from hkx.out.trans (Kept.mono hk1 (fun _ _ h => Or.inr h)))
       have HM1 := Lib.hid (hmx.out.kept hk1 (by omega))
       have HAX1 := Lib.hid (HAX.out.kept hk1 (by omega))
       have HLE : Hid (wr.rangeLeft bk wm.heap.size = cn) := hrgx.out.left_eq
       have hz1 := hk1.size
       have F2 : Fr w1' (w1'.alloc (.cells f.cells 165)) := (Kept.refl _ w1').alloc _
       have HRG3 := Lib.hid (RangeAt.kept hrg1 F2 (fun h => h) (fun h => h))
       have HK3 := Lib.hid (HK1.out.trans (Kept.of_fr F2))
       have HM3 := Lib.hid (HM1.out.kept F2 (fun h => h))
       have HA3 := Lib.hid (HAX1.out.kept F2 (fun h => h))
       have a30 := HA3.out.cell 0
       have a31 := HA3.out.cell 1
       have za3 := HAX1.out.lt
       simp only [List.getElem?_toArray, List.getElem?_cons_succ, List.getElem?_cons_zero] at a30 a31
       clear F2 HK1 HM1 HAX1 hrg1 hk1 hs1 ax0 ax1 zax
       by_cases hqq : f.pl.k = 0 ∧ f.t = (t : Int)
       · have hSk : S (knF (t : Int) f.n) := by rw [← hqq.2, ← hkn hqq.1]; exact hSf
         have HV3 := Lib.hid (hvx.out.hit (f := f) hSk)
         have y0 := HM3.out.frozen 0
         have y1 := HM3.out.frozen 1
         have y2 := HM3.out.frozen 2
         have y3 := HM3.out.frozen 3
         have y4 := HM3.out.frozen 4
         have y5 := HM3.out.frozen 5
         have zm3 := HM3.out.lt
         obtain ⟨x2, x3, x4, x5, hmc, _⟩ := mvC_letters sk sn (t : Int) q
         have HM4 := HM3.out
         rw [hmc] at HM4
         have m0 := HM4.cell 0
         have m1 := HM4.cell 1
         have m2 := HM4.cell 2
         have m3 := HM4.cell 3
         have m4 := HM4.cell 4
         have m5 := HM4.cell 5
         simp only [List.getElem?_toArray, List.getElem?_cons_succ, List.getElem?_cons_zero] at m0 m1 m2 m3 m4 m5
         have HM4 := Lib.hid HM4
         clear hmc hvx hSk hkn
         obtain ⟨⟨fk, fn⟩, ft, tt, nn⟩ := f
         unfold Fc.cells at *
         unfold Fc.val at hen
         simp only at *
         obtain ⟨hk0, htt⟩ := hqq
         subst hk0; subst htt
         have hm5 := (((((HM4.out.set_ 0 (.int .i64 sk)).set_ 1 (.int .i64 sn)).set_ 2 (.int .i64 0)).set_ 3 (.int .i64 0)).set_ 4 (.bool true)).set_ 5 (.int .u32 (nn : Int))
         simp only [List.setIfInBounds_toArray, List.set_cons_zero, List.set_cons_succ] at hm5
         have HM5 := Lib.hid hm5
         have hkS : Kept (fun k => k = (wq.heap.size + 1)) (w1'.alloc (.cells #[.int .i64 0, .int .i64 fn, .bool ft, .int .i64 (t : Int), .int .u32 (nn : Int)] 165)) _ := ((((((Kept.refl (fun k => k = (wq.heap.size + 1)) (w1'.alloc (.cells #[.int .i64 0, .int .i64 fn, .bool ft, .int .i64 (t : Int), .int .u32 (nn : Int)] 165))).setCell (p := ⟨(wq.heap.size + 1), 0, none⟩) (fun _ => rfl) (.int .i64 sk)).setCell (p := ⟨(wq.heap.size + 1), 1, none⟩) (fun _ => rfl) (.int .i64 sn)).setCell (p := ⟨(wq.heap.size + 1), 2, none⟩) (fun _ => rfl) (.int .i64 0)).setCell (p := ⟨(wq.heap.size + 1), 3, none⟩) (fun _ => rfl) (.int .i64 0)).setCell (p := ⟨(wq.heap.size + 1), 4, none⟩) (fun _ => rfl) (.bool true)).setCell (p := ⟨(wq.heap.size + 1), 5, none⟩) (fun _ => rfl) (.int .u32 (nn : Int))
         have HRG5 := Lib.hid (RangeAt.kept HRG3.out hkS hbne (by omega))
         have HK5 := Lib.hid (HK3.out.trans (Kept.mono hkS (fun _ _ h => Or.inl h)))
         clear hm5 hkS HM4
         go_wp2
         go_roundw
         case rel => exact ⟨_, cn1, some nn, HRG5, HK5, HM5, HV3⟩
         case measure => rw [HRG5.out.left_eq, HLE.out]; exact hlt
       · have HV3 := Lib.hid (hvx.out.skip hqq)
         clear hvx hkn
         obtain ⟨⟨fk, fn⟩, ft, tt, nn⟩ := f
         unfold Fc.cells at HRG3 HK3 HM3 HA3 a30 a31
         unfold Fc.val at hen
         simp only at *
         by_cases hk0 : fk = 0
         · have htt : (tt == (t : Int)) = false := by
             rw [beq_eq_false_iff_ne]; exact fun e => hqq ⟨hk0, e⟩
           subst hk0
           clear hqq
           go_wp2
           go_roundw
           case rel => exact ⟨_, cn1, q, HRG3, HK3, HM3, HV3⟩
           case measure => rw [HRG3.out.left_eq, HLE.out]; exact hlt
         · have hk0' : (fk == 0) = false := by simpa using hk0
           clear hqq hk0
           go_wp2
           go_roundw
           case rel => exact ⟨_, cn1, q, HRG3, HK3, HM3, HV3⟩
           case measure => rw [HRG3.out.left_eq, HLE.out]; exact hlt
 · obtain ⟨wm, hwm⟩ : ∃ wm : World, wm = ((wq.alloc (.cells #[.int .i64 sk, .int .i64 sn, .int .i64 3, .int .i64 (t : Int), .bool false, .int .u32 0] 141)).alloc (.cells #[.int .i64 3, .int .i64 (t : Int)] 99)).drew := ⟨_, rfl⟩
   have HMB := Lib.hid (show Blk wm wq.heap.size 141 #[.int .i64 sk, .int .i64 sn, .int .i64 3, .int .i64 (t : Int), .bool false, .int .u32 0] from by rw [hwm]; exact ((Blk.new wq 141 #[.int .i64 sk, .int .i64 sn, .int .i64 3, .int .i64 (t : Int), .bool false, .int .u32 0]).alloc _).drew)
   have HFQ := Lib.hid (show Fr wq wm from by rw [hwm]; exact (((Kept.refl _ wq).alloc _).alloc _).drew)
   have HFM := Lib.hid (HF1.out.trans HFQ.out)
   have HAM := Lib.hid (HA1.out.kept HFQ.out (fun h => h))
   have HRS := Lib.hid (hres1.out.kept HFQ.out (fun h => h))
   have HRM := Lib.hid (HR.out.kept HFM.out (fun h => h))
   have HBM := Lib.hid (own_kept HB.out HFM.out (fun _ _ h => h))
   have HOL := Lib.hid (fun g hg => (own_lt HB.out (g := g) hg))
   obtain ⟨Av, cv, rfl, hvl, _⟩ := own_reads HB.out
   have hzm : wq.heap.size + 2 ≤ wm.heap.size := by rw [hwm]; simp
   rw [← hwm]
   clear hwm HWQ HA1 hres1 a0 a1 za hnw
   have HSM := Lib.hid (HSET.out.kept HFM.out (fun h => h))
   have hgz : wq.heap.size < wm.heap.size := by omega
   go_wp2_with (first
     | (at_range; refine wpList_set_range _ rfl _ rfl setTy bk 2400 S rfl HSM.out ?_; intro w0 cnt hrg hk hs hle; go_frame)
     | go_in)
   have HRG0 := Lib.hid (show FRange w0 bk wm.heap.size 2400 S S cnt from hrg)
   have HK0 := Lib.hid (show Kept (fun k => k = wq.heap.size ∨ k = wm.heap.size) wm w0 from Kept.of_fr hk)
   have HM0 := Lib.hid (show Blk w0 wq.heap.size 141 (mvC sk sn (t : Int) none) from HMB.out.kept hk (fun h => h))
   have HV0 := Lib.hid (VisS.start S (t : Int))
   clear hrg hk hs
   go_loopw [13] (fun _ wr => ∃ (L : FS) (cnt : Nat) (q : Option Nat), Hid (FRange wr bk wm.heap.size 2400 S L cnt) ∧ Hid (Kept (fun k => k = wq.heap.size ∨ k = wm.heap.size) wm wr) ∧ Hid (Blk wr wq.heap.size 141 (mvC sk sn (t : Int) q)) ∧ Hid (VisS S L (t : Int) q)) (fun _ wr => wr.rangeLeft bk wm.heap.size)
   case atStart => exact ⟨S, cnt, none, HRG0, HK0, HM0, HV0⟩
   case round =>
     obtain ⟨L, cn, q, hrgx, hkx, hmx, hvx⟩ := hrel
     clear HRG0 HK0 HM0 HV0 hle
     have hzx := hkx.out.size
     have HAX := Lib.hid (HAM.out.kept hkx.out (by omega))
     have ax0 := HAX.out.cell 0
     have ax1 := HAX.out.cell 1
     have zax := HAX.out.lt
     simp only [List.getElem?_toArray, List.getElem?_cons_succ, List.getElem?_cons_zero] at ax0 ax1
     go_wp2_with (first
       | (at_next; refine wpList_set_next _ rfl _ rfl setTy bk wm.heap.size 2400 S L cn rfl hrgx.out ?_ ?_)
       | go_in)
     · intro _ hl0
       have HQ := Lib.hid (hvx.out.done hl0 HUNI.out HKIN.out)
       obtain ⟨x2, x3, x4, x5, hmc⟩ := mvC_letters sk sn (t : Int) q
       have HMC := Lib.hid hmc
       rw [hmc.1] at hmx
       clear hmc hvx hrgx ax0 ax1 zax
       have HME : Hid (mv = ⟨⟨sk, sn⟩, ⟨x2, x3⟩, x4, x5⟩) := by show _ = _; rw [HMV.out, HQ.out]; exact HMC.out.2
       obtain ⟨wn, rfl⟩ : ∃ wn : World, wn = wr := ⟨_, rfl⟩
       have HMN := hmx
       have HAN := HAX
       have HRN := Lib.hid (HRM.out.kept hkx.out (by omega))
       have HBN := Lib.hid (own_kept HBM.out hkx.out (fun g hg e => by have := (HOL.out g hg).2; omega))
       have HSN := Lib.hid (HRS.out.kept hkx.out (by omega))
       have HFN := Lib.hid (HFM.out.then hkx.out (fun i hi e => by omega))
       have hzn := hzx
       have b6 := HRN.out.cell 6
       have yb := HRN.out.frozen 6
       have zr := HRN.out.lt
       have m0 := HMN.out.cell 0
       have m1 := HMN.out.cell 1
       have m2 := HMN.out.cell 2
       have m3 := HMN.out.cell 3
       have m4 := HMN.out.cell 4
       have m5 := HMN.out.cell 5
       have zm := HMN.out.lt
       unfold rowC at b6
       simp only [List.getElem?_toArray, List.getElem?_cons_succ, List.getElem?_cons_zero] at b6 m0 m1 m2 m3 m4 m5
       clear HMV HMC HQ
       have hgo : ∀ g, (Value.slice Av l.length cv).ownBlock = some g → g < w.heap.size := fun g hg => (HOL.out g hg).2
       go_wp2
       go_region_law ((refine step_app (base := base) (by rfl) slMv (.tmp 62) (.tmp 64) (by rfl) (.slice Av l.length cv) l.length _ (by rfl) ((World.ownsRow.alloc HBN.out _).drew_) (fun _ => True) _ 1 1 _ (by rfl) (Reads.lit' (by simp) trivial rfl) (by simp [Value.oneCell']) (by omega) (by unfold maxLen; omega) (by simp; omega) ?_; intro v1 w1' hown1 hk1 hat1; have hrn2 := Lib.hid (Blk.kept ((HRN.out.alloc _).drew) hk1 (own_blk_ne HBN.out HRN.out (by decide))); have yb2 := hrn2.out.frozen 6; have zr2 := hrn2.out.lt; have c6 := hrn2.out.cell 6; unfold rowC at c6; simp only [List.getElem?_toArray, List.getElem?_cons_succ, List.getElem?_cons_zero] at c6; obtain ⟨A1, c1, rfl, _⟩ := own_reads hown1))
       all_goals
         have HR7 := Lib.hid (show Blk (w1'.setCell ⟨gr, 6, none⟩ (.slice A1 (l.length + 1) c1)) gr 102 (rowC d a b (.slice A1 (l.length + 1) c1) va) from by have := hrn2.out.set_ 6 (.slice A1 (l.length + 1) c1); simpa [rowC] using this)
         have HK7 : Hid (Kept (fun k => k = gr ∨ (Value.slice Av l.length cv).ownBlock = some k) w (w1'.setCell ⟨gr, 6, none⟩ (.slice A1 (l.length + 1) c1))) := by
           refine Kept.setCell (p := ⟨gr, 6, none⟩) ?_ (fun _ => Or.inl rfl) _
           exact Kept.trans (Kept.of_fr (HFN.out.trans (((Kept.refl (fun _ => False) wn).alloc _).drew))) (Kept.mono hk1 (fun _ _ h => Or.inr h))
         have HA7 := Lib.hid ((Blk.kept ((HAN.out.alloc _).drew) hk1 (fun e => by have := hgo _ e; omega)).far (p := ⟨gr, 6, none⟩) (by simp only; omega) (.slice A1 (l.length + 1) c1))
         have hs1' := Blk.kept ((HSN.out.alloc _).drew) hk1 (fun e => by have := hgo _ e; omega)
         have HS7 := Lib.hid (hs1'.far (p := ⟨gr, 6, none⟩) (by simp only; omega) (.slice A1 (l.length + 1) c1))
         have HO7 := Lib.hid (own_kept hown1 ((Kept.refl (fun k => k = gr) w1').setCell (p := ⟨gr, 6, none⟩) (fun _ => rfl) (.slice A1 (l.length + 1) c1)) (fun g hg e => own_blk_ne hown1 hrn2.out (by decide) (e ▸ hg)))
         have HN7 := Lib.hid (own_blk_ne hown1 hs1' (by decide))
         have HT7 : Hid (∀ g, (Value.slice A1 (l.length + 1) c1).ownBlock = some g → (Value.slice Av l.length cv).ownBlock = some g ∨ w.heap.size ≤ g) := fun g hg => by
           rcases hat1 with e | e
           · rw [e] at hg; exact Or.inl hg
           · rw [e] at hg; cases hg; right; simp; omega
         have z9 := HR7.out.lt
         clear hown1 hk1 hat1 hrn2 yb2 zr2 c6 hs1' b6 yb zr m0 m1 m2 m3 m4 m5 zm HMN HAN HRN HBN HSN HFN hgo
         obtain ⟨w9, hw9⟩ : ∃ w9 : World, w9 = w1'.setCell ⟨gr, 6, none⟩ (.slice A1 (l.length + 1) c1) := ⟨_, rfl⟩
         rw [← hw9] at HR7 HK7 HA7 HS7 HO7 z9 ⊢
         have HW9 := Lib.hid hw9
         clear hw9
         have a0 := HA7.out.cell 0
         have a1 := HA7.out.cell 1
         have za := HA7.out.lt
         have s0 := HS7.out.cell 0
         have s1 := HS7.out.cell 1
         have zs := HS7.out.lt
         have ys0 := HS7.out.frozen 0
         have ys1 := HS7.out.frozen 1
         simp only [List.getElem?_toArray, List.getElem?_cons_succ, List.getElem?_cons_zero] at a0 a1 s0 s1
         go_wp2
         refine bodyPost_ret (v := .agg #[.int .i64 sk, .int .i64 sn]) ?_ rfl ?_
         · simp [results, Tryz.results60, go_sem, s0, s1]
         · have hkS : Kept (fun k => k = w.heap.size) w9 ((w9.setCell ⟨w.heap.size, 0, none⟩ (.int .i64 sk)).setCell ⟨w.heap.size, 1, none⟩ (.int .i64 sn)) := ((Kept.refl (fun k => k = w.heap.size) w9).setCell (p := ⟨w.heap.size, 0, none⟩) (fun _ => rfl) _).setCell (p := ⟨w.heap.size, 1, none⟩) (fun _ => rfl) _
           refine HDEF.out _ _ ⟨rfl, .slice A1 (l.length + 1) c1, HR7.out.kept hkS (by omega), ?_, HK7.out.then hkS (fun i hi e => by omega), HT7.out⟩
           have := own_kept HO7.out hkS (fun g hg e => HN7.out (e ▸ hg))
           rw [HME.out]; simpa [Mv.cells] using this
     · intro f w1' cn1 hLf hrg1 hlt hk1 hs1 hen
       have hSf := FRange.sub hrgx.out f hLf
       have hok := FRange.ok hrgx.out f hSf
       have hkn := HKIN.out f hSf
       have hrne := hrgx.out.lt
       have hbne : bk ≠ wq.heap.size := SetAt.ne_blk (hrgx.out.set) hmx.out
       have HK1 := Lib.hid (show Kept (fun k => k = wq.heap.size ∨ k = wm.heap.size) wm w1' from hkx.out.trans (Kept.mono hk1 (fun _ _ h => Or.inr h)))
       have HM1 := Lib.hid (hmx.out.kept hk1 (by omega))
       have HAX1 := Lib.hid (HAX.out.kept hk1 (by omega))
       have HLE : Hid (wr.rangeLeft bk wm.heap.size = cn) := hrgx.out.left_eq
       have hz1 := hk1.size
       have F2 : Fr w1' (w1'.alloc (.cells f.cells 165)) := (Kept.refl _ w1').alloc _
       have HRG3 := Lib.hid (RangeAt.kept hrg1 F2 (fun h => h) (fun h => h))
       have HK3 := Lib.hid (HK1.out.trans (Kept.of_fr F2))
       have HM3 := Lib.hid (HM1.out.kept F2 (fun h => h))
       have HA3 := Lib.hid (HAX1.out.kept F2 (fun h => h))
       have a30 := HA3.out.cell 0
       have a31 := HA3.out.cell 1
       have za3 := HAX1.out.lt
       simp only [List.getElem?_toArray, List.getElem?_cons_succ, List.getElem?_cons_zero] at a30 a31
       clear F2 HK1 HM1 HAX1 hrg1 hk1 hs1 ax0 ax1 zax
       by_cases hqq : f.pl.k = 0 ∧ f.t = (t : Int)
       · have hSk : S (knF (t : Int) f.n) := by rw [← hqq.2, ← hkn hqq.1]; exact hSf
         have HV3 := Lib.hid (hvx.out.hit (f := f) hSk)
         have y0 := HM3.out.frozen 0
         have y1 := HM3.out.frozen 1
         have y2 := HM3.out.frozen 2
         have y3 := HM3.out.frozen 3
         have y4 := HM3.out.frozen 4
         have y5 := HM3.out.frozen 5
         have zm3 := HM3.out.lt
         obtain ⟨x2, x3, x4, x5, hmc, _⟩ := mvC_letters sk sn (t : Int) q
         have HM4 := HM3.out
         rw [hmc] at HM4
         have m0 := HM4.cell 0
         have m1 := HM4.cell 1
         have m2 := HM4.cell 2
         have m3 := HM4.cell 3
         have m4 := HM4.cell 4
         have m5 := HM4.cell 5
         simp only [List.getElem?_toArray, List.getElem?_cons_succ, List.getElem?_cons_zero] at m0 m1 m2 m3 m4 m5
         have HM4 := Lib.hid HM4
         clear hmc hvx hSk hkn
         obtain ⟨⟨fk, fn⟩, ft, tt, nn⟩ := f
         unfold Fc.cells at *
         unfold Fc.val at hen
         simp only at *
         obtain ⟨hk0, htt⟩ := hqq
         subst hk0; subst htt
         have hm5 := (((((HM4.out.set_ 0 (.int .i64 sk)).set_ 1 (.int .i64 sn)).set_ 2 (.int .i64 0)).set_ 3 (.int .i64 0)).set_ 4 (.bool true)).set_ 5 (.int .u32 (nn : Int))
         simp only [List.setIfInBounds_toArray, List.set_cons_zero, List.set_cons_succ] at hm5
         have HM5 := Lib.hid hm5
         have hkS : Kept (fun k => k = wq.heap.size) (w1'.alloc (.cells #[.int .i64 0, .int .i64 fn, .bool ft, .int .i64 (t : Int), .int .u32 (nn : Int)] 165)) _ := ((((((Kept.refl (fun k => k = wq.heap.size) (w1'.alloc (.cells #[.int .i64 0, .int .i64 fn, .bool ft, .int .i64 (t : Int), .int .u32 (nn : Int)] 165))).setCell (p := ⟨wq.heap.size, 0, none⟩) (fun _ => rfl) (.int .i64 sk)).setCell (p := ⟨wq.heap.size, 1, none⟩) (fun _ => rfl) (.int .i64 sn)).setCell (p := ⟨wq.heap.size, 2, none⟩) (fun _ => rfl) (.int .i64 0)).setCell (p := ⟨wq.heap.size, 3, none⟩) (fun _ => rfl) (.int .i64 0)).setCell (p := ⟨wq.heap.size, 4, none⟩) (fun _ => rfl) (.bool true)).setCell (p := ⟨wq.heap.size, 5, none⟩) (fun _ => rfl) (.int .u32 (nn : Int))
         have HRG5 := Lib.hid (RangeAt.kept HRG3.out hkS hbne (by omega))
         have HK5 := Lib.hid (HK3.out.trans (Kept.mono hkS (fun _ _ h => Or.inl h)))
         clear hm5 hkS HM4
         go_wp2
         go_roundw
         case rel => exact ⟨_, cn1, some nn, HRG5, HK5, HM5, HV3⟩
         case measure => rw [HRG5.out.left_eq, HLE.out]; exact hlt
       · have HV3 := Lib.hid (hvx.out.skip hqq)
         clear hvx hkn
         obtain ⟨⟨fk, fn⟩, ft, tt, nn⟩ := f
         unfold Fc.cells at HRG3 HK3 HM3 HA3 a30 a31
         unfold Fc.val at hen
         simp only at *
         by_cases hk0 : fk = 0
         · have htt : (tt == (t : Int)) = false := by
             rw [beq_eq_false_iff_ne]; exact fun e => hqq ⟨hk0, e⟩
           subst hk0
           clear hqq
           go_wp2
           go_roundw
           case rel => exact ⟨_, cn1, q, HRG3, HK3, HM3, HV3⟩
           case measure => rw [HRG3.out.left_eq, HLE.out]; exact hlt
         · have hk0' : (fk == 0) = false := by simpa using hk0
           clear hqq hk0
           go_wp2
           go_roundw
           case rel => exact ⟨_, cn1, q, HRG3, HK3, HM3, HV3⟩
           case measure => rw [HRG3.out.left_eq, HLE.out]; exact hlt
end Go.Proofs.YtodmkjeankbieaaGreatDoor


namespace Go.Proofs.YtodmkjeankbieaaGreatDoor
open Go.RowKit Go.Sort Go.Maps

def KnV (w : World) (p : Pg) (sg sl : Nat) (kv : Value) (q : Int → Option Nat) : Prop :=
 (kv = .map none ∧ ∀ t, q t = none) ∨ ∃ bk S, kv = .map (some bk) ∧ FSet w bk 2400 S ∧ InU p sg sl S ∧ Uni S ∧ ∀ t, q t = knS S t
theorem KnV.fr {w w' : World} {p : Pg} {sg sl : Nat} {kv : Value} {q : Int → Option Nat} (h : KnV w p sg sl kv q) (hk : Fr w w') : KnV w' p sg sl kv q := by
 rcases h with h | ⟨bk, S, h1, h2, h3⟩
 · exact Or.inl h
 · exact Or.inr ⟨bk, S, h1, h2.kept hk (fun h => h), h3⟩
theorem KnV.lt {w : World} {p : Pg} {sg sl : Nat} {kv : Value} {q : Int → Option Nat} (h : KnV w p sg sl kv q) (hn : NumOk p) {t : Int} {n : Nat} (hq : q t = some n) : n < 4294967296 := by
 rcases h with ⟨_, h⟩ | ⟨bk, S, _, _, h3, _, h5⟩
 · rw [h] at hq; cases hq
 · rw [h5] at hq
   unfold knS at hq
   split at hq
   · rename_i hx
     cases hq
     exact numIn_lt hn (factIn_k0 (h3 _ (Classical.choose_spec hx)) rfl).2.2.2.2
   · cases hq
theorem KnV.past {w w' : World} {p : Pg} {sg sl : Nat} {kv : Value} {q : Int → Option Nat} {g : Nat} {e : TypeId} {cs : Array Value} (h : KnV w p sg sl kv q) (hk : Kept (fun b => b = g) w w') (hg : Blk w g e cs) : KnV w' p sg sl kv q := by
 rcases h with h | ⟨bk, S, h1, h2, h3⟩
 · exact Or.inl h
 · exact Or.inr ⟨bk, S, h1, h2.kept hk (fun e => h2.ne_blk hg e), h3⟩
def regsL (n : Nat) (o : Nat → PlaceV) : List PlaceV := (List.range n).map o
theorem regAt_L {n : Nat} {o : Nat → PlaceV} {t : Nat} (h : t < n) : regAt (regsL n o) (t : Int) = o t := by
 unfold regAt regsL
 rw [Int.toNat_natCast, List.getD_eq_getElem?_getD, List.getElem?_map, List.getElem?_range h]
 rfl

theorem takes_any2 (base gr gb g0 : Nat) (R : Nat → Prop) (p : Pg) (A : Option Addr) (c : Nat) (A' : Option Addr) (c' sg sl : Nat) (o : Nat → PlaceV) (d a b : PlaceV) (vb va kv : Value) (q : Int → Option Nat) (l : List Mv) (t j : Nat) (w : World) (h : Bd w gb g0 R p A c A' c' sg o) (ht : t < p.wide.length) (hj : j ≤ 1) (hs : 4 ≤ sg) (hs1 : sg ≤ 16)
   (hr : Blk w gr 102 (rowC d a b vb va)) (hb : w.ownsRow base 141 6 vb l.length (l.flatMap Mv.cells)) (hl : l.length ≤ 10) (hbase : base ≤ w.heap.size) (hK : KnV w p sg sl kv q) :
   Calls Tryz.prog 60 #[.pointer (some ⟨gb, 0, none⟩), .pointer (some ⟨gr, 0, none⟩), .int .i64 (t : Int), .int .i64 (j : Int), kv] w
     (TakePost w base gr d a b vb va (l ++ takeM p.wide (sg : Int) (regsL p.wide.length o) q (t : Int) (j : Int)) (takeP p.wide (sg : Int) (regsL p.wide.length o) (t : Int) (j : Int))) := by
 by_cases h0 : (o t).k = 0
 · have e1 : takeP p.wide (sg : Int) (regsL p.wide.length o) (t : Int) (j : Int) = scr p.wide (sg : Int) (t : Int) (j : Int) := by
     unfold takeP; rw [regAt_L ht, if_neg (by simpa using h0)]
   have e2 : takeM p.wide (sg : Int) (regsL p.wide.length o) q (t : Int) (j : Int) = [takeMv p.wide (sg : Int) (t : Int) (j : Int) (q (t : Int))] := by
     unfold takeM takeMv; rw [regAt_L ht, if_neg (by simpa using h0)]
     rfl
   rw [e1, e2]
   rcases hK with ⟨rfl, hq⟩ | ⟨bk, S, rfl, h2, h3, h4, h5⟩
   · rw [hq]
     exact takes_nil base gr gb g0 R p A c A' c' sg o d a b vb va l t j w h ht hj hs hs1 hr hb hl hbase h0
   · rw [h5]
     exact takes_set base gr gb g0 R p A c A' c' sg o d a b vb va l t j bk S sl w h ht hj hs hs1 hr hb hl hbase h0 h2 h3 (fun n n' => h4 _ n n')
 · have e1 : takeP p.wide (sg : Int) (regsL p.wide.length o) (t : Int) (j : Int) = o t := by
     unfold takeP; rw [regAt_L ht, if_pos h0]
   have e2 : takeM p.wide (sg : Int) (regsL p.wide.length o) q (t : Int) (j : Int) = [] := by
     unfold takeM; rw [regAt_L ht, if_pos h0]
   rw [e1, e2, List.append_nil]
   exact takes_reg base gr gb g0 R p A c A' c' sg o d a b vb va kv l t j w h ht hr hb h0

theorem slRwB : SlTy Tryz.prog 53 102 8 96 := SlTy.mk' (z := .agg #[.int .i64 0, .int .i64 0, .int .i64 0, .int .i64 0, .int .i64 0, .int .i64 0, .slice none 0 0, .slice none 0 0]) Tryz.underlying53 (by kernel_rfl) rfl (by decide)

structure RwB (w : World) (base M : Nat) (v : Value) (l : List RwV) : Prop where
 own : w.ownsRow base 102 8 v l.length (l.flatMap RwV.cells)
 le : M ≤ w.heap.size
 each : ∀ x ∈ l, x.ok w (fun b => base ≤ b ∧ b < M ∧ v.ownBlock ≠ some b)
 lt : ∀ b, v.ownBlock = some b → b < M
theorem RwB.kept {w w' : World} {base M : Nat} {v : Value} {l : List RwV} {S : Nat → Prop} (h : RwB w base M v l) (hk : Kept S w w') (hs : ∀ b, base ≤ b → b < M → ¬ S b) : RwB w' base M v l :=
 ⟨own_kept h.own hk (fun b hb => hs b (own_lt h.own hb).1 (h.lt b hb)), Nat.le_trans h.le hk.size, fun x hx => (h.each x hx).kept hk (fun b hb => hs b hb.1 hb.2.1), h.lt⟩
theorem RwB.up {w : World} {base M M' : Nat} {v : Value} {l : List RwV} (h : RwB w base M v l) (hM : M ≤ M') (h2 : M' ≤ w.heap.size) : RwB w base M' v l :=
 ⟨h.own, h2, fun x hx => (h.each x hx).more (fun b hb => ⟨hb.1, by omega, hb.2.2⟩), fun b hb => by have := h.lt b hb; omega⟩
theorem RwB.nil (w : World) (base M : Nat) (h : M ≤ w.heap.size) : RwB w base M (.slice none 0 0) [] :=
 ⟨World.ownsRow_nil _ _ _ _, h, by simp, fun b hb => by simp [Value.ownBlock] at hb⟩
theorem RwB.snoc {w w1 : World} {base M : Nat} {v v1 : Value} {l : List RwV} {x : RwV} (h : RwB w base M v l) (hx : x.ok w (fun b => base ≤ b ∧ b < w.heap.size ∧ v.ownBlock ≠ some b))
   (hk : Kept (fun k => v.ownBlock = some k) w w1) (hown : w1.ownsRow base 102 8 v1 (l.length + 1) (l.flatMap RwV.cells ++ x.cells)) (hat : v1.ownBlock = v.ownBlock ∨ v1.ownBlock = some w.heap.size) : RwB w1 base w1.heap.size v1 (l ++ [x]) := by
 have hz := hk.size
 have hne : ∀ b, b < w.heap.size → v.ownBlock ≠ some b → v1.ownBlock ≠ some b := fun b hb hn e => by
   rcases hat with e1 | e1
   · exact hn (e1 ▸ e)
   · rw [e1] at e; cases e; omega
 refine ⟨?_, Nat.le_refl _, fun y hy => ?_, fun b hb => (own_lt hown hb).2⟩
 · rw [List.length_append, List.flatMap_append]
   simpa using hown
 · rcases List.mem_append.1 hy with hy | hy
   · exact ((h.each y hy).kept hk (fun b hb e => hb.2.2 e)).more (fun b hb => ⟨hb.1, by have := h.le; omega, hne b (by have := h.le; omega) hb.2.2⟩)
   · simp only [List.mem_singleton] at hy
     subst hy
     exact (hx.kept hk (fun b hb e => hb.2.2 e)).more (fun b hb => ⟨hb.1, by omega, hne b hb.2.1 hb.2.2⟩)
theorem RwB.rd {w : World} {base M : Nat} {v : Value} {l : List RwV} (h : RwB w base M v l) : RdRw w (fun b => base ≤ b ∧ b < w.heap.size) v l := by
 obtain ⟨A, c, hv, hl, hr⟩ := own_reads h.own
 exact ⟨A, c, hv, hl, hr.more (fun b hb => ⟨hb.1, (own_lt h.own hb.2).2⟩), fun x hx => (h.each x hx).more (fun b hb => ⟨hb.1, by have := h.le; omega⟩)⟩
theorem ownMv_rd {w : World} {base : Nat} {v : Value} {l : List Mv} {Q : Nat → Prop} (h : w.ownsRow base 141 6 v l.length (l.flatMap Mv.cells)) (ho : ∀ m ∈ l, m.ok) (hq : ∀ b, v.ownBlock = some b → base ≤ b → b < w.heap.size → Q b) : RdMv w Q v l := by
 obtain ⟨A, c, hv, hl, hr⟩ := own_reads h
 exact ⟨A, c, hv, hl, hr.more (fun b hb => hq b hb.2 hb.1 (own_lt h hb.2).2), ho⟩

theorem in_small {n : Int} (h1 : -100 ≤ n) (h2 : n ≤ 100) : inI n := by unfold inI; omega
section
variable {p : Pg} {sg : Nat} {o : Nat → PlaceV}
theorem scr_ok (hs1 : sg ≤ 16) (t j : Int) (hj : 0 ≤ j ∧ j ≤ 1) : (scr p.wide (sg : Int) t j).ok := by
 unfold scr PlaceV.ok
 split
 · exact ⟨in_small (by simp) (by simp), in_small (by simp only; omega) (by simp only; omega)⟩
 · exact ⟨in_small (by simp) (by simp), in_small (by simp only; omega) (by simp only; omega)⟩
theorem takeP_ok (hs1 : sg ≤ 16) (ho : ∀ t, t < p.wide.length → (o t).ok) {t : Int} (ht : tempIn p t) {j : Int} (hj : 0 ≤ j ∧ j ≤ 1) : (takeP p.wide (sg : Int) (regsL p.wide.length o) t j).ok := by
 obtain ⟨t, rfl⟩ := Int.eq_ofNat_of_zero_le ht.1
 have htl : t < p.wide.length := by have := ht.2; omega
 unfold takeP
 rw [regAt_L htl]
 split
 · exact ho t htl
 · exact scr_ok hs1 _ _ hj
theorem none_ok : (⟨0, 0⟩ : PlaceV).ok := ⟨in_small (by simp) (by simp), in_small (by simp) (by simp)⟩
theorem slotP_ok (hw : p.wide.length ≤ 12) {t : Int} (ht : tempIn p t) : (slotP t).ok := by
 have := ht.1; have := ht.2
 exact ⟨in_small (by simp [slotP]) (by simp [slotP]), in_small (by simp only [slotP]; omega) (by simp only [slotP]; omega)⟩
theorem takeM_mok (hw : p.wide.length ≤ 12) (hs1 : sg ≤ 16) {t : Int} (ht : tempIn p t) {j : Int} (hj : 0 ≤ j ∧ j ≤ 1) {q : Int → Option Nat} (hq : ∀ t n, q t = some n → n < 4294967296) : ∀ m ∈ takeM p.wide (sg : Int) (regsL p.wide.length o) q t j, m.ok := by
 intro m hm
 unfold takeM at hm
 split at hm
 · simp at hm
 · simp only [List.mem_singleton] at hm
   subst hm
   cases h : q t with
   | none => exact ⟨scr_ok hs1 _ _ hj, slotP_ok hw ht, by simp⟩
   | some n => exact ⟨scr_ok hs1 _ _ hj, none_ok, hq _ _ h⟩
theorem takeM_len {wide : List Bool} {sg : Int} {regs : List PlaceV} {q : Int → Option Nat} {t j : Int} : (takeM wide sg regs q t j).length ≤ 1 := by
 unfold takeM
 split <;> simp
end
def rowA (p : Pg) (sg : Int) (regs : List PlaceV) (i : In) (j : Nat) : PlaceV := if 0 < j then takeP p.wide sg regs i.a 0 else ⟨0, 0⟩
def rowB (p : Pg) (sg : Int) (regs : List PlaceV) (i : In) (j : Nat) : PlaceV := if 1 < j then takeP p.wide sg regs i.b 1 else ⟨0, 0⟩
def rowM (p : Pg) (sg : Int) (regs : List PlaceV) (q : Int → Option Nat) (i : In) (j : Nat) : List Mv := (if 0 < j then takeM p.wide sg regs q i.a 0 else []) ++ (if 1 < j then takeM p.wide sg regs q i.b 1 else [])
theorem rowM_len {p : Pg} {sg : Int} {regs : List PlaceV} {q : Int → Option Nat} {i : In} {j : Nat} : (rowM p sg regs q i j).length ≤ 2 := by
 unfold rowM
 rw [List.length_append]
 have h1 : (if 0 < j then takeM p.wide sg regs q i.a 0 else []).length ≤ 1 := by split; exact takeM_len; simp
 have h2 : (if 1 < j then takeM p.wide sg regs q i.b 1 else []).length ≤ 1 := by split; exact takeM_len; simp
 omega
theorem uses_many {i : In} (hk : known i.op = true) : (uses i).length = many i.op := by
 have hm : many i.op ≤ 2 := by
   unfold many
   split
   · omega
   · split <;> omega
 unfold uses
 simp; omega
theorem rowF_eq {p : Pg} {sg : Int} {regs : List PlaceV} {q : Int → Option Nat} {i : In} (hk : known i.op = true) :
   rowF p.wide sg regs q i = ⟨destP p.wide sg regs i, rowA p sg regs i (uses i).length, rowB p sg regs i (uses i).length, rowM p sg regs q i (uses i).length, afterM p.wide sg regs i⟩ := by
 rw [uses_many hk]; rfl
theorem TakePost.ex {w : World} {base gr : Nat} {d a b : PlaceV} {vb va : Value} {l' : List Mv} {ret : PlaceV} {e : Ending} {w' : World} {tk tn : Int} (hr : ret = ⟨tk, tn⟩) (h : TakePost w base gr d a b vb va l' ret e w') :
   e = .returned (.agg #[.int .i64 tk, .int .i64 tn]) ∧ ∃ vb', Blk w' gr 102 (rowC d a b vb' va) ∧ w'.ownsRow base 141 6 vb' l'.length (l'.flatMap Mv.cells) ∧ Kept (fun k => k = gr ∨ vb.ownBlock = some k) w w' ∧ ∀ g, vb'.ownBlock = some g → vb.ownBlock = some g ∨ w.heap.size ≤ g := by
 subst hr; exact h
section
variable {p : Pg} {sg : Int} {regs : List PlaceV} {q : Int → Option Nat} {i : In}
theorem rowM_s0 : rowM p sg regs q i 1 = rowM p sg regs q i 0 ++ takeM p.wide sg regs q i.a 0 := by simp [rowM]
theorem rowM_s1 : rowM p sg regs q i 2 = rowM p sg regs q i 1 ++ takeM p.wide sg regs q i.b 1 := by simp [rowM]
theorem rowA_s0 : rowA p sg regs i 1 = takeP p.wide sg regs i.a 0 := rfl
theorem rowB_s1 : rowB p sg regs i 2 = takeP p.wide sg regs i.b 1 := rfl
theorem uses_at0 {t : Int} (h : (uses i)[0]? = some t) : t = i.a := by
 unfold uses at h
 rw [List.getElem?_take] at h
 split at h
 · simpa using h.symm
 · cases h
theorem uses_at1 {t : Int} (h : (uses i)[1]? = some t) : t = i.b := by
 unfold uses at h
 rw [List.getElem?_take] at h
 split at h
 · simpa using h.symm
 · cases h
end
section
variable {p : Pg} {sg : Nat} {o : Nat → PlaceV} {q : Int → Option Nat} {i : In}
theorem rowA_ok (hs1 : sg ≤ 16) (ho : ∀ t, t < p.wide.length → (o t).ok) (hi : InsOk p i) : (rowA p (sg : Int) (regsL p.wide.length o) i (uses i).length).ok := by
 rw [uses_many hi.kn]
 unfold rowA
 split
 · exact takeP_ok hs1 ho (hi.a ‹_›) (by omega)
 · exact none_ok
theorem rowB_ok (hs1 : sg ≤ 16) (ho : ∀ t, t < p.wide.length → (o t).ok) (hi : InsOk p i) : (rowB p (sg : Int) (regsL p.wide.length o) i (uses i).length).ok := by
 rw [uses_many hi.kn]
 unfold rowB
 split
 · exact takeP_ok hs1 ho (hi.b ‹_›) (by omega)
 · exact none_ok
theorem destP_ok (hs1 : sg ≤ 16) (ho : ∀ t, t < p.wide.length → (o t).ok) (hi : InsOk p i) : (destP p.wide (sg : Int) (regsL p.wide.length o) i).ok := by
 unfold destP
 split
 · exact takeP_ok hs1 ho (hi.d ‹_›) (by omega)
 · exact none_ok
theorem rowM_ok (hw : p.wide.length ≤ 12) (hs1 : sg ≤ 16) (hi : InsOk p i) (hq : ∀ t n, q t = some n → n < 4294967296) : ∀ m ∈ rowM p (sg : Int) (regsL p.wide.length o) q i (uses i).length, m.ok := by
 rw [uses_many hi.kn]
 intro m hm
 unfold rowM at hm
 rcases List.mem_append.1 hm with hm | hm
 · split at hm
   · exact takeM_mok hw hs1 (hi.a ‹_›) (by omega) hq m hm
   · simp at hm
 · split at hm
   · exact takeM_mok hw hs1 (hi.b ‹_›) (by omega) hq m hm
   · simp at hm
theorem dest_none (h : gvs i.op = false) : destP p.wide (sg : Int) (regsL p.wide.length o) i = ⟨0, 0⟩ ∧ afterM p.wide (sg : Int) (regsL p.wide.length o) i = [] := by
 unfold afterM destP
 rw [h]; simp
theorem dest_reg {t : Nat} (h : gvs i.op = true) (hd : i.d = (t : Int)) (ht : t < p.wide.length) (h0 : (o t).k ≠ 0) : destP p.wide (sg : Int) (regsL p.wide.length o) i = o t ∧ afterM p.wide (sg : Int) (regsL p.wide.length o) i = [] := by
 unfold afterM destP takeP
 rw [hd, regAt_L ht, if_pos h, if_pos h0, if_neg (fun hc => h0 hc.2)]
 exact ⟨rfl, rfl⟩
theorem dest_slot {t : Nat} (h : gvs i.op = true) (hd : i.d = (t : Int)) (ht : t < p.wide.length) (h0 : (o t).k = 0) : destP p.wide (sg : Int) (regsL p.wide.length o) i = scr p.wide (sg : Int) (t : Int) 0 ∧ afterM p.wide (sg : Int) (regsL p.wide.length o) i = [⟨slotP (t : Int), scr p.wide (sg : Int) (t : Int) 0, false, 0⟩] := by
 unfold afterM destP takeP
 rw [hd, regAt_L ht, if_pos h, if_neg (by simpa using h0), if_pos ⟨h, h0⟩]
 exact ⟨rfl, rfl⟩
end
end Go.Proofs.YtodmkjeankbieaaGreatDoor

