/- Texts of this claim, packed. -/
import Derived.Test.YtodmkjeankbieabKAllk9
import Derived.Deep.Cut
import Derived.Deep.CutRange
import Derived.Deep.RegionLaw
set_option linter.all false
namespace Go.Proofs.Ytodmkjeankbieab
open Go.RowKit Go.Sort Go.Maps

def BegP (p : Pg) (a : PlaceV) (k : Nat) : FS := fun y => ∃ t : Nat, t < k ∧ mayT p.wide a.k (t : Int) = true ∧ y = hasF a (t : Int)
def BegA (p : Pg) (a : PlaceV) : FS := fun y => BegP p a p.wide.length y ∨ (a.k ≠ 2 ∧ y = isF a 0)
def BegL (p : Pg) (l : List PlaceV) : FS := fun y => ∃ a ∈ l, BegA p a y
def BegK (p : Pg) (k : Nat) : FS := fun y => ∃ t : Nat, t < k ∧ wd p.wide (t : Int) = false ∧ y = knF (t : Int) 0
theorem begP_yes {p : Pg} {a : PlaceV} {k : Nat} {y : Fc} (h : mayT p.wide a.k (k : Int) = true) : (BegP p a k y ∨ y = hasF a (k : Int)) ↔ BegP p a (k + 1) y := by
 unfold BegP
 constructor
 · rintro (⟨t, h1, h2, h3⟩ | h1)
   · exact ⟨t, by omega, h2, h3⟩
   · exact ⟨k, by omega, h, h1⟩
 · rintro ⟨t, h1, h2, h3⟩
   by_cases e : t = k
   · subst e; exact Or.inr h3
   · exact Or.inl ⟨t, by omega, h2, h3⟩
theorem begP_no {p : Pg} {a : PlaceV} {k : Nat} {y : Fc} (h : mayT p.wide a.k (k : Int) = false) : BegP p a k y ↔ BegP p a (k + 1) y := by
 unfold BegP
 constructor
 · rintro ⟨t, h1, h2, h3⟩
   exact ⟨t, by omega, h2, h3⟩
 · rintro ⟨t, h1, h2, h3⟩
   by_cases e : t = k
   · subst e; rw [h] at h2; cases h2
   · exact ⟨t, by omega, h2, h3⟩
theorem begK_yes {p : Pg} {k : Nat} {y : Fc} (h : wd p.wide (k : Int) = false) : (BegK p k y ∨ y = knF (k : Int) 0) ↔ BegK p (k + 1) y := by
 unfold BegK
 constructor
 · rintro (⟨t, h1, h2, h3⟩ | h1)
   · exact ⟨t, by omega, h2, h3⟩
   · exact ⟨k, by omega, h, h1⟩
 · rintro ⟨t, h1, h2, h3⟩
   by_cases e : t = k
   · subst e; exact Or.inr h3
   · exact Or.inl ⟨t, by omega, h2, h3⟩
theorem begK_no {p : Pg} {k : Nat} {y : Fc} (h : wd p.wide (k : Int) = true) : BegK p k y ↔ BegK p (k + 1) y := by
 unfold BegK
 constructor
 · rintro ⟨t, h1, h2, h3⟩
   exact ⟨t, by omega, h2, h3⟩
 · rintro ⟨t, h1, h2, h3⟩
   by_cases e : t = k
   · subst e; rw [h] at h2; cases h2
   · exact ⟨t, by omega, h2, h3⟩
theorem begL_s {p : Pg} {l : List PlaceV} {k : Nat} {a : PlaceV} {y : Fc} (h : l[k]? = some a) : (BegL p (l.take k) y ∨ BegA p a y) ↔ BegL p (l.take (k + 1)) y := by
 unfold BegL
 rw [List.take_add_one, h]
 simp
theorem beg_all {p : Pg} {sg sl : Nat} {y : Fc} : (BegL p (placesL sg sl) y ∨ BegK p p.wide.length y) ↔ beginF p sg sl y := by
 unfold BegL BegA BegP BegK beginF
 constructor
 · rintro (⟨a, ha, ⟨t, h1, h2, rfl⟩ | ⟨h1, rfl⟩⟩ | ⟨t, h1, h2, rfl⟩)
   · exact ⟨Or.inr (Or.inl ⟨placesL_mem.1 ha, rfl, rfl, ⟨by show 0 ≤ (t : Int); omega, by show (t : Int) < _; omega⟩, h2⟩), rfl⟩
   · exact ⟨Or.inr (Or.inr ⟨placesL_mem.1 ha, rfl, rfl, h1, Or.inl rfl⟩), rfl⟩
   · exact ⟨Or.inl ⟨rfl, rfl, ⟨by show 0 ≤ (t : Int); omega, by show (t : Int) < _; omega⟩, h2, Or.inl rfl⟩, rfl⟩
 · obtain ⟨pl, temp, t, n⟩ := y
   rintro ⟨⟨h1, h2, ⟨h3, h4⟩, h5, h6⟩ | ⟨h1, h2, h3, ⟨h4, h5⟩, h6⟩ | ⟨h1, h2, h3, h4, h5⟩, h0⟩
   · try simp only at h0 h1 h2 h3 h4 h5 h6
     subst h1; subst h2; subst h0
     have e : ((t.toNat : Nat) : Int) = t := by omega
     exact Or.inr ⟨t.toNat, by omega, by rw [e]; exact h5, by rw [e]; rfl⟩
   · try simp only at h0 h1 h2 h3 h4 h5 h6
     subst h2; subst h0
     have e : ((t.toNat : Nat) : Int) = t := by omega
     exact Or.inl ⟨pl, placesL_mem.2 h1, Or.inl ⟨t.toNat, by omega, by rw [e]; exact h6, by rw [e]; rfl⟩⟩
   · try simp only at h0 h1 h2 h3 h4 h5
     subst h2; subst h3; subst h0
     exact Or.inl ⟨pl, placesL_mem.2 h1, Or.inr ⟨h4, rfl⟩⟩
theorem RdPl.at_ {w : World} {R : Nat → Prop} {A : Option Addr} {c : Nat} {l : List PlaceV} (h : RdPl w R (.slice A l.length c) l) {k : Nat} {a : PlaceV} (hx : l[k]? = some a) :
   ∃ b off, A = some ⟨b, off, none⟩ ∧ R b ∧ b < w.heap.size ∧ w.cell? ⟨b, off + k * 2, none⟩ = some (.int .i64 a.k) ∧ w.cell? ⟨b, off + k * 2 + 1, none⟩ = some (.int .i64 a.n) := by
 obtain ⟨A', c', e, _, hr⟩ := h
 obtain ⟨rfl, _, rfl⟩ : A = A' ∧ True ∧ c = c' := by simpa using e
 obtain ⟨_, h2⟩ := hr.elem (f := PlaceV.cells) (s := 2) (fun _ => rfl) (by omega)
 have hk : k < l.length := (List.getElem?_eq_some_iff.1 hx).1
 obtain ⟨b, off, hA, hR, hc⟩ := h2 (by omega)
 have c0 := hc k a hx 0 _ rfl
 exact ⟨b, off, hA, hR, cell_lt c0, c0, hc k a hx 1 _ rfl⟩
theorem placesL_len {sg sl : Nat} (hs : sg ≤ 16) (hl : sl ≤ 12) : (placesL sg sl).length ≤ 36 := by unfold placesL; simp; omega
theorem placesL_ok {sg sl : Nat} (hs : sg ≤ 16) (hl : sl ≤ 12) {a : PlaceV} (h : a ∈ placesL sg sl) : a.ok := isB_ok (placesL_mem.1 h) hs hl

set_option maxHeartbeats 8000000 in
set_option maxRecDepth 100000 in
theorem begin_any (gw : Nat) (R : Nat → Prop) (p : Pg) (sg sl : Nat) (ns : List Nat) (A : Option Addr) (c : Nat) (A' : Option Addr) (c' : Nat) (Ap : Option Addr) (cp : Nat) (An : Option Addr) (cn : Nat) (w : World)
   (hW : FWd w gw R p sg sl ns A c A' c' (.slice Ap (placesL sg sl).length cp) An cn) (hC : FCnd p sg sl ns) :
   Calls Try.prog 92 #[.pointer (some ⟨gw, 0, none⟩)] w fun e w' => ∃ b', e = .returned (.map (some b')) ∧ FSet w' b' 2400 (beginF p sg sl) ∧ Fr w w' ∧ w.heap.size ≤ b' := by
 have hmm := @run_makeMap Try.prog
 have zg := hW.wb.lt
 have hWW := hC.w
 have hpl := placesL_len hC.s hC.l
 have HPK := Lib.hid (fun a (ha : a ∈ placesL sg sl) => placesL_ok hC.s hC.l ha)
 have HALL := Lib.hid (fun y => beg_all (p := p) (sg := sg) (sl := sl) (y := y))
 have HC := Lib.hid hC
 have HBIN : Hid (InU p sg sl (beginF p sg sl)) := fun f hf => hf.1
 have HRP := Lib.hid hW.pl
 have HW0 := Lib.hid hW
 have HF1 := Lib.hid (show Fr w (w.alloc (.map #[] 0)) from (Kept.refl _ w).alloc _)
 have HM1 := Lib.hid (show FSet (w.alloc (.map #[] 0)) w.heap.size 0 (BegL p ((placesL sg sl).take 0)) from (SetAt.made w).congr fun y => ⟨fun h => h.elim, fun ⟨_, h, _⟩ => by simp at h⟩)
 have HW1 := Lib.hid (hW.fr HF1.out)
 generalize placesL sg sl = PL at *
 clear hW hC
 have g0 := HW1.out.wb.cell 0
 have g1 := HW1.out.wb.cell 1
 have g2 := HW1.out.wb.cell 2
 have zg1 := HW1.out.wb.lt
 simp only [List.getElem?_toArray, List.getElem?_cons_succ, List.getElem?_cons_zero] at g0 g1 g2
 go_enter Try.func92, Try.ntmps92
 go_wp2
 clear g0 g1 g2 zg1
 go_loopw [15] (fun i wr => ∃ j m : Nat, j ≤ PL.length ∧ i = .int .i64 j ∧ Hid (FSet wr w.heap.size m (BegL p (PL.take j))) ∧ m ≤ 13 * j ∧ Hid (Fr w wr)) (fun i _ => PL.length - (intOf i).toNat)
 case atStart => exact ⟨0, 0, Nat.zero_le _, rfl, HM1, by omega, HF1⟩
 case round =>
   obtain ⟨j, m, hj, rfl, hs, hm, hf⟩ := hrel
   clear HM1 HF1 HW1
   have hw1 := HW0.out.fr hf.out
   have g0 := hw1.wb.cell 0
   have g1 := hw1.wb.cell 1
   have zg1 := hw1.wb.lt
   simp only [List.getElem?_toArray, List.getElem?_cons_succ, List.getElem?_cons_zero] at g0 g1
   by_cases hlt : j < PL.length
   · obtain ⟨a, hx⟩ : ∃ a, PL[j]? = some a := ⟨_, List.getElem?_eq_getElem hlt⟩
     obtain ⟨b3, o3, rfl, _, hb3, c0, c1⟩ := RdPl.at_ (HRP.out.kept hf.out (fun _ _ h => h)) hx
     have HAK := Lib.hid (HPK.out a (List.mem_of_getElem? hx))
     have HS := Lib.hid (fun y => begL_s (p := p) (y := y) hx)
     clear hx hw1
     have hj0 : (0 : Int) ≤ (j : Int) := Int.natCast_nonneg _
     have hj1 : (j : Int) < (PL.length : Int) := by omega
     obtain ⟨wo, rfl⟩ : ∃ wo : World, wo = wr := ⟨_, rfl⟩
     have HF8 := Lib.hid (show Fr w (wo.alloc (.cells #[.int .i64 a.k, .int .i64 a.n] 57)) from hf.out.alloc _)
     have HS8 := Lib.hid (show FSet (wo.alloc (.cells #[.int .i64 a.k, .int .i64 a.n] 57)) w.heap.size m (fun y => BegL p (PL.take j) y ∨ BegP p a 0 y) from (hs.out.alloc _).congr fun y => ⟨Or.inl, fun h => h.elim id (fun ⟨t, ht, _⟩ => by omega)⟩)
     have HB8 := Lib.hid (Blk.new wo 57 #[.int .i64 a.k, .int .i64 a.n])
     have zwo := hs.out.lt
     clear hs hf
     generalize BegL p (PL.take j) = BL at *
     go_wp2
     clear g0 g1 zg1 c0 c1 hb3
     go_loopw [25] (fun i wr => ∃ t m' : Nat, t ≤ p.wide.length ∧ i = .int .i64 t ∧ Hid (FSet wr w.heap.size m' (fun y => BL y ∨ BegP p a t y)) ∧ m' ≤ 13 * j + t ∧ Hid (Blk wr wo.heap.size 57 #[.int .i64 a.k, .int .i64 a.n]) ∧ Hid (Fr w wr)) (fun i _ => p.wide.length - (intOf i).toNat)
     case atStart => exact ⟨0, m, Nat.zero_le _, rfl, HS8, by omega, HB8, HF8⟩
     case round =>
       obtain ⟨t, m', ht, rfl, hs, hm', hb, hf⟩ := hrel
       clear HS8 HB8 HF8
       have hw1 := HW0.out.fr hf.out
       have g0 := hw1.wb.cell 0
       have g1 := hw1.wb.cell 1
       have zg1 := hw1.wb.lt
       have d0 := hb.out.cell 0
       have d1 := hb.out.cell 1
       have zd := hb.out.lt
       simp only [List.getElem?_toArray, List.getElem?_cons_succ, List.getElem?_cons_zero] at g0 g1 d0 d1
       by_cases htl : t < p.wide.length
       · have ht0 : (0 : Int) ≤ (t : Int) := Int.natCast_nonneg _
         have ht1 : (t : Int) < (p.wide.length : Int) := by omega
         have HMAY := Lib.hid (fun w9 (hf9 : Fr wr w9) => may_any R _ p a t w9 (hw1.pg.kept hf9 (fun _ _ h => h)) htl)
         generalize hmy : mayT p.wide a.k (t : Int) = my at *
         have HMY := Lib.hid hmy
         clear hmy hw1
         obtain ⟨ak, an⟩ := a
         unfold PlaceV.val at HMAY
         simp only at *
         go_wp2
         go_region_held3 (fun w' => w'.cell? ⟨gw, 0, none⟩ = some (.slice A p.wide.length c) ∧ w'.cell? ⟨gw, 1, none⟩ = some (.slice A' p.code.length c') ∧ w'.cell? ⟨wo.heap.size, 0, none⟩ = some (.int .i64 ak) ∧ w'.cell? ⟨wo.heap.size, 1, none⟩ = some (.int .i64 an))
           (first
             | go_keep
             | exact sa)
           (first
             | (go_at_call 115; refine (HMAY.out _ ((Kept.refl _ wr).drew)).mono ?_; rintro e wa ⟨rfl, f9⟩; have fa := (Kept.refl (fun _ => False) _).trans f9; have sa := (show wa.cell? ⟨gw, 0, none⟩ = some (.slice A p.wide.length c) ∧ wa.cell? ⟨gw, 1, none⟩ = some (.slice A' p.code.length c') ∧ wa.cell? ⟨wo.heap.size, 0, none⟩ = some (.int .i64 ak) ∧ wa.cell? ⟨wo.heap.size, 1, none⟩ = some (.int .i64 an) from ⟨(fa.cell zg1 (fun h => h)).trans g0, (fa.cell zg1 (fun h => h)).trans g1, (fa.cell zd (fun h => h)).trans d0, (fa.cell zd (fun h => h)).trans d1⟩)))
         rename_i hHeld
         clear hHeld
         have fx := (Kept.refl (fun _ => False) wr).drew.trans fa
         have HSa := Lib.hid (hs.out.kept fx (fun h => h))
         have HBa := Lib.hid (hb.out.kept fx (fun h => h))
         have HFa := Lib.hid (hf.out.trans fx)
         have d0a := sa.2.2.1
         have d1a := sa.2.2.2
         have zda := HBa.out.lt
         clear sa fa f9 fx hs hb hf g0 g1 d0 d1 zd zg1 HMAY
         cases my with
         | false =>
           have HN := Lib.hid (HSa.out.congr fun y => or_congr Iff.rfl (begP_no (a := ⟨ak, an⟩) HMY.out))
           clear HSa
           go_wp2
           go_roundw
           case rel => exact ⟨t + 1, m', by omega, by go_num, HN, by omega, HBa, HFa⟩
           case measure => simp [intOf]; omega
         | true =>
           go_wp2_with fail
           refine (has_any ⟨ak, an⟩ (t : Int) _).mono ?_
           rintro e w9 ⟨rfl, f9⟩
           have HS9 := Lib.hid (HSa.out.kept f9 (fun h => h))
           have HB9 := Lib.hid (HBa.out.kept f9 (fun h => h))
           have HF9 := Lib.hid (HFa.out.trans f9)
           clear f9 HSa HBa HFa d0a d1a zda
           have zz := HB9.out.lt
           go_wp2_with (first
             | (at_mapUpdate; refine wpList_set_store _ rfl _ _ _ rfl setTy w.heap.size m' _ rfl HS9.out (by unfold maxLen; omega) (hasF ⟨ak, an⟩ (t : Int)) rfl (hasF_ok HAK.out (by unfold inI; omega)) rfl ?_; intro wB hsB hkB; go_frame)
             | go_in)
           have HN := Lib.hid (hsB.congr fun y => (or_assoc).trans (or_congr Iff.rfl (begP_yes (a := ⟨ak, an⟩) HMY.out)))
           have HBB := Lib.hid (HB9.out.kept hkB (by omega))
           have HFB := Lib.hid (HF9.out.then hkB (fun i hi e => by omega))
           clear hsB hkB HS9 HB9 HF9
           go_roundw
           case rel => exact ⟨t + 1, m' + 1, by omega, by go_num, HN, by omega, HBB, HFB⟩
           case measure => simp [intOf]; omega
       · obtain rfl : t = p.wide.length := by omega
         clear hw1 g0 g1 zg1
         by_cases e2 : a.k = 2
         · have HN := Lib.hid (hs.out.congr fun y => (or_congr Iff.rfl ⟨Or.inl, fun h => h.elim id (fun h => absurd e2 h.1)⟩).trans (HS.out y))
           have e2' : (a.k != 2) = false := by simpa using e2
           clear hs hb HS e2
           generalize a.k = ak at *
           generalize a.n = an at *
           go_wp2
           go_roundw
           case rel => exact ⟨j + 1, m', by omega, by go_num, HN, by omega, hf⟩
           case measure => simp [intOf]; omega
         · have e2' : (a.k != 2) = true := by simpa using e2
           have HI := Lib.hid (fun w2 => fis_any a 0 w2)
           have HAD := Lib.hid (show ∀ y, ((BL y ∨ BegP p a p.wide.length y) ∨ y = isF a 0) ↔ (BL y ∨ BegA p a y) from fun y => (or_assoc).trans (or_congr Iff.rfl (or_congr Iff.rfl ⟨fun h => ⟨e2, h⟩, fun h => h.2⟩)))
           clear e2
           obtain ⟨ak, an⟩ := a
           unfold PlaceV.val at HI
           simp only at *
           go_wp2_with fail
           refine (HI.out _).mono ?_
           rintro e w9 ⟨rfl, f9⟩
           have HS9 := Lib.hid (hs.out.kept f9 (fun h => h))
           have HF9 := Lib.hid (hf.out.trans f9)
           clear f9 hs hb hf d0 d1 zd HI
           go_wp2_with (first
             | (at_mapUpdate; refine wpList_set_store _ rfl _ _ _ rfl setTy w.heap.size m' _ rfl HS9.out (by unfold maxLen; omega) (isF ⟨ak, an⟩ 0) rfl (isF_ok HAK.out (by omega)) rfl ?_; intro wB hsB hkB; go_frame)
             | go_in)
           have HN := Lib.hid (hsB.congr fun y => (HAD.out y).trans (HS.out y))
           have HFB := Lib.hid (HF9.out.then hkB (fun i hi e => by omega))
           clear hsB hkB HS9 HF9 HAD
           go_roundw
           case rel => exact ⟨j + 1, m' + 1, by omega, by go_num, HN, by omega, HFB⟩
           case measure => simp [intOf]; omega
   · obtain rfl : j = PL.length := by omega
     have HS0 := Lib.hid (show FSet wr w.heap.size m (fun y => BegL p PL y ∨ BegK p 0 y) from hs.out.congr fun y => by
       rw [List.take_length]
       exact ⟨Or.inl, fun h => h.elim id (fun ⟨t, ht, _⟩ => by omega)⟩)
     have HWR := Lib.hid hw1.pg
     clear hs hw1
     obtain ⟨wo, rfl⟩ : ∃ wo : World, wo = wr := ⟨_, rfl⟩
     have HF0 := Lib.hid hf.out
     clear hf
     go_wp2
     clear g0 g1 zg1
     go_loopw [53] (fun i wr => ∃ t m' : Nat, t ≤ p.wide.length ∧ i = .int .i64 t ∧ Hid (FSet wr w.heap.size m' (fun y => BegL p PL y ∨ BegK p t y)) ∧ m' ≤ 13 * PL.length + t ∧ Hid (Fr w wr)) (fun i _ => p.wide.length - (intOf i).toNat)
     case atStart => exact ⟨0, m, Nat.zero_le _, rfl, HS0, by omega, HF0⟩
     case round =>
       obtain ⟨t, m', ht, rfl, hs, hm', hf⟩ := hrel
       clear HS0 HF0
       by_cases htl : t < p.wide.length
       · have hx : p.wide[t]? = some (p.wide[t]) := List.getElem?_eq_getElem htl
         obtain ⟨vw, vc, e9, hbb, _⟩ := HW0.out.pg
         obtain ⟨rfl, rfl⟩ : vw = .slice A p.wide.length c ∧ vc = .slice A' p.code.length c' := by simpa [eq_comm] using e9
         obtain ⟨b4, o4, c4, e4, _, hb4, d0⟩ := (hbb.kept hf.out (fun _ _ h => h)).at_ hx
         obtain ⟨rfl, _, rfl⟩ : A = some ⟨b4, o4, none⟩ ∧ True ∧ c = c4 := by simpa using e4
         have HWD := Lib.hid (wd_nat hx)
         clear hx e9 hbb e4
         have ht0 : (0 : Int) ≤ (t : Int) := Int.natCast_nonneg _
         have ht1 : (t : Int) < (p.wide.length : Int) := by omega
         generalize p.wide[t] = x at *
         cases x with
         | true =>
           have HN := Lib.hid (hs.out.congr fun y => or_congr Iff.rfl (begK_no HWD.out))
           clear hs
           go_wp2
           go_roundw
           case rel => exact ⟨t + 1, m', by omega, by go_num, HN, by omega, hf⟩
           case measure => simp [intOf]; omega
         | false =>
           go_wp2_with fail
           refine (known_any (t : Int) 0 _).mono ?_
           rintro e w9 ⟨rfl, f9⟩
           have HS9 := Lib.hid (hs.out.kept f9 (fun h => h))
           have HF9 := Lib.hid (hf.out.trans f9)
           clear f9 hs hf d0 hb4
           go_wp2_with (first
             | (at_mapUpdate; refine wpList_set_store _ rfl _ _ _ rfl setTy w.heap.size m' _ rfl HS9.out (by unfold maxLen; omega) (knF (t : Int) 0) rfl (knF_ok (by unfold inI; omega) (by omega)) rfl ?_; intro wB hsB hkB; go_frame)
             | go_in)
           have HN := Lib.hid (hsB.congr fun y => (or_assoc).trans (or_congr Iff.rfl (begK_yes HWD.out)))
           have HFB := Lib.hid (HF9.out.then hkB (fun i hi e => by omega))
           clear hsB hkB HS9 HF9
           go_roundw
           case rel => exact ⟨t + 1, m' + 1, by omega, by go_num, HN, by omega, HFB⟩
           case measure => simp [intOf]; omega
       · obtain rfl : t = p.wide.length := by omega
         have HE := Lib.hid (FSet.norm (hs.out.congr fun y => HALL.out y) HBIN.out HC.out.w HC.out.c HC.out.s HC.out.l)
         clear hs
         go_wp2
         go_ret
         exact ⟨w.heap.size, rfl, HE.out, hf.out, Nat.le_refl _⟩
end Go.Proofs.Ytodmkjeankbieab


namespace Go.Proofs.Ytodmkjeankbieab
open Go.ChangeShapes Go.WideShapes Go.RowKit Go.ChangeAt Go.Deep
section
variable {H : Type} {enc : TypeId × Value → H} {w : World} {base : Nat} {spare : Nat → Bool} {held : Bool}
end
end Go.Proofs.Ytodmkjeankbieab


namespace Go.Proofs.Ytodmkjeankbieab
open Go.RowKit Go.Sort Go.Maps

theorem fown_own_ne {w : World} {base base' : Nat} {e e' : TypeId} {size size' n n' : Nat} {v v' : Value} {xs xs' : List Value} (h : w.ownsRow base e size v n xs) (h' : w.ownsRow base' e' size' v' n' xs') (hne : e ≠ e') : ∀ g, v'.ownBlock = some g → ¬ v.ownBlock = some g := by
 intro g hg
 rcases h'.2 with ⟨rfl, _⟩ | ⟨g', cap, cur, rfl, _, hh, _⟩
 · simp [Value.ownBlock] at hg
 · have : g' = g := by simpa [Value.ownBlock] using hg
   subst this
   exact own_blk_ne h (t := e') (cs := cur) hh hne

def numsStep (l : List Nat) (i : In) : List Nat := if i.op = 1 ∧ i.n ∉ l then l ++ [i.n] else l
def fnumsTo (code : List In) (k : Nat) : List Nat := (code.take k).foldl numsStep [0]
theorem fnumsTo_s {code : List In} {k : Nat} {i : In} (h : code[k]? = some i) : fnumsTo code (k + 1) = numsStep (fnumsTo code k) i := by
 unfold fnumsTo
 rw [List.take_add_one, h, List.foldl_append]; rfl
theorem numsStep_mem (l : List Nat) (i : In) (n : Nat) : n ∈ numsStep l i ↔ n ∈ l ∨ (i.op = 1 ∧ i.n = n) := by
 unfold numsStep
 split
 · rename_i h
   simp only [List.mem_append, List.mem_singleton]
   constructor
   · rintro (h1 | rfl)
     · exact Or.inl h1
     · exact Or.inr ⟨h.1, rfl⟩
   · rintro (h1 | ⟨_, rfl⟩)
     · exact Or.inl h1
     · exact Or.inr rfl
 · rename_i h
   constructor
   · exact Or.inl
   · rintro (h1 | ⟨h1, rfl⟩)
     · exact h1
     · exact Classical.byContradiction fun hc => h ⟨h1, hc⟩
theorem nums_fold_mem : ∀ (code : List In) (l : List Nat) (n : Nat), n ∈ code.foldl numsStep l ↔ n ∈ l ∨ ∃ i ∈ code, i.op = 1 ∧ i.n = n
 | [], l, n => by simp
 | i :: code, l, n => by
   rw [List.foldl_cons, nums_fold_mem code, numsStep_mem]
   simp [or_assoc]
theorem fnumsTo_all (p : Pg) (n : Nat) : n ∈ fnumsTo p.code p.code.length ↔ NumIn p n := by
 unfold fnumsTo NumIn
 rw [List.take_length, nums_fold_mem]
 simp
theorem numsStep_len (l : List Nat) (i : In) : (numsStep l i).length ≤ l.length + 1 := by
 unfold numsStep; split <;> simp
theorem nums_fold_len : ∀ (code : List In) (l : List Nat), (code.foldl numsStep l).length ≤ l.length + code.length
 | [], l => by simp
 | i :: code, l => by
   rw [List.foldl_cons, List.length_cons]
   have := nums_fold_len code (numsStep l i); have := numsStep_len l i; omega
theorem fnumsTo_len (code : List In) (k : Nat) : (fnumsTo code k).length ≤ 1 + k := by
 have := nums_fold_len (code.take k) [0]
 unfold fnumsTo
 rw [List.length_take] at this
 simp only [List.length_cons, List.length_nil] at this
 omega
def preO (sg sl k : Nat) : List PlaceV := preL sg sl (k + 1) 0
theorem preO_s (sg sl : Nat) {k : Nat} (hk : k = 0 ∨ k = 1) : preL sg sl (k + 1) (manyP sg sl (k + 1)) = preO sg sl (k + 1) := by
 rcases hk with rfl | rfl
 · exact (preL_two sg sl).symm
 · exact (preL_three sg sl).symm
theorem preL_len {sg sl k n : Nat} (hk : k = 1 ∨ k = 2 ∨ k = 3) (hn : n ≤ manyP sg sl k) (hs : sg ≤ 16) (hl : sl ≤ 12) : (preL sg sl k n).length ≤ 36 := by
 unfold manyP at hn
 unfold preL plK
 rcases hk with rfl | rfl | rfl
 · simp at hn ⊢; omega
 · simp at hn ⊢; omega
 · simp at hn ⊢; omega
theorem infoPlaceO : (Try.prog.info? 57).map (fun i => (i.zero, i.size, i.bytes)) = some (some (.agg #[.int .i64 0, .int .i64 0]), 2, 16) := by kernel_rfl
theorem slPlaces : SlTy Try.prog 61 57 2 16 := SlTy.mk' (z := .agg #[.int .i64 0, .int .i64 0]) Try.underlying61 infoPlaceO rfl (by decide)
theorem slU32s : SlTy Try.prog 26 36 1 4 := SlTy.mk' (z := .int .u32 0) Try.underlying26 (by kernel_rfl) rfl (by decide)

def preX (sg sl k : Nat) : List PlaceV := if k = 3 then placesL sg sl else preO sg sl k
structure FO (w wr : World) (p : Pg) (sg : Nat) (A : Option Addr) (c : Nat) (A' : Option Addr) (c' : Nat) (vp vn : Value) (l : List PlaceV) (ns : List Nat) : Prop where
 pb : Blk wr w.heap.size 25 #[.slice A p.wide.length c, .slice A' p.code.length c']
 tb : Blk wr (w.heap.size + 1) 47 #[.int .i64 (sg : Int)]
 wb : Blk wr (w.heap.size + 1 + 1 + 1) 151 #[.slice A p.wide.length c, .slice A' p.code.length c', vp, vn]
 op : wr.ownsRow w.heap.size 57 2 vp l.length (l.flatMap PlaceV.cells)
 on : wr.ownsRow w.heap.size 36 1 vn ns.length (ns.map fun (n : Nat) => Value.int .u32 (n : Int))
 fr : Fr w wr
section
variable {w wr w' w1 : World} {p : Pg} {sg : Nat} {A : Option Addr} {c : Nat} {A' : Option Addr} {c' : Nat} {vp vn v1 : Value} {l l' : List PlaceV} {ns ns' : List Nat}
theorem FO.keep (h : FO w wr p sg A c A' c' vp vn l ns) (hk : Fr wr w') : FO w w' p sg A c A' c' vp vn l ns :=
 ⟨h.pb.kept hk (fun h => h), h.tb.kept hk (fun h => h), h.wb.kept hk (fun h => h), own_kept h.op hk (fun _ _ h => h), own_kept h.on hk (fun _ _ h => h), h.fr.trans hk⟩
theorem FO.putP (h : FO w wr p sg A c A' c' vp vn l ns) (ho : w1.ownsRow w.heap.size 57 2 v1 l'.length (l'.flatMap PlaceV.cells)) (hk : Kept (fun k => vp.ownBlock = some k) wr w1) :
   FO w (w1.setCell ⟨w.heap.size + 1 + 1 + 1, 2, none⟩ v1) p sg A c A' c' v1 vn l' ns := by
 have hb := h.wb.kept hk (own_blk_ne h.op h.wb (by decide))
 have hg := ((Kept.refl (fun k => k = w.heap.size + 1 + 1 + 1) w1).setCell (p := ⟨w.heap.size + 1 + 1 + 1, 2, none⟩) (fun _ => rfl) v1)
 refine ⟨(h.pb.kept hk (own_blk_ne h.op h.pb (by decide))).kept hg (by omega), (h.tb.kept hk (own_blk_ne h.op h.tb (by decide))).kept hg (by omega), ?_, own_kept ho hg (fun g hg2 e => own_blk_ne ho hb (by decide) (e ▸ hg2)), ?_, ?_⟩
 · have := hb.set_ 2 v1
   simpa using this
 · exact own_kept (own_kept h.on hk (fown_own_ne h.op h.on (by decide))) hg (fun g hg2 e => own_blk_ne h.on h.wb (by decide) (e ▸ hg2))
 · exact (h.fr.then hk (fun i hi e => by have := (own_lt h.op e).1; omega)).setCell (fun e => by simp only at e; omega) _
theorem FO.putN (h : FO w wr p sg A c A' c' vp vn l ns) (ho : w1.ownsRow w.heap.size 36 1 v1 ns'.length (ns'.map fun (n : Nat) => Value.int .u32 (n : Int))) (hk : Kept (fun k => vn.ownBlock = some k) wr w1) :
   FO w (w1.setCell ⟨w.heap.size + 1 + 1 + 1, 3, none⟩ v1) p sg A c A' c' vp v1 l ns' := by
 have hb := h.wb.kept hk (own_blk_ne h.on h.wb (by decide))
 have hg := ((Kept.refl (fun k => k = w.heap.size + 1 + 1 + 1) w1).setCell (p := ⟨w.heap.size + 1 + 1 + 1, 3, none⟩) (fun _ => rfl) v1)
 refine ⟨(h.pb.kept hk (own_blk_ne h.on h.pb (by decide))).kept hg (by omega), (h.tb.kept hk (own_blk_ne h.on h.tb (by decide))).kept hg (by omega), ?_, ?_, own_kept ho hg (fun g hg2 e => own_blk_ne ho hb (by decide) (e ▸ hg2)), ?_⟩
 · have := hb.set_ 3 v1
   simpa using this
 · exact own_kept (own_kept h.op hk (fown_own_ne h.on h.op (by decide))) hg (fun g hg2 e => own_blk_ne h.op h.wb (by decide) (e ▸ hg2))
 · exact (h.fr.then hk (fun i hi e => by have := (own_lt h.on e).1; omega)).setCell (fun e => by simp only at e; omega) _
theorem FO.congr (h : FO w wr p sg A c A' c' vp vn l ns) (e : l = l') : FO w wr p sg A c A' c' vp vn l' ns := e ▸ h
end
theorem flat_snoc (l : List PlaceV) (k n : Nat) : (l ++ [(⟨(k : Int), (n : Int)⟩ : PlaceV)]).flatMap PlaceV.cells = l.flatMap PlaceV.cells ++ [.int .i64 (k : Int), .int .i64 (n : Int)] := by simp [List.flatMap_append, PlaceV.cells]

set_option maxHeartbeats 8000000 in
set_option maxRecDepth 100000 in
theorem factsOf_any (R : Nat → Prop) (v : Value) (p : Pg) (sg sl : Nat) (w : World) (h : RdPg w R v p) (hw : p.wide.length ≤ 12) (hc : p.code.length ≤ 40) (hs : sg ≤ 16) (hl : sl ≤ 12) (hR : ∀ x, R x → x < w.heap.size) :
   Calls Try.prog 62 #[v, .agg #[.int .i64 (sg : Int)], .int .i64 (sl : Int)] w fun e w' => ∃ (gw : Nat) (A : Option Addr) (c : Nat) (A' : Option Addr) (c' : Nat) (Ap : Option Addr) (cp : Nat) (An : Option Addr) (cn : Nat), e = .returned (.pointer (some ⟨gw, 0, none⟩)) ∧
     FWd w' gw (fun b => b < w'.heap.size) p sg sl (fnumsTo p.code p.code.length) A c A' c' (.slice Ap (placesL sg sl).length cp) An cn ∧ Fr w w' ∧ w.heap.size ≤ gw := by
 have HPG := Lib.hid h
 obtain ⟨vw, vc, rfl, ⟨A, c, rfl, hwl, _⟩, ⟨A', c', rfl, hcl, hrc, _⟩⟩ := h
 have HRC := Lib.hid hrc
 have HRR := Lib.hid hR
 have HO0 := Lib.hid (show FO w ((((w.alloc (.cells #[.slice A p.wide.length c, .slice A' p.code.length c'] 25)).alloc (.cells #[.int .i64 (sg : Int)] 47)).alloc (.cells #[.int .u32 0] 36)).alloc (.cells #[.slice A p.wide.length c, .slice A' p.code.length c', .slice none 0 0, .slice (some ⟨w.heap.size + 1 + 1, 0, none⟩) 1 1] 151)) p sg A c A' c' (.slice none 0 0) (.slice (some ⟨w.heap.size + 1 + 1, 0, none⟩) 1 1) (preO sg sl 0) [0] from by
   refine ⟨((((Blk.new w _ _).alloc _).alloc _).alloc _), ?_, ?_, World.ownsRow_nil _ _ _ _, ?_, ((((Kept.refl _ w).alloc _).alloc _).alloc _).alloc _⟩
   · have := ((Blk.new (w.alloc (.cells #[.slice A p.wide.length c, .slice A' p.code.length c'] 25)) 47 #[.int .i64 (sg : Int)]).alloc (.cells #[.int .u32 0] 36)).alloc (.cells #[.slice A p.wide.length c, .slice A' p.code.length c', .slice none 0 0, .slice (some ⟨w.heap.size + 1 + 1, 0, none⟩) 1 1] 151)
     simpa using this
   · have := Blk.new (((w.alloc (.cells #[.slice A p.wide.length c, .slice A' p.code.length c'] 25)).alloc (.cells #[.int .i64 (sg : Int)] 47)).alloc (.cells #[.int .u32 0] 36)) 151 #[.slice A p.wide.length c, .slice A' p.code.length c', .slice none 0 0, .slice (some ⟨w.heap.size + 1 + 1, 0, none⟩) 1 1]
     simpa using this
   · have := World.ownsRow_lit (base := w.heap.size) (e := 36) (size := 1) ((w.alloc (.cells #[.slice A p.wide.length c, .slice A' p.code.length c'] 25)).alloc (.cells #[.int .i64 (sg : Int)] 47)) #[.int .u32 0] 1 (by simp; omega) (by decide) rfl
     have := World.ownsRow.alloc this (.cells #[.slice A p.wide.length c, .slice A' p.code.length c', .slice none 0 0, .slice (some ⟨w.heap.size + 1 + 1, 0, none⟩) 1 1] 151)
     simpa using this)
 unfold maxLen at hwl hcl
 clear hrc hR
 go_enter Try.func62, Try.ntmps62
 go_upto_region 2 with (fail)
 generalize (((w.alloc (.cells #[.slice A p.wide.length c, .slice A' p.code.length c'] 25)).alloc (.cells #[.int .i64 (sg : Int)] 47)).alloc (.cells #[.int .u32 0] 36)).alloc (.cells #[.slice A p.wide.length c, .slice A' p.code.length c', .slice none 0 0, .slice (some ⟨w.heap.size + 1 + 1, 0, none⟩) 1 1] 151) = w4 at *
 have t0 := HO0.out.tb.cell 0
 have zt := HO0.out.tb.lt
 simp only [List.getElem?_toArray, List.getElem?_cons_succ, List.getElem?_cons_zero] at t0
 go_wp2
 clear t0 zt
 obtain ⟨w5, rfl⟩ : ∃ w5 : World, w5 = w4 := ⟨_, rfl⟩
 have HX0 := Lib.hid (show FO w w5 p sg A c A' c' (.slice none 0 0) (.slice (some ⟨w.heap.size + 1 + 1, 0, none⟩) 1 1) (preX sg sl 0) [0] from HO0.out)
 clear HO0
 generalize hvn : Value.slice (some ⟨w.heap.size + 1 + 1, 0, none⟩) 1 1 = vn at *
 have HPS := Lib.hid (fun k (hk : k = 0 ∨ k = 1) => preO_s sg sl hk)
 clear hvn
 go_loopw [24] (fun i wr => ∃ (k : Nat) (vp : Value), k ≤ 3 ∧ i = .int .i64 k ∧ Hid (FO w wr p sg A c A' c' vp vn (preX sg sl k) [0])) (fun i _ => 3 - (intOf i).toNat)
 case atStart => exact ⟨0, _, by omega, rfl, HX0⟩
 case round =>
   obtain ⟨k, vp, hk, rfl, hx⟩ := hrel
   clear HX0
   by_cases hlt : k < 3
   · have hkk : k = 0 ∨ k = 1 ∨ k = 2 := by omega
     rcases hkk with rfl | rfl | rfl
     · have hpi : ∀ w, (Instr.index 152 (.agg #[.int .i64 (sg : Int), .int .i64 ((sg : Int) / 2), .int .i64 (sl : Int)]) (.int .i64 0)).run Try.prog w = .ok (.int .i64 ((sg : Int))) w := fun _ => by kernel_rfl
       have hcast : ((0 : Nat) : Int) = 0 := rfl
       have HY0 := Lib.hid (show FO w wr p sg A c A' c' vp vn (preL sg sl (0 + 1) 0) [0] from hx.out)
       clear hx
       have HMM := Lib.hid (show manyP sg sl (0 + 1) = sg from rfl)
       generalize hmy : manyP sg sl (0 + 1) = my at *
       have HMY := Lib.hid hmy
       clear hmy
       obtain ⟨wo, rfl⟩ : ∃ wo : World, wo = wr := ⟨_, rfl⟩
       rw [hcast]
       go_wp2
       clear hpi hcast
       go_loopw [29] (fun i wr => ∃ (n : Nat) (vp : Value), n ≤ my ∧ i = .int .i64 n ∧ Hid (FO w wr p sg A c A' c' vp vn (preL sg sl (0 + 1) n) [0])) (fun i _ => my - (intOf i).toNat)
       case atStart => exact ⟨0, vp, Nat.zero_le _, rfl, HY0⟩
       case round =>
         obtain ⟨n, vp2, hn, rfl, hx⟩ := hrel
         clear HY0
         by_cases hnl : n < my
         · have hn0 : (0 : Int) ≤ (n : Int) := Int.natCast_nonneg _
           have hn1 : (n : Int) < (sg : Int) := by have := HMM.out; omega
           have hln := preL_len (sg := sg) (sl := sl) (k := 0 + 1) (n := n) (by omega) (by rw [HMY.out]; omega) hs hl
           have HPL : Hid (preL sg sl (0 + 1) (n + 1) = preL sg sl (0 + 1) n ++ [(⟨(((0 + 1 : Nat)) : Int), (n : Int)⟩ : PlaceV)]) := preL_s (by omega)
           generalize preL sg sl (0 + 1) n = l at *
           have HXA := Lib.hid (hx.out.keep ((Kept.refl _ wr).alloc (.cells #[.int .i64 1, .int .i64 (n : Int)] 57)))
           have q2 := hx.out.wb.cell 2
           have zq := hx.out.wb.lt
           simp only [List.getElem?_toArray, List.getElem?_cons_succ, List.getElem?_cons_zero] at q2
           have HSZ := hx.out.fr.size
           clear hx
           go_wp2_with (at_builtin
                        refine wpList_app (base := w.heap.size) _ rfl slPlaces (.tmp 36) (.tmp 41) rfl vp2 l.length (l.flatMap PlaceV.cells) rfl HXA.out.op (fun _ => True) _ 1 1 [.int .i64 1, .int .i64 (n : Int)] rfl (Reads.lit' (by simp) trivial rfl) ?_ ?_ ?_ ?_ ?_
                        · simp [Value.oneCell']
                        · omega
                        · unfold maxLen; omega
                        · simp; omega
                        intro v1 w1 hown1 hk1 hat1
                        obtain ⟨A1, c1, rfl, _⟩ := own_reads hown1
                        have HN := Lib.hid (HXA.out.putP (w1 := w1) (l' := preL sg sl (0 + 1) (n + 1)) (by rw [HPL.out, flat_snoc, List.length_append]; exact hown1) hk1)
                        have hb1 := HXA.out.wb.kept hk1 (own_blk_ne HXA.out.op HXA.out.wb (by decide))
                        have e2 := hb1.cell 2
                        have y2 := hb1.frozen 2
                        have z2 := hb1.lt
                        simp only [List.getElem?_toArray, List.getElem?_cons_succ, List.getElem?_cons_zero] at e2
                        clear hown1 hk1 hat1 hb1 q2 zq HXA HPL)
           go_roundw
           case rel => exact ⟨n + 1, _, by omega, by go_num, HN⟩
           case measure => simp [intOf]; omega
         · obtain rfl : n = my := by omega
           have HN := Lib.hid (hx.out.congr (show preL sg sl (0 + 1) n = preX sg sl (0 + 1) from by rw [← HMY.out]; exact HPS.out 0 (by omega)))
           clear hx
           have hn1 : ¬ (n : Int) < (sg : Int) := by have := HMM.out; omega
           go_wp2
           go_roundw
           case rel => exact ⟨0 + 1, vp2, by omega, by go_num, HN⟩
           case measure => simp [intOf]
     · have hpi : ∀ w, (Instr.index 152 (.agg #[.int .i64 (sg : Int), .int .i64 ((sg : Int) / 2), .int .i64 (sl : Int)]) (.int .i64 1)).run Try.prog w = .ok (.int .i64 ((sg : Int) / 2)) w := fun _ => by kernel_rfl
       have hcast : ((1 : Nat) : Int) = 1 := rfl
       have HY0 := Lib.hid (show FO w wr p sg A c A' c' vp vn (preL sg sl (1 + 1) 0) [0] from hx.out)
       clear hx
       have HMM := Lib.hid (show manyP sg sl (1 + 1) = sg / 2 from rfl)
       generalize hmy : manyP sg sl (1 + 1) = my at *
       have HMY := Lib.hid hmy
       clear hmy
       obtain ⟨wo, rfl⟩ : ∃ wo : World, wo = wr := ⟨_, rfl⟩
       rw [hcast]
       go_wp2
       clear hpi hcast
       go_loopw [29] (fun i wr => ∃ (n : Nat) (vp : Value), n ≤ my ∧ i = .int .i64 n ∧ Hid (FO w wr p sg A c A' c' vp vn (preL sg sl (1 + 1) n) [0])) (fun i _ => my - (intOf i).toNat)
       case atStart => exact ⟨0, vp, Nat.zero_le _, rfl, HY0⟩
       case round =>
         obtain ⟨n, vp2, hn, rfl, hx⟩ := hrel
         clear HY0
         by_cases hnl : n < my
         · have hn0 : (0 : Int) ≤ (n : Int) := Int.natCast_nonneg _
           have hn1 : (n : Int) < (sg : Int) / 2 := by have := HMM.out; omega
           have hln := preL_len (sg := sg) (sl := sl) (k := 1 + 1) (n := n) (by omega) (by rw [HMY.out]; omega) hs hl
           have HPL : Hid (preL sg sl (1 + 1) (n + 1) = preL sg sl (1 + 1) n ++ [(⟨(((1 + 1 : Nat)) : Int), (n : Int)⟩ : PlaceV)]) := preL_s (by omega)
           generalize preL sg sl (1 + 1) n = l at *
           have HXA := Lib.hid (hx.out.keep ((Kept.refl _ wr).alloc (.cells #[.int .i64 2, .int .i64 (n : Int)] 57)))
           have q2 := hx.out.wb.cell 2
           have zq := hx.out.wb.lt
           simp only [List.getElem?_toArray, List.getElem?_cons_succ, List.getElem?_cons_zero] at q2
           have HSZ := hx.out.fr.size
           clear hx
           go_wp2_with (at_builtin
                        refine wpList_app (base := w.heap.size) _ rfl slPlaces (.tmp 36) (.tmp 41) rfl vp2 l.length (l.flatMap PlaceV.cells) rfl HXA.out.op (fun _ => True) _ 1 1 [.int .i64 2, .int .i64 (n : Int)] rfl (Reads.lit' (by simp) trivial rfl) ?_ ?_ ?_ ?_ ?_
                        · simp [Value.oneCell']
                        · omega
                        · unfold maxLen; omega
                        · simp; omega
                        intro v1 w1 hown1 hk1 hat1
                        obtain ⟨A1, c1, rfl, _⟩ := own_reads hown1
                        have HN := Lib.hid (HXA.out.putP (w1 := w1) (l' := preL sg sl (1 + 1) (n + 1)) (by rw [HPL.out, flat_snoc, List.length_append]; exact hown1) hk1)
                        have hb1 := HXA.out.wb.kept hk1 (own_blk_ne HXA.out.op HXA.out.wb (by decide))
                        have e2 := hb1.cell 2
                        have y2 := hb1.frozen 2
                        have z2 := hb1.lt
                        simp only [List.getElem?_toArray, List.getElem?_cons_succ, List.getElem?_cons_zero] at e2
                        clear hown1 hk1 hat1 hb1 q2 zq HXA HPL)
           go_roundw
           case rel => exact ⟨n + 1, _, by omega, by go_num, HN⟩
           case measure => simp [intOf]; omega
         · obtain rfl : n = my := by omega
           have HN := Lib.hid (hx.out.congr (show preL sg sl (1 + 1) n = preX sg sl (1 + 1) from by rw [← HMY.out]; exact HPS.out 1 (by omega)))
           clear hx
           have hn1 : ¬ (n : Int) < (sg : Int) / 2 := by have := HMM.out; omega
           go_wp2
           go_roundw
           case rel => exact ⟨1 + 1, vp2, by omega, by go_num, HN⟩
           case measure => simp [intOf]
     · have hpi : ∀ w, (Instr.index 152 (.agg #[.int .i64 (sg : Int), .int .i64 ((sg : Int) / 2), .int .i64 (sl : Int)]) (.int .i64 2)).run Try.prog w = .ok (.int .i64 ((sl : Int))) w := fun _ => by kernel_rfl
       have hcast : ((2 : Nat) : Int) = 2 := rfl
       have HY0 := Lib.hid (show FO w wr p sg A c A' c' vp vn (preL sg sl (2 + 1) 0) [0] from hx.out)
       clear hx
       have HMM := Lib.hid (show manyP sg sl (2 + 1) = sl from rfl)
       generalize hmy : manyP sg sl (2 + 1) = my at *
       have HMY := Lib.hid hmy
       clear hmy
       obtain ⟨wo, rfl⟩ : ∃ wo : World, wo = wr := ⟨_, rfl⟩
       rw [hcast]
       go_wp2
       clear hpi hcast
       go_loopw [29] (fun i wr => ∃ (n : Nat) (vp : Value), n ≤ my ∧ i = .int .i64 n ∧ Hid (FO w wr p sg A c A' c' vp vn (preL sg sl (2 + 1) n) [0])) (fun i _ => my - (intOf i).toNat)
       case atStart => exact ⟨0, vp, Nat.zero_le _, rfl, HY0⟩
       case round =>
         obtain ⟨n, vp2, hn, rfl, hx⟩ := hrel
         clear HY0
         by_cases hnl : n < my
         · have hn0 : (0 : Int) ≤ (n : Int) := Int.natCast_nonneg _
           have hn1 : (n : Int) < (sl : Int) := by have := HMM.out; omega
           have hln := preL_len (sg := sg) (sl := sl) (k := 2 + 1) (n := n) (by omega) (by rw [HMY.out]; omega) hs hl
           have HPL : Hid (preL sg sl (2 + 1) (n + 1) = preL sg sl (2 + 1) n ++ [(⟨(((2 + 1 : Nat)) : Int), (n : Int)⟩ : PlaceV)]) := preL_s (by omega)
           generalize preL sg sl (2 + 1) n = l at *
           have HXA := Lib.hid (hx.out.keep ((Kept.refl _ wr).alloc (.cells #[.int .i64 3, .int .i64 (n : Int)] 57)))
           have q2 := hx.out.wb.cell 2
           have zq := hx.out.wb.lt
           simp only [List.getElem?_toArray, List.getElem?_cons_succ, List.getElem?_cons_zero] at q2
           have HSZ := hx.out.fr.size
           clear hx
           go_wp2_with (at_builtin
                        refine wpList_app (base := w.heap.size) _ rfl slPlaces (.tmp 36) (.tmp 41) rfl vp2 l.length (l.flatMap PlaceV.cells) rfl HXA.out.op (fun _ => True) _ 1 1 [.int .i64 3, .int .i64 (n : Int)] rfl (Reads.lit' (by simp) trivial rfl) ?_ ?_ ?_ ?_ ?_
                        · simp [Value.oneCell']
                        · omega
                        · unfold maxLen; omega
                        · simp; omega
                        intro v1 w1 hown1 hk1 hat1
                        obtain ⟨A1, c1, rfl, _⟩ := own_reads hown1
                        have HN := Lib.hid (HXA.out.putP (w1 := w1) (l' := preL sg sl (2 + 1) (n + 1)) (by rw [HPL.out, flat_snoc, List.length_append]; exact hown1) hk1)
                        have hb1 := HXA.out.wb.kept hk1 (own_blk_ne HXA.out.op HXA.out.wb (by decide))
                        have e2 := hb1.cell 2
                        have y2 := hb1.frozen 2
                        have z2 := hb1.lt
                        simp only [List.getElem?_toArray, List.getElem?_cons_succ, List.getElem?_cons_zero] at e2
                        clear hown1 hk1 hat1 hb1 q2 zq HXA HPL)
           go_roundw
           case rel => exact ⟨n + 1, _, by omega, by go_num, HN⟩
           case measure => simp [intOf]; omega
         · obtain rfl : n = my := by omega
           have HN := Lib.hid (hx.out.congr (show preL sg sl (2 + 1) n = preX sg sl (2 + 1) from by rw [← HMY.out]; exact preL_end sg sl))
           clear hx
           have hn1 : ¬ (n : Int) < (sl : Int) := by have := HMM.out; omega
           go_wp2
           go_roundw
           case rel => exact ⟨2 + 1, vp2, by omega, by go_num, HN⟩
           case measure => simp [intOf]
   · obtain rfl : k = 3 := by omega
     have HX := Lib.hid (show FO w wr p sg A c A' c' vp vn (placesL sg sl) (fnumsTo p.code 0) from hx.out)
     clear hx
     obtain ⟨wo, rfl⟩ : ∃ wo : World, wo = wr := ⟨_, rfl⟩
     have p1 := HX.out.pb.cell 1
     have zp := HX.out.pb.lt
     simp only [List.getElem?_toArray, List.getElem?_cons_succ, List.getElem?_cons_zero] at p1
     go_wp2
     clear p1 zp
     go_loopw [50] (fun i wr => ∃ (k : Nat) (vn : Value), k ≤ p.code.length ∧ i = .int .i64 k ∧ Hid (FO w wr p sg A c A' c' vp vn (placesL sg sl) (fnumsTo p.code k))) (fun i _ => p.code.length - (intOf i).toNat)
     case atStart => exact ⟨0, vn, Nat.zero_le _, rfl, HX⟩
     case round =>
       obtain ⟨k, vn2, hk2, rfl, hx⟩ := hrel
       clear HX
       by_cases hl2 : k < p.code.length
       · obtain ⟨i, hx2⟩ : ∃ i, p.code[k]? = some i := ⟨_, List.getElem?_eq_getElem hl2⟩
         obtain ⟨b5, o5, rfl, _, d0, d1, d2, d3, d4, d5⟩ := (HRC.out.kept hx.out.fr (fun _ _ h => h)).ins hx2
         have hb5 := cell_lt d0
         have HST : Hid (fnumsTo p.code (k + 1) = numsStep (fnumsTo p.code k) i) := fnumsTo_s hx2
         have hlen := fnumsTo_len p.code k
         have hk0 : (0 : Int) ≤ (k : Int) := Int.natCast_nonneg _
         have hk1 : (k : Int) < (p.code.length : Int) := by omega
         clear hx2
         obtain ⟨An, cn, rfl, hnl, hnr⟩ := own_reads hx.out.on
         have HNR := Lib.hid (show RdNs wr (fun b => w.heap.size ≤ b) (.slice An (fnumsTo p.code k).length cn) (fnumsTo p.code k) from ⟨An, cn, rfl, hnl, hnr.more (fun b hb => hb.1)⟩)
         clear hnr hnl
         have HX8 := Lib.hid (hx.out.keep ((Kept.refl _ wr).alloc (.cells #[.int .i64 i.op, .int .i64 i.d, .int .i64 i.a, .int .i64 i.b, .int .i64 i.c, .int .u32 (i.n : Int)] 45)))
         have HI8 := Lib.hid (Blk.new wr 45 #[.int .i64 i.op, .int .i64 i.d, .int .i64 i.a, .int .i64 i.b, .int .i64 i.c, .int .u32 (i.n : Int)])
         have HCT := Lib.hid (fun n => contains_any (fun b => w.heap.size ≤ b) (.slice An (fnumsTo p.code k).length cn) (fnumsTo p.code k) i.n ((wr.alloc (.cells #[.int .i64 i.op, .int .i64 i.d, .int .i64 i.a, .int .i64 i.b, .int .i64 i.c, .int .u32 (i.n : Int)] 45)).drewN n) (HNR.out.kept (((Kept.refl (fun _ => False) wr).alloc _).drewN n) (fun _ _ h => h)))
         have q3 := hx.out.wb.cell 3
         have zq := hx.out.wb.lt
         simp only [List.getElem?_toArray, List.getElem?_cons_succ, List.getElem?_cons_zero] at q3
         clear hx
         obtain ⟨op, id, ia, ib, ic, inn⟩ := i
         simp only at *
         by_cases e1 : op = 1
         · subst e1
           generalize hct : decide (inn ∈ fnumsTo p.code k) = ct at *
           have HCTE := Lib.hid hct
           clear hct
           go_wp2
           go_quiet (first | (go_at_call 91; refine Calls.quiet_of_same (HCT.out _)))
           have HX9 := Lib.hid (HX8.out.keep ((Kept.refl _ _).drewN nq))
           have HI9 := Lib.hid (HI8.out.kept ((Kept.refl (fun _ => False) _).drewN nq) (fun h => h))
           clear HX8 HI8 HCT HNR q3 zq d0 d1 d2 d3 d4 d5 hb5
           generalize (wr.alloc (.cells #[.int .i64 1, .int .i64 id, .int .i64 ia, .int .i64 ib, .int .i64 ic, .int .u32 (inn : Int)] 45)).drewN nq = w9 at *
           cases ct with
           | true =>
             have HN := Lib.hid (show FO w w9 p sg A c (some ⟨b5, o5, none⟩) c' vp (.slice An (fnumsTo p.code k).length cn) (placesL sg sl) (fnumsTo p.code (k + 1)) from by
               rw [HST.out]; unfold numsStep; rw [if_neg (fun h => h.2 (of_decide_eq_true HCTE.out))]; exact HX9.out)
             go_wp2
             go_roundw
             case rel => exact ⟨k + 1, _, by omega, by go_num, HN⟩
             case measure => simp [intOf]; omega
           | false =>
             have HE : Hid (fnumsTo p.code (k + 1) = fnumsTo p.code k ++ [inn]) := by
               show _ = _
               rw [HST.out]; unfold numsStep; rw [if_pos ⟨rfl, of_decide_eq_false HCTE.out⟩]
             have q3 := HX9.out.wb.cell 3
             have zq := HX9.out.wb.lt
             have x5 := HI9.out.cell 5
             have zx := HI9.out.lt
             simp only [List.getElem?_toArray, List.getElem?_cons_succ, List.getElem?_cons_zero] at q3 x5
             generalize fnumsTo p.code k = nk at *
             have HXB := Lib.hid (HX9.out.keep (((Kept.refl _ w9).alloc (.cells #[.int .u32 (inn : Int)] 36)).drew))
             have HIB := Lib.hid (HI9.out.kept (((Kept.refl (fun _ => False) w9).alloc (.cells #[.int .u32 (inn : Int)] 36)).drew) (fun h => h))
             go_wp2
             go_region_law ((refine step_app (base := w.heap.size) (by rfl) slU32s (.tmp 71) (.tmp 74) (by rfl) (.slice An nk.length cn) nk.length _ (by rfl) HXB.out.on (fun _ => True) _ 1 1 _ (by rfl) (Reads.lit' (by simp) trivial rfl) (by simp [Value.oneCell']) (by omega) (by unfold maxLen; omega) (by simp; omega) ?_; intro v1 w1 hown1 hk1 hat1; obtain ⟨A1, c1, rfl, _⟩ := own_reads hown1; have HN := Lib.hid (HXB.out.putN (w1 := w1) (ns' := fnumsTo p.code (k + 1)) (by rw [HE.out, List.length_append, List.map_append]; exact hown1) hk1); have hb1 := HXB.out.wb.kept hk1 (own_blk_ne HXB.out.on HXB.out.wb (by decide)); have z3 := hb1.cell 3; have y3 := hb1.frozen 3; have zz := hb1.lt; simp only [List.getElem?_toArray, List.getElem?_cons_succ, List.getElem?_cons_zero] at z3; clear hown1 hk1 hat1 hb1))
             all_goals (go_wp2; go_roundw)
             all_goals first | exact ⟨k + 1, _, by omega, by go_num, HN⟩ | exact ⟨k + 1, by omega, by omega, _, HN⟩ | (simp [intOf]; omega)
         · have e1' : (op == 1) = false := by simpa using e1
           have HN := Lib.hid (show fnumsTo p.code (k + 1) = fnumsTo p.code k from by rw [HST.out]; unfold numsStep; rw [if_neg (fun h => e1 h.1)])
           clear e1
           go_wp2
           go_quiet (fail)
           have HX9 := Lib.hid (show FO w _ p sg A c (some ⟨b5, o5, none⟩) c' vp (.slice An (fnumsTo p.code k).length cn) (placesL sg sl) (fnumsTo p.code (k + 1)) from by rw [HN.out]; exact HX8.out.keep ((Kept.refl _ _).drewN nq))
           go_wp2
           go_roundw
           case rel => exact ⟨k + 1, _, by omega, by go_num, HX9⟩
           case measure => simp [intOf]; omega
       · obtain rfl : k = p.code.length := by omega
         obtain ⟨Ap, cp, rfl, hpl1, hpr⟩ := own_reads hx.out.op
         obtain ⟨An, cn, rfl, hnl1, hnr⟩ := own_reads hx.out.on
         have HFIN := Lib.hid (show FWd wr (w.heap.size + 1 + 1 + 1) (fun b => b < wr.heap.size) p sg sl (fnumsTo p.code p.code.length) A c A' c' (.slice Ap (placesL sg sl).length cp) An cn from by
           have hz := hx.out.fr.size
           refine ⟨hx.out.wb, ?_, ⟨Ap, cp, rfl, hpl1, hpr.more (fun b hb => (own_lt hx.out.op hb.2).2)⟩, ⟨An, cn, rfl, hnl1, hnr.more (fun b hb => (own_lt hx.out.on hb.2).2)⟩⟩
           have := HPG.out.kept hx.out.fr (fun _ _ h => h)
           obtain ⟨vw, vc, e, h1, h2⟩ := this
           refine ⟨vw, vc, e, ?_, ?_⟩
           · obtain ⟨A1, c1, e1, hl1, hr1⟩ := h1
             exact ⟨A1, c1, e1, hl1, hr1.more (fun b hb => by have := HRR.out b hb; omega)⟩
           · obtain ⟨A1, c1, e1, hl1, hr1, ho1⟩ := h2
             exact ⟨A1, c1, e1, hl1, hr1.more (fun b hb => by have := HRR.out b hb; omega), ho1⟩)
         have HF := Lib.hid hx.out.fr
         clear hx hpr hnr
         go_wp2
         go_ret
         exact ⟨_, _, _, _, _, _, _, _, _, rfl, HFIN.out, HF.out, by omega⟩
end Go.Proofs.Ytodmkjeankbieab


namespace Go.Proofs.Ytodmkjeankbieab
open Go.RowKit Go.Sort Go.Maps

def AtV (w : World) (v : Value) : Option FS → Prop
 | none => v = .map none
 | some S => ∃ b, v = .map (some b) ∧ FSet w b 2400 S
theorem SetAt.ne_blk {P : Program} {K E : TypeId} {α : Type} {ok : α → Prop} {lit : α → Lit} {w : World} {b n : Nat} {S : α → Prop} (h : SetAt P K E ok lit w b n S) {g : Nat} {e : TypeId} {cs : Array Value} (hg : Blk w g e cs) : b ≠ g := by
 rintro rfl
 obtain ⟨D, ⟨es, clock, hb, _⟩, _⟩ := h
 unfold Blk at hg
 rw [hb] at hg
 cases hg
section
variable {w w' : World} {v : Value} {o : Option FS}
theorem AtV.kept {X : Nat → Prop} (h : AtV w v o) (hk : Kept X w w') (hx : ∀ b S, FSet w b 2400 S → ¬ X b) : AtV w' v o := by
 cases o with
 | none => exact h
 | some S => obtain ⟨b, e, hs⟩ := h; exact ⟨b, e, hs.kept hk (hx b S hs)⟩
theorem AtV.fr (h : AtV w v o) (hk : Fr w w') : AtV w' v o := h.kept hk (fun _ _ _ h => h)
end

theorem Reads.both {w : World} {R : Nat → Prop} {size n : Nat} {A : Option Addr} {xs : List Value} (h : Reads w R size A n xs) (hs : 0 < size) : Reads w (fun b => R b ∧ b < w.heap.size) size A n xs := by
 obtain ⟨hl, h2⟩ := h
 refine ⟨hl, fun h0 => ?_⟩
 obtain ⟨b, off, hA, hR, hc⟩ := h2 h0
 refine ⟨b, off, hA, ⟨hR, ?_⟩, hc⟩
 have h1 : 0 < xs.length := by rw [hl]; exact Nat.mul_pos (by omega) hs
 exact cell_lt (hc 0 xs[0] (List.getElem?_eq_getElem h1))
theorem RdI.both {w : World} {R : Nat → Prop} {v : Value} {l : List Int} (h : RdI w R v l) : RdI w (fun b => R b ∧ b < w.heap.size) v l := let ⟨A, c, e, hr⟩ := h; ⟨A, c, e, hr.both (by decide)⟩
def wkVals (wk : List Nat) : List Value := wk.map fun (k : Nat) => Value.int .i64 (k : Int)
theorem wkVals_app (wk : List Nat) (n : Nat) : wkVals (wk ++ [n]) = wkVals wk ++ [Value.int .i64 (n : Int)] := by unfold wkVals; simp

structure AllMem (w wr : World) (cl : Array Value) (g0 L : Nat) (vs : Nat → Value) (A : Nat → Option FS) (qv : Value) (wk : List Nat) : Prop where
 ob : Blk wr g0 137 (mkS L vs)
 el : ∀ k, k < L → AtV wr (vs k) (A k)
 lb : Blk wr w.heap.size 50 cl
 qu : QRow wr w.heap.size 3 qv (wkVals wk)
 fr : Fr w wr
 g0 : w.heap.size < g0
section
variable {w wr w' : World} {cl : Array Value} {g0 L : Nat} {vs : Nat → Value} {A : Nat → Option FS} {qv : Value} {wk : List Nat}
theorem AllMem.keep (h : AllMem w wr cl g0 L vs A qv wk) (hk : Fr wr w') : AllMem w w' cl g0 L vs A qv wk :=
 ⟨h.ob.kept hk (fun h => h), fun k hkl => (h.el k hkl).fr hk, h.lb.kept hk (fun h => h), h.qu.fr hk, h.fr.trans hk, h.g0⟩
theorem AllMem.put (h : AllMem w wr cl g0 L vs A qv wk) {n : Nat} (hn : n < L) {v : Value} {S : FS} (hv : AtV wr v (some S)) : AllMem w (wr.setCell ⟨g0, n, none⟩ v) cl g0 L (fun s => if s = n then v else vs s) (setA A n S) qv wk := by
 have hk : Kept (fun b => b = g0) wr (wr.setCell ⟨g0, n, none⟩ v) := (Kept.refl (fun b => b = g0) wr).setCell (p := ⟨g0, n, none⟩) (fun _ => rfl) _
 refine ⟨?_, fun k hkl => ?_, h.lb.kept hk (by have := h.g0; show ¬ w.heap.size = g0; omega), h.qu.kept hk (fun g hg e => h.qu.blk_ne h.ob (by decide) (e ▸ hg)), h.fr.then hk (fun i hi e => by have := h.g0; omega), h.g0⟩
 · have := h.ob.set_ n v
   rwa [mkS_set] at this
 · by_cases e : k = n
   · subst e
     rw [if_pos rfl, setA_same]
     exact hv.kept hk (fun b S' hs e => hs.ne_blk h.ob e)
   · rw [if_neg e, setA_ne e]
     exact (h.el k hkl).kept hk (fun b S' hs e => hs.ne_blk h.ob e)
theorem AllMem.push (h : AllMem w wr cl g0 L vs A qv wk) {n : Nat} {qv' : Value} (hq : QRow w' w.heap.size 3 qv' (wkVals wk ++ [Value.int .i64 (n : Int)])) (hk : Kept (fun k => qv.ownBlock = some k) wr w') : AllMem w w' cl g0 L vs A qv' (wk ++ [n]) := by
 obtain ⟨gq, oq, cq, curq, rfl, hb, hB, _⟩ := id h.qu
 have e : ∀ k, (Value.slice (some ⟨gq, oq, none⟩) (wkVals wk).length cq).ownBlock = some k ↔ k = gq := fun k => by simp [Value.ownBlock, eq_comm]
 refine ⟨h.ob.kept hk (fun hc => h.qu.blk_ne h.ob (by decide) hc), fun k hkl => (h.el k hkl).kept hk (fun b S' hs hc => ?_), h.lb.kept hk (fun hc => h.qu.blk_ne h.lb (by decide) hc), ?_, h.fr.then hk (fun i hi hc => ?_), h.g0⟩
 · rw [e] at hc; exact hs.ne_blk hB hc
 · rw [wkVals_app]; exact hq
 · rw [e] at hc; omega
theorem AllMem.set_put (h : AllMem w wr cl g0 L vs A qv wk) {n b m : Nat} {v : Value} {S : FS} (hs : FSet wr b m S) : FSet (wr.setCell ⟨g0, n, none⟩ v) b m S :=
 hs.kept ((Kept.refl (fun b => b = g0) wr).setCell (p := ⟨g0, n, none⟩) (fun _ => rfl) _) (fun e => hs.ne_blk h.ob e)
theorem AllMem.set_push (h : AllMem w wr cl g0 L vs A qv wk) {b m : Nat} {S : FS} (hs : FSet wr b m S) (hk : Kept (fun k => qv.ownBlock = some k) wr w') : FSet w' b m S := by
 obtain ⟨gq, oq, cq, curq, rfl, hb, hB, _⟩ := id h.qu
 refine hs.kept hk (fun hc => ?_)
 have : b = gq := by simpa [Value.ownBlock, eq_comm] using hc
 exact hs.ne_blk hB this
theorem AllMem.popped {k : Nat} {qv' : Value} (h : AllMem w wr cl g0 L vs A qv (k :: wk)) (hq : QRow wr w.heap.size 3 qv' (wkVals wk)) : AllMem w wr cl g0 L vs A qv' wk := ⟨h.ob, h.el, h.lb, hq, h.fr, h.g0⟩
end

theorem rowCnd {p : Pg} {sg sl : Nat} {l : Pd} {lv : List RwV} {k : Nat} {x : RwV} (hm : mayL p sg l = true) (hsl : l.slots = (sl : Int)) (hok : ∀ i ∈ p.code, i.n < 4294967296) (hrows : l.rows = lv.map (·.r)) (hmv : ∀ x ∈ lv, (∀ m ∈ x.r.before, m.n < 4294967296) ∧ ∀ m ∈ x.r.after, m.n < 4294967296)
   (hk : k < p.code.length) (hx : lv[k]? = some x) : RowCnd p sg sl (inAt p.code k) x.r := by
 obtain ⟨h1, h2, h3, h4, h5⟩ := mayL_facts hm
 have hr := mayL_row hm hk
 have e : rwAt l.rows k = x.r := by
   rw [rwAt_get (by omega), ← Option.some_inj, ← List.getElem?_eq_getElem, hrows, List.getElem?_map, hx]
   rfl
 rw [e, hsl] at hr
 have hmem := inAt_mem hk
 have hxm := hmv x (List.mem_of_getElem? hx)
 exact ⟨insOk (mayB_ins h1 hmem), hmem, hr, hok _ hmem, hxm.1, hxm.2⟩
theorem rwAt_of {l : Pd} {lv : List RwV} {k : Nat} {x : RwV} (hrows : l.rows = lv.map (·.r)) (hx : lv[k]? = some x) : rwAt l.rows k = x.r := by
 have hk : k < lv.length := (List.getElem?_eq_some_iff.1 hx).1
 rw [rwAt_get (by rw [hrows]; simpa using hk), ← Option.some_inj, ← List.getElem?_eq_getElem, hrows, List.getElem?_map, hx]
 rfl

def AllIn (p : Pg) (sg sl : Nat) (A : Nat → Option FS) : Prop := ∀ k S, A k = some S → InU p sg sl S
theorem AllIn.put {p : Pg} {sg sl : Nat} {A : Nat → Option FS} (h : AllIn p sg sl A) {n : Nat} {S : FS} (hS : InU p sg sl S) : AllIn p sg sl (setA A n S) := by
 intro k S' hk
 by_cases e : k = n
 · subst e; rw [setA_same] at hk; cases hk; exact hS
 · rw [setA_ne e] at hk; exact h k S' hk
theorem thru_in {p : Pg} {sg sl : Nat} {l : Pd} {k : Nat} {S : FS} (hm : mayL p sg l = true) (hsl : l.slots = (sl : Int)) (hk : k < p.code.length) (hu : InU p sg sl S) : InU p sg sl (thru p l k S) := by
 obtain ⟨h1, h2, h3, h4, h5⟩ := mayL_facts hm
 have hr := mayL_row hm hk
 rw [hsl] at hr
 have hi := insOk (mayB_ins h1 (inAt_mem hk))
 obtain ⟨r1, r2, r3, _⟩ := rwB_facts hr hi.kn
 refine movesF_in _ ?_ r2
 unfold insF
 split
 · rename_i hg
   exact giveF_in (movesF_in _ hu r1) hi hg (r3 hg) (inAt_mem hk)
 · exact movesF_in _ hu r1

def AllPost (w : World) (p : Pg) (sg : Int) (l : Pd) (e : Ending) (w' : World) : Prop :=
 Fr w w' ∧ ∃ (g0 : Nat) (vs : Nat → Value) (ok : Bool), e = .returned (.tuple #[.slice (some ⟨g0, 0, none⟩) p.code.length p.code.length, .bool ok]) ∧ w.heap.size ≤ g0 ∧ Blk w' g0 137 (mkS p.code.length vs) ∧
   (∀ k, k < p.code.length → (Come p.code k → AtV w' (vs k) (some (Kn p sg l k))) ∧ (¬ Come p.code k → vs k = .map none)) ∧ (ok = true ↔ Taken p sg l)
def TakenTo (p : Pg) (sg : Int) (l : Pd) (k : Nat) : Prop := ∀ j, j < k → Come p.code j → tookF p (Kn p sg l j) (inAt p.code j) (rwAt l.rows j)
theorem takenTo_all {p : Pg} {sg : Int} {l : Pd} (h0 : 0 < p.code.length) : TakenTo p sg l p.code.length ↔ Taken p sg l :=
 ⟨fun h k hk => h k (hk.lt h0) hk, fun h k _ hk => h k hk⟩
theorem takenTo_s {p : Pg} {sg : Int} {l : Pd} {k : Nat} (hk : Come p.code k) : TakenTo p sg l (k + 1) ↔ (TakenTo p sg l k ∧ tookF p (Kn p sg l k) (inAt p.code k) (rwAt l.rows k)) := by
 constructor
 · intro h; exact ⟨fun j hj => h j (by omega), h k (by omega) hk⟩
 · rintro ⟨h1, h2⟩ j hj hc
   by_cases e : j = k
   · subst e; exact h2
   · exact h1 j (by omega) hc
theorem takenTo_no {p : Pg} {sg : Int} {l : Pd} {k : Nat} (hk : ¬ Come p.code k) : TakenTo p sg l (k + 1) ↔ TakenTo p sg l k := by
 constructor
 · intro h j hj; exact h j (by omega)
 · intro h j hj hc
   by_cases e : j = k
   · subst e; exact absurd hc hk
   · exact h j (by omega) hc
end Go.Proofs.Ytodmkjeankbieab

