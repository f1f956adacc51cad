/- Texts of this claim, packed. -/
import Derived.Test.YtodmkjeankbieaaGreatDoorKAllk7
set_option linter.all false
namespace Go.Proofs.YtodmkjeankbieaaGreatDoor
open Go.RowKit Go.Sort Go.Maps

def RdPl (w : World) (R : Nat → Prop) (v : Value) (l : List PlaceV) : Prop := ∃ A c, v = .slice A l.length c ∧ l.length ≤ maxLen ∧ Reads w R 2 A l.length (l.flatMap PlaceV.cells)
theorem RdPl.kept {w w' : World} {R S : Nat → Prop} {v : Value} {l : List PlaceV} (h : RdPl w R v l) (hk : Kept S w w') (hs : ∀ b, R b → ¬ S b) : RdPl w' R v l :=
 let ⟨A, c, e, hl, hr⟩ := h
 ⟨A, c, e, hl, hr.kept hk hs⟩
structure FWd (w : World) (gw : Nat) (R : Nat → Prop) (p : Pg) (sg sl : Nat) (ns : List Nat) (A : Option Addr) (c : Nat) (A' : Option Addr) (c' : Nat) (vp : Value) (An : Option Addr) (cn : Nat) : Prop where
 wb : Blk w gw 143 #[.slice A p.wide.length c, .slice A' p.code.length c', vp, .slice An ns.length cn]
 pg : RdPg w R (.agg #[.slice A p.wide.length c, .slice A' p.code.length c']) p
 pl : RdPl w R vp (placesL sg sl)
 nu : RdNs w R (.slice An ns.length cn) ns
section
variable {w w' : World} {gw : Nat} {R : Nat → Prop} {p : Pg} {sg sl : Nat} {ns : List Nat} {A : Option Addr} {c : Nat} {A' : Option Addr} {c' : Nat} {vp : Value} {An : Option Addr} {cn : Nat}
theorem FWd.kept {S : Nat → Prop} (h : FWd w gw R p sg sl ns A c A' c' vp An cn) (hk : Kept S w w') (hg : ¬ S gw) (hs : ∀ b, R b → ¬ S b) : FWd w' gw R p sg sl ns A c A' c' vp An cn :=
 ⟨h.wb.kept hk hg, h.pg.kept hk hs, h.pl.kept hk hs, h.nu.kept hk hs⟩
theorem FWd.fr (h : FWd w gw R p sg sl ns A c A' c' vp An cn) (hk : Fr w w') : FWd w' gw R p sg sl ns A c A' c' vp An cn := h.kept hk (fun h => h) (fun _ _ h => h)
end
theorem FSet.norm {w : World} {b n : Nat} {S : FS} {p : Pg} {sg sl : Nat} (h : FSet w b n S) (hu : InU p sg sl S) (hw : p.wide.length ≤ 12) (hc : p.code.length ≤ 40) (hs : sg ≤ 16) (hl : sl ≤ 12) : FSet w b 2400 S := by
 obtain ⟨m, k1, _, h2, _⟩ := h.card setTy
 exact h2.mono (Nat.le_trans (k1.below (fun x hx => factsL_mem (hu x hx))) (factsL_len hw hc hs hl))
theorem hasF_ok {a : PlaceV} {t : Int} (h : a.ok) (ht : inI t) : (hasF a t).ok := ⟨h.1, h.2, ht, by show (0 : Nat) < _; omega⟩
theorem isF_ok {a : PlaceV} {n : Nat} (h : a.ok) (hn : n < 4294967296) : (isF a n).ok := ⟨h.1, h.2, by unfold inI isF; simp, hn⟩
theorem knF_ok {t : Int} {n : Nat} (ht : inI t) (hn : n < 4294967296) : (knF t n).ok := ⟨by unfold inI knF; simp, by unfold inI knF; simp, ht, hn⟩
theorem isB_ok {sg sl : Nat} {a : PlaceV} (h : isB sg sl a = true) (hs : sg ≤ 16) (hl : sl ≤ 12) : a.ok := by
 have hk := isB_kind h
 unfold isB at h
 have h := of_decide_eq_true h
 unfold PlaceV.ok inI
 split at h
 · omega
 · split at h
   · omega
   · split at h <;> omega

def MovA (p : Pg) (m : Mv) : Fc → FS := fun g y => (m.c = true ∧ g.pl.k = 0 ∧ g.n = m.n ∧ y = hasF m.to g.t) ∨ (m.c = false ∧ g.pl = m.fr ∧ ((g.temp = true ∧ mayT p.wide m.to.k g.t = true ∧ y = hasF m.to g.t) ∨ (g.temp = false ∧ m.to.k ≠ 2 ∧ y = isF m.to g.n)))
def MovB (p : Pg) (S : FS) (m : Mv) : FS := fun y => withoutF S m.to (-1) y ∨ (m.c = true ∧ NumIn p m.n ∧ y = isF m.to m.n)
theorem mov_done {p : Pg} {S : FS} {m : Mv} {y : Fc} : (MovB p S m y ∨ ∃ g, S g ∧ MovA p m g y) ↔ moveF p S m y := by
 unfold MovB MovA moveF
 constructor
 · rintro ((h | h) | ⟨g, h1, (⟨h2, h3⟩ | ⟨h2, h3, h4⟩)⟩)
   · exact Or.inl h
   · exact Or.inr (Or.inl h)
   · exact Or.inr (Or.inr (Or.inl ⟨h2, g, h1, h3⟩))
   · exact Or.inr (Or.inr (Or.inr ⟨h2, g, h1, h3, h4⟩))
 · rintro (h | h | ⟨h2, g, h1, h3⟩ | ⟨h2, g, h1, h3, h4⟩)
   · exact Or.inl (Or.inl h)
   · exact Or.inl (Or.inr h)
   · exact Or.inr ⟨g, h1, Or.inl ⟨h2, h3⟩⟩
   · exact Or.inr ⟨g, h1, Or.inr ⟨h2, h3, h4⟩⟩
theorem mv_cadd {p : Pg} {m : Mv} {f : Fc} (hc : m.c = true) (h1 : f.pl.k = 0) (h2 : f.n = m.n) : ∀ y, MovA p m f y ↔ y = hasF m.to f.t := fun y =>
 ⟨fun h => h.elim (fun h => h.2.2.2) (fun h => by rw [hc] at h; cases h.1), fun h => Or.inl ⟨hc, h1, h2, h⟩⟩
theorem mv_cnone {p : Pg} {m : Mv} {f : Fc} (hc : m.c = true) (h : ¬ (f.pl.k = 0 ∧ f.n = m.n)) : ∀ y, ¬ MovA p m f y := fun y hh =>
 hh.elim (fun hh => h ⟨hh.2.1, hh.2.2.1⟩) (fun hh => by rw [hc] at hh; cases hh.1)
theorem mv_hadd {p : Pg} {m : Mv} {f : Fc} (hc : m.c = false) (h1 : f.pl = m.fr) (h2 : f.temp = true) (h3 : mayT p.wide m.to.k f.t = true) : ∀ y, MovA p m f y ↔ y = hasF m.to f.t := fun y =>
 ⟨fun h => h.elim (fun h => by rw [hc] at h; cases h.1) (fun h => h.2.2.elim (fun h => h.2.2) (fun h => by rw [h2] at h; cases h.1)), fun h => Or.inr ⟨hc, h1, Or.inl ⟨h2, h3, h⟩⟩⟩
theorem mv_hnone {p : Pg} {m : Mv} {f : Fc} (hc : m.c = false) (h2 : f.temp = true) (h3 : mayT p.wide m.to.k f.t = false) : ∀ y, ¬ MovA p m f y := fun y h =>
 h.elim (fun h => by rw [hc] at h; cases h.1) (fun h => h.2.2.elim (fun h => by rw [h3] at h; cases h.2.1) (fun h => by rw [h2] at h; cases h.1))
theorem mv_iadd {p : Pg} {m : Mv} {f : Fc} (hc : m.c = false) (h1 : f.pl = m.fr) (h2 : f.temp = false) (h3 : m.to.k ≠ 2) : ∀ y, MovA p m f y ↔ y = isF m.to f.n := fun y =>
 ⟨fun h => h.elim (fun h => by rw [hc] at h; cases h.1) (fun h => h.2.2.elim (fun h => by rw [h2] at h; cases h.1) (fun h => h.2.2)), fun h => Or.inr ⟨hc, h1, Or.inr ⟨h2, h3, h⟩⟩⟩
theorem mv_inone {p : Pg} {m : Mv} {f : Fc} (hc : m.c = false) (h2 : f.temp = false) (h3 : m.to.k = 2) : ∀ y, ¬ MovA p m f y := fun y h =>
 h.elim (fun h => by rw [hc] at h; cases h.1) (fun h => h.2.2.elim (fun h => by rw [h2] at h; cases h.1) (fun h => h.2.1 h3))
theorem mv_far {p : Pg} {m : Mv} {f : Fc} (hc : m.c = false) (h1 : f.pl ≠ m.fr) : ∀ y, ¬ MovA p m f y := fun y h =>
 h.elim (fun h => by rw [hc] at h; cases h.1) (fun h => h1 h.2.1)
def Mv.fval (m : Mv) : Value := .agg #[.int .i64 m.to.k, .int .i64 m.to.n, .int .i64 m.fr.k, .int .i64 m.fr.n, .bool m.c, .int .u32 m.n]

structure MvL (w wr : World) (gw : Nat) (R : Nat → Prop) (p : Pg) (sg sl : Nat) (ns : List Nat) (A : Option Addr) (c : Nat) (A' : Option Addr) (c' : Nat) (vp : Value) (An : Option Addr) (cn : Nat) (b r o n : Nat) (S L : FS) (cnt k : Nat) (O : FS) (cs : Array Value) : Prop where
 mid : MidS wr b r o n S L cnt k O
 wd : FWd wr gw R p sg sl ns A c A' c' vp An cn
 mb : Blk wr w.heap.size 141 cs
 fr : Fr w wr
 go : w.heap.size < o
 gr : w.heap.size < r
 gb : b < w.heap.size
 gg : gw < w.heap.size
 gR : ∀ x, R x → x < w.heap.size
section
variable {w wr w' : World} {gw : Nat} {R : Nat → Prop} {p : Pg} {sg sl : Nat} {ns : List Nat} {A : Option Addr} {c : Nat} {A' : Option Addr} {c' : Nat} {vp : Value} {An : Option Addr} {cn : Nat} {b r o n : Nat} {S L L1 : FS} {cnt cnt1 k : Nat} {O O' : FS} {cs : Array Value}
theorem MvL.keep (h : MvL w wr gw R p sg sl ns A c A' c' vp An cn b r o n S L cnt k O cs) (hk : Fr wr w') : MvL w w' gw R p sg sl ns A c A' c' vp An cn b r o n S L cnt k O cs :=
 ⟨h.mid.fr hk, h.wd.fr hk, h.mb.kept hk (fun h => h), h.fr.trans hk, h.go, h.gr, h.gb, h.gg, h.gR⟩
theorem MvL.next (h : MvL w wr gw R p sg sl ns A c A' c' vp An cn b r o n S L cnt k O cs) (hr : FRange w' b r n S L1 cnt1) (hk : Kept (fun k => k = r) wr w') : MvL w w' gw R p sg sl ns A c A' c' vp An cn b r o n S L1 cnt1 k O cs :=
 ⟨h.mid.next hr hk, h.wd.kept hk (by have := h.gr; have := h.gg; omega) (fun x hx e => by have := h.gR x hx; have := h.gr; omega), h.mb.kept hk (by have := h.gr; omega), h.fr.then hk (fun i hi e => by have := h.gr; omega), h.go, h.gr, h.gb, h.gg, h.gR⟩
theorem MvL.put {k' : Nat} (h : MvL w wr gw R p sg sl ns A c A' c' vp An cn b r o n S L cnt k O cs) (hs : FSet w' o k' O') (hk : Kept (fun k => k = o) wr w') : MvL w w' gw R p sg sl ns A c A' c' vp An cn b r o n S L cnt k' O' cs :=
 ⟨h.mid.put hs hk, h.wd.kept hk (by have := h.go; have := h.gg; omega) (fun x hx e => by have := h.gR x hx; have := h.go; omega), h.mb.kept hk (by have := h.go; omega), h.fr.then hk (fun i hi e => by have := h.go; omega), h.go, h.gr, h.gb, h.gg, h.gR⟩
theorem MvL.congr (h : MvL w wr gw R p sg sl ns A c A' c' vp An cn b r o n S L cnt k O cs) (hs : ∀ x, O x ↔ O' x) : MvL w wr gw R p sg sl ns A c A' c' vp An cn b r o n S L cnt k O' cs :=
 ⟨h.mid.congr hs, h.wd, h.mb, h.fr, h.go, h.gr, h.gb, h.gg, h.gR⟩
end

def MovePost (w : World) (p : Pg) (S : FS) (m : Mv) (e : Ending) (w' : World) : Prop := ∃ b', e = .returned (.map (some b')) ∧ FSet w' b' 2400 (moveF p S m) ∧ Fr w w' ∧ w.heap.size ≤ b'

set_option maxHeartbeats 8000000 in
set_option maxRecDepth 100000 in
theorem fmove_any (gw : Nat) (R : Nat → Prop) (p : Pg) (sg sl : Nat) (ns : List Nat) (A : Option Addr) (c : Nat) (A' : Option Addr) (c' : Nat) (vp : Value) (An : Option Addr) (cn : Nat) (b : Nat) (S : FS) (m : Mv) (w : World)
   (hW : FWd w gw R p sg sl ns A c A' c' vp An cn) (h : FSet w b 2400 S) (hu : InU p sg sl S) (hm : mvB sg sl m = true) (hmn : m.n < 4294967296) (hns : ∀ n, n ∈ ns ↔ NumIn p n)
   (hw : p.wide.length ≤ 12) (hc : p.code.length ≤ 40) (hs : sg ≤ 16) (hl : sl ≤ 12) (hR : ∀ x, R x → x < w.heap.size) :
   Calls Tryz.prog 100 #[.pointer (some ⟨gw, 0, none⟩), .map (some b), m.fval] w (MovePost w p S m) := by
 have zb := h.lt
 have zg := hW.wb.lt
 obtain ⟨m1, m2, m3⟩ := mvB_facts hm
 have hto := isB_ok m1 hs hl
 have hin := Lib.hid (moveF_in hu hm)
 have HDN := Lib.hid (fun y => mov_done (p := p) (S := S) (m := m) (y := y))
 have HU := Lib.hid hu
 have HNS := Lib.hid (show decide (m.n ∈ ns) = true ↔ NumIn p m.n from by rw [decide_eq_true_iff]; exact hns m.n)
 have HDEF : Hid (∀ (e : Ending) (w' : World), (∃ b', e = .returned (.map (some b')) ∧ FSet w' b' 2400 (moveF p S m) ∧ Fr w w' ∧ w.heap.size ≤ b') → MovePost w p S m e w') := fun _ _ h => h
 generalize moveF p S m = Q at *
 have F1 := Lib.hid (show Fr w (w.alloc (.cells #[.int .i64 m.to.k, .int .i64 m.to.n, .int .i64 m.fr.k, .int .i64 m.fr.n, .bool m.c, .int .u32 (m.n : Int)] 141)) from (Kept.refl _ w).alloc _)
 have B1 := Lib.hid (show Blk (w.alloc (.cells #[.int .i64 m.to.k, .int .i64 m.to.n, .int .i64 m.fr.k, .int .i64 m.fr.n, .bool m.c, .int .u32 (m.n : Int)] 141)) w.heap.size 141 #[.int .i64 m.to.k, .int .i64 m.to.n, .int .i64 m.fr.k, .int .i64 m.fr.n, .bool m.c, .int .u32 (m.n : Int)] from Blk.new w _ _)
 have HWO := Lib.hid (without_any b 2400 S m.to (-1) _ (h.kept F1.out (fun h => h)) (by omega))
 have HW0 := Lib.hid hW
 have HS0 := Lib.hid h
 have HMB : Hid (∀ y, MovB p S m y ↔ (withoutF S m.to (-1) y ∨ (m.c = true ∧ NumIn p m.n ∧ y = isF m.to m.n))) := fun _ => Iff.rfl
 have HNW := Lib.hid hw
 have HNC := Lib.hid hc
 have HTO := Lib.hid hto
 have HLR := Lib.hid hR
 obtain ⟨⟨tk, tn⟩, ⟨fk0, fn0⟩, mc, mn⟩ := m
 simp only at *
 generalize withoutF S ⟨tk, tn⟩ (-1) = W0 at *
 have HIS := Lib.hid (fun w2 => fis_any ⟨tk, tn⟩ mn w2)
 have HHAS := Lib.hid (fun t w2 => has_any ⟨tk, tn⟩ t w2)
 have HISn := Lib.hid (fun n w2 => fis_any ⟨tk, tn⟩ n w2)
 have hs16 := hs
 have hl12 := hl
 clear hW h hu hm hto hw hc hs hl hR m1 m2 m3 hns
 unfold Mv.fval
 simp only
 cases mc with
 | false =>
   go_enter Tryz.func100, Tryz.ntmps100
   go_wp2_with fail
   refine HWO.out.mono ?_
   rintro e w2 ⟨o, rfl, so, f2, go⟩
   have zo := so.lt
   have HB2 := Lib.hid (B1.out.kept f2 (fun h => h))
   have HW2 := Lib.hid (HW0.out.fr (F1.out.trans f2))
   have HS2 := Lib.hid (HS0.out.kept (F1.out.trans f2) (fun h => h))
   have HF2 := Lib.hid (F1.out.trans f2)
   have HO2 := Lib.hid so
   simp only [World.size_alloc] at go
   have zw2 : w.heap.size < w2.heap.size := by have := f2.size; simp at this; omega
   clear f2 so HWO
   have q0 := HB2.out.cell 0
   have q1 := HB2.out.cell 1
   have q2 := HB2.out.cell 2
   have q3 := HB2.out.cell 3
   have q4 := HB2.out.cell 4
   have q5 := HB2.out.cell 5
   have zq := HB2.out.lt
   have g0 := HW2.out.wb.cell 0
   have g1 := HW2.out.wb.cell 1
   have g2 := HW2.out.wb.cell 2
   have g3 := HW2.out.wb.cell 3
   have zg2 := HW2.out.wb.lt
   simp only [List.getElem?_toArray, List.getElem?_cons_succ, List.getElem?_cons_zero] at q0 q1 q2 q3 q4 q5 g0 g1 g2 g3
   go_wp2_with fail
   go_quiet (fail)
   have HO5 := Lib.hid ((HO2.out.kept ((Kept.refl (fun _ => False) w2).drewN nq) (fun h => h)).congr fun y => ((HMB.out y).trans ⟨fun h => h.elim id (fun h => by cases h.1), Or.inl⟩).symm)
   have HB5 := Lib.hid (HB2.out.kept ((Kept.refl (fun _ => False) w2).drewN nq) (fun h => h))
   have HW5 := Lib.hid (HW2.out.fr ((Kept.refl _ w2).drewN nq))
   have HS5 := Lib.hid (HS2.out.kept ((Kept.refl (fun _ => False) w2).drewN nq) (fun h => h))
   have HF5 := Lib.hid (HF2.out.drewN nq)
   clear q0 q1 q2 q3 q4 q5 zq g0 g1 g2 g3 zg2
   have zw5 : w.heap.size < (w2.drewN nq).heap.size := zw2
   have zo5 : o < (w2.drewN nq).heap.size := zo
   clear HB2 HW2 HS2 HF2 HO2 zw2 zo
   generalize w2.drewN nq = w5 at *
   go_wp2_with (first
     | (at_range; refine wpList_set_range _ rfl _ rfl setTy b 2400 S rfl HS5.out ?_; intro w6 cnt hrg hk hs hle; go_frame)
     | go_in)
   have HL0 := Lib.hid (show MvL w w6 gw R p sg sl ns A c A' c' vp An cn b w5.heap.size o 2400 S S cnt 2400 (Acc (MovB p S ⟨⟨tk, tn⟩, ⟨fk0, fn0⟩, false, mn⟩) S S (MovA p ⟨⟨tk, tn⟩, ⟨fk0, fn0⟩, false, mn⟩)) #[.int .i64 tk, .int .i64 tn, .int .i64 fk0, .int .i64 fn0, .bool false, .int .u32 (mn : Int)] from
     ⟨⟨hrg, (HO5.out.kept hk (fun h => h)).congr (fun y => (Acc.start (fun _ => Iff.rfl)).symm), by omega, by omega⟩, HW5.out.fr hk, HB5.out.kept hk (fun h => h), HF5.out.trans hk, by omega, by omega, zb, zg, HLR.out⟩)
   clear hrg hk hs HO5 HB5 HW5 HS5 HF5
   go_loopw [8] (fun _ wr => ∃ (L : FS) (cnt k : Nat), Hid (MvL w wr gw R p sg sl ns A c A' c' vp An cn b w5.heap.size o 2400 S L cnt k (Acc (MovB p S ⟨⟨tk, tn⟩, ⟨fk0, fn0⟩, false, mn⟩) S L (MovA p ⟨⟨tk, tn⟩, ⟨fk0, fn0⟩, false, mn⟩)) #[.int .i64 tk, .int .i64 tn, .int .i64 fk0, .int .i64 fn0, .bool false, .int .u32 (mn : Int)]) ∧ k + cnt ≤ 5000) (fun _ wr => wr.rangeLeft b w5.heap.size)
   case atStart => exact ⟨S, cnt, 2400, HL0, by omega⟩
   case round =>
     obtain ⟨L, cn1, k, hm, hle2⟩ := hrel
     clear HL0 hle
     go_wp2_with (first
       | (at_next; refine wpList_set_next _ rfl _ rfl setTy b w5.heap.size 2400 S L cn1 rfl hm.out.mid.rg ?_ ?_)
       | go_in)
     · intro _ hl0
       have HE := Lib.hid (FSet.norm (hm.out.mid.out.congr fun y => (Acc.done hl0).trans (HDN.out y)) hin.out HNW.out HNC.out hs16 hl12)
       have HF := Lib.hid hm.out.fr
       clear hm
       go_wp2
       go_ret
       exact HDEF.out _ _ ⟨o, rfl, HE.out, HF.out, by omega⟩
     · intro f w7 cn2 hLf hrg1 hlt hk1 hs1 hen
       have hSf := FRange.sub hm.out.mid.rg f hLf
       have hok := FRange.ok hm.out.mid.rg f hSf
       have hUf := Lib.hid (HU.out f hSf)
       have HLE : Hid (wr.rangeLeft b w5.heap.size = cn1) := hm.out.mid.rg.left_eq
       have hL7 := hm.out.next hrg1 hk1
       clear hm hrg1 hk1 hs1 hLf
       obtain ⟨⟨fk, fn⟩, ft, tt, nn⟩ := f
       have htt : inI tt := hok.t
       have hnn : nn < 4294967296 := hok.m
       clear hok
       unfold Fc.val at hen
       simp only at hen
       have hL8 := hL7.keep ((Kept.refl _ w7).alloc (.cells #[.int .i64 fk, .int .i64 fn, .bool ft, .int .i64 tt, .int .u32 (nn : Int)] 165))
       have HL8 := Lib.hid hL8
       have p0 := hL7.mb.cell 0
       have p1 := hL7.mb.cell 1
       have p2 := hL7.mb.cell 2
       have p3 := hL7.mb.cell 3
       have p4 := hL7.mb.cell 4
       have p5 := hL7.mb.cell 5
       have zp := hL7.mb.lt
       have r0 := hL7.wd.wb.cell 0
       have r1 := hL7.wd.wb.cell 1
       have zr := hL7.wd.wb.lt
       simp only [List.getElem?_toArray, List.getElem?_cons_succ, List.getElem?_cons_zero] at p0 p1 p2 p3 p4 p5 r0 r1
       clear hL7 hL8
       by_cases e0 : fk = fk0 ∧ fn = fn0
       · obtain ⟨rfl, rfl⟩ := e0
         cases ft with
         | false =>
           go_wp2_with fail
           go_quiet (fail)
           have HL9 := Lib.hid (HL8.out.keep ((Kept.refl _ _).drewN nq))
           clear HL8
           have HL8 := HL9
           clear HL9
           have p0 := HL8.out.mb.cell 0
           have p1 := HL8.out.mb.cell 1
           have zp := HL8.out.mb.lt
           simp only [List.getElem?_toArray, List.getElem?_cons_succ, List.getElem?_cons_zero] at p0 p1
           by_cases e2 : tk = 2
           · have HE2 := Lib.hid e2
             have e2' : (tk != 2) = false := by simpa using e2
             have HN := Lib.hid (HL8.out.congr fun y => Acc.none hSf (mv_inone rfl rfl HE2.out))
             clear HL8 e2
             go_wp2
             go_roundw
             case rel => exact ⟨_, cn2, k, HN, by omega⟩
             case measure => rw [HN.out.mid.rg.left_eq, HLE.out]; exact hlt
           · have HE2 := Lib.hid e2
             have e2' : (tk != 2) = true := by simpa using e2
             clear e2
             go_wp2_with fail
             refine (HISn.out nn _).mono ?_
             rintro e w9 ⟨rfl, f9⟩
             have HL9 := Lib.hid (HL8.out.keep f9)
             clear f9 HL8
             go_wp2_with (first
               | (at_mapUpdate; refine wpList_set_store _ rfl _ _ _ rfl setTy o k _ rfl HL9.out.mid.out (by unfold maxLen; omega) (isF ⟨tk, tn⟩ nn) rfl (isF_ok HTO.out hnn) rfl ?_; intro wA hsA hkA; go_frame)
               | go_in)
             have HN := Lib.hid ((HL9.out.put hsA hkA).congr fun y => Acc.one hSf (mv_iadd rfl rfl rfl HE2.out))
             clear hsA hkA HL9
             go_roundw
             case rel => exact ⟨_, cn2, k + 1, HN, by omega⟩
             case measure => rw [HN.out.mid.rg.left_eq, HLE.out]; exact hlt
         | true =>
           have htr : 0 ≤ tt ∧ tt < p.wide.length := by
             have hf := hUf.out
             by_cases h0 : (⟨⟨fk, fn⟩, true, tt, nn⟩ : Fc).pl.k = 0
             · exact (factIn_k0 hf h0).2.2.1
             · exact (factIn_temp hf h0 rfl).2.2.1
           obtain ⟨t, rfl⟩ : ∃ t : Nat, tt = (t : Int) := ⟨tt.toNat, by omega⟩
           have HMAY := Lib.hid (fun w9 (hf : Fr (w7.alloc (.cells #[.int .i64 fk, .int .i64 fn, .bool true, .int .i64 (t : Int), .int .u32 (nn : Int)] 165)) w9) => (may_any R _ p ⟨tk, tn⟩ t w9 (HL8.out.wd.pg.kept hf (fun _ _ h => h)) (by omega)).mono (fun e w' (h : _ ∧ Fr w9 w') => And.intro h.1 (hf.trans h.2)))
           generalize hmy : mayT p.wide (⟨tk, tn⟩ : PlaceV).k (t : Int) = my at *
           have HMY := Lib.hid hmy
           clear hmy
           have HF8 := Lib.hid (Blk.new w7 165 #[.int .i64 fk, .int .i64 fn, .bool true, .int .i64 (t : Int), .int .u32 (nn : Int)])
           go_wp2
           clear p0 p1 p2 p3 p4 p5 zp r0 r1 zr
           generalize w7.alloc (.cells #[.int .i64 fk, .int .i64 fn, .bool true, .int .i64 (t : Int), .int .u32 (nn : Int)] 165) = w8 at *
           have p0 := HL8.out.mb.cell 0
           have p1 := HL8.out.mb.cell 1
           have zp := HL8.out.mb.lt
           have r0 := HL8.out.wd.wb.cell 0
           have r1 := HL8.out.wd.wb.cell 1
           have zr := HL8.out.wd.wb.lt
           have x1 := HF8.out.cell 2
           have x2 := HF8.out.cell 3
           have zx := HF8.out.lt
           simp only [List.getElem?_toArray, List.getElem?_cons_succ, List.getElem?_cons_zero] at p0 p1 r0 r1 x1 x2
           go_region_held3 (fun w' => w'.cell? ⟨gw, 0, none⟩ = some (.slice A p.wide.length c) ∧ w'.cell? ⟨gw, 1, none⟩ = some (.slice A' p.code.length c') ∧ w'.cell? ⟨w.heap.size, 0, none⟩ = some (.int .i64 tk) ∧ w'.cell? ⟨w.heap.size, 1, none⟩ = some (.int .i64 tn) ∧ w'.cell? ⟨w7.heap.size, 2, none⟩ = some (.bool true) ∧ w'.cell? ⟨w7.heap.size, 3, none⟩ = some (.int .i64 (t : Int)))
             (first
               | go_keep
               | (go_split_ands
                  exact ⟨(fa.cell zr (fun h => h)).trans r0, (fa.cell zr (fun h => h)).trans r1, (fa.cell zp (fun h => h)).trans p0, (fa.cell zp (fun h => h)).trans p1, (fa.cell zx (fun h => h)).trans x1, (fa.cell zx (fun h => h)).trans x2⟩))
             (first
               | (go_at_call 81; refine (HMAY.out _ ((Kept.refl _ w8).drew)).mono ?_; rintro e wa ⟨rfl, fa⟩))
           have y1 := (fa.cell zx (fun h => h)).trans x1
           have y2 := (fa.cell zx (fun h => h)).trans x2
           have zy := Nat.lt_of_lt_of_le zx fa.size
           have HL9 := Lib.hid (HL8.out.keep ((Kept.refl _ w8).trans fa))
           clear HL8 HMAY p0 p1 zp r0 r1 zr x1 x2 zx fa
           rename_i hHeld
           clear hHeld
           have HL8 := HL9
           clear HL9
           have p0 := HL8.out.mb.cell 0
           have p1 := HL8.out.mb.cell 1
           have zp := HL8.out.mb.lt
           simp only [List.getElem?_toArray, List.getElem?_cons_succ, List.getElem?_cons_zero] at p0 p1
           cases my with
           | false =>
             have HN := Lib.hid (HL8.out.congr fun y => Acc.none hSf (mv_hnone rfl rfl HMY.out))
             clear HL8
             go_wp2
             go_roundw
             case rel => exact ⟨_, cn2, k, HN, by omega⟩
             case measure => rw [HN.out.mid.rg.left_eq, HLE.out]; exact hlt
           | true =>
             go_wp2_with fail
             refine (HHAS.out (t : Int) _).mono ?_
             rintro e w9 ⟨rfl, f9⟩
             have HL9 := Lib.hid (HL8.out.keep f9)
             clear f9 HL8
             go_wp2_with (first
               | (at_mapUpdate; refine wpList_set_store _ rfl _ _ _ rfl setTy o k _ rfl HL9.out.mid.out (by unfold maxLen; omega) (hasF ⟨tk, tn⟩ (t : Int)) rfl (hasF_ok HTO.out htt) rfl ?_; intro wA hsA hkA; go_frame)
               | go_in)
             have HN := Lib.hid ((HL9.out.put hsA hkA).congr fun y => Acc.one hSf (mv_hadd rfl rfl rfl HMY.out))
             clear hsA hkA HL9
             go_roundw
             case rel => exact ⟨_, cn2, k + 1, HN, by omega⟩
             case measure => rw [HN.out.mid.rg.left_eq, HLE.out]; exact hlt
       · have HFAR := Lib.hid (show (⟨fk, fn⟩ : PlaceV) ≠ ⟨fk0, fn0⟩ from fun h => e0 (by injection h with h1 h2; exact ⟨h1, h2⟩))
         by_cases e1 : fk = fk0
         · subst e1
           have e2 : (fn == fn0) = false := by rw [beq_eq_false_iff_ne]; exact fun e => e0 ⟨rfl, e⟩
           clear e0
           have HN := Lib.hid (HL8.out.congr fun y => Acc.none hSf (mv_far rfl HFAR.out))
           clear HL8
           go_wp2
           go_roundw
           case rel => exact ⟨_, cn2, k, HN, by omega⟩
           case measure => rw [HN.out.mid.rg.left_eq, HLE.out]; exact hlt
         · have e1' : (fk == fk0) = false := by rw [beq_eq_false_iff_ne]; exact e1
           clear e0
           have HN := Lib.hid (HL8.out.congr fun y => Acc.none hSf (mv_far rfl HFAR.out))
           clear HL8
           go_wp2
           go_roundw
           case rel => exact ⟨_, cn2, k, HN, by omega⟩
           case measure => rw [HN.out.mid.rg.left_eq, HLE.out]; exact hlt
 | true =>
   go_enter Tryz.func100, Tryz.ntmps100
   go_wp2_with fail
   refine HWO.out.mono ?_
   rintro e w2 ⟨o, rfl, so, f2, go⟩
   have zo := so.lt
   have HB2 := Lib.hid (B1.out.kept f2 (fun h => h))
   have HW2 := Lib.hid (HW0.out.fr (F1.out.trans f2))
   have HS2 := Lib.hid (HS0.out.kept (F1.out.trans f2) (fun h => h))
   have HF2 := Lib.hid (F1.out.trans f2)
   have HO2 := Lib.hid so
   simp only [World.size_alloc] at go
   have zw2 : w.heap.size < w2.heap.size := by have := f2.size; simp at this; omega
   clear f2 so HWO
   have q0 := HB2.out.cell 0
   have q1 := HB2.out.cell 1
   have q2 := HB2.out.cell 2
   have q3 := HB2.out.cell 3
   have q4 := HB2.out.cell 4
   have q5 := HB2.out.cell 5
   have zq := HB2.out.lt
   have g0 := HW2.out.wb.cell 0
   have g1 := HW2.out.wb.cell 1
   have g2 := HW2.out.wb.cell 2
   have g3 := HW2.out.wb.cell 3
   have zg2 := HW2.out.wb.lt
   simp only [List.getElem?_toArray, List.getElem?_cons_succ, List.getElem?_cons_zero] at q0 q1 q2 q3 q4 q5 g0 g1 g2 g3
   have HCT := Lib.hid (fun n => contains_any R _ ns mn (w2.drewN n) (HW2.out.nu.kept ((Kept.refl (fun _ => False) w2).drewN n) (fun _ _ h => h)))
   generalize hct : decide (mn ∈ ns) = ct at *
   clear hct
   go_wp2_with fail
   go_quiet (first | (go_at_call 63; refine Calls.quiet_of_same (HCT.out _)))
   have HO5 := Lib.hid (HO2.out.kept ((Kept.refl (fun _ => False) w2).drewN nq) (fun h => h))
   have HB5 := Lib.hid (HB2.out.kept ((Kept.refl (fun _ => False) w2).drewN nq) (fun h => h))
   have HW5 := Lib.hid (HW2.out.fr ((Kept.refl _ w2).drewN nq))
   have HS5 := Lib.hid (HS2.out.kept ((Kept.refl (fun _ => False) w2).drewN nq) (fun h => h))
   have HF5 := Lib.hid (HF2.out.drewN nq)
   clear q0 q1 q2 q3 q4 q5 zq g0 g1 g2 g3 zg2
   have zw5 : w.heap.size < (w2.drewN nq).heap.size := zw2
   have zo5 : o < (w2.drewN nq).heap.size := zo
   clear HB2 HW2 HS2 HF2 HO2 zw2 zo
   generalize w2.drewN nq = w5 at *
   cases ct with
   | false =>
     have HOX := Lib.hid (HO5.out.congr fun y => ((HMB.out y).trans ⟨fun h => h.elim id (fun h => absurd (HNS.out.2 h.2.1) (by decide)), Or.inl⟩).symm)
     clear HO5
     have HO5 := HOX
     clear HOX
     go_wp2_with (first
       | (at_range; refine wpList_set_range _ rfl _ rfl setTy b 2400 S rfl HS5.out ?_; intro w6 cnt hrg hk hs hle; go_frame)
       | go_in)
     have HL0 := Lib.hid (show MvL w w6 gw R p sg sl ns A c A' c' vp An cn b w5.heap.size o 2400 S S cnt 2400 (Acc (MovB p S ⟨⟨tk, tn⟩, ⟨fk0, fn0⟩, true, mn⟩) S S (MovA p ⟨⟨tk, tn⟩, ⟨fk0, fn0⟩, true, mn⟩)) #[.int .i64 tk, .int .i64 tn, .int .i64 fk0, .int .i64 fn0, .bool true, .int .u32 (mn : Int)] from
       ⟨⟨hrg, (HO5.out.kept hk (fun h => h)).congr (fun y => (Acc.start (fun _ => Iff.rfl)).symm), by omega, by omega⟩, HW5.out.fr hk, HB5.out.kept hk (fun h => h), HF5.out.trans hk, by omega, by omega, zb, zg, HLR.out⟩)
     clear hrg hk hs HO5 HB5 HW5 HS5 HF5
     go_loopw [8] (fun _ wr => ∃ (L : FS) (cnt k : Nat), Hid (MvL w wr gw R p sg sl ns A c A' c' vp An cn b w5.heap.size o 2400 S L cnt k (Acc (MovB p S ⟨⟨tk, tn⟩, ⟨fk0, fn0⟩, true, mn⟩) S L (MovA p ⟨⟨tk, tn⟩, ⟨fk0, fn0⟩, true, mn⟩)) #[.int .i64 tk, .int .i64 tn, .int .i64 fk0, .int .i64 fn0, .bool true, .int .u32 (mn : Int)]) ∧ k + cnt ≤ 5000) (fun _ wr => wr.rangeLeft b w5.heap.size)
     case atStart => exact ⟨S, cnt, 2400, HL0, by omega⟩
     case round =>
       obtain ⟨L, cn1, k, hm, hle2⟩ := hrel
       clear HL0 hle
       go_wp2_with (first
         | (at_next; refine wpList_set_next _ rfl _ rfl setTy b w5.heap.size 2400 S L cn1 rfl hm.out.mid.rg ?_ ?_)
         | go_in)
       · intro _ hl0
         have HE := Lib.hid (FSet.norm (hm.out.mid.out.congr fun y => (Acc.done hl0).trans (HDN.out y)) hin.out HNW.out HNC.out hs16 hl12)
         have HF := Lib.hid hm.out.fr
         clear hm
         go_wp2
         go_ret
         exact HDEF.out _ _ ⟨o, rfl, HE.out, HF.out, by omega⟩
       · intro f w7 cn2 hLf hrg1 hlt hk1 hs1 hen
         have hSf := FRange.sub hm.out.mid.rg f hLf
         have hok := FRange.ok hm.out.mid.rg f hSf
         have hUf := Lib.hid (HU.out f hSf)
         have HLE : Hid (wr.rangeLeft b w5.heap.size = cn1) := hm.out.mid.rg.left_eq
         have hL7 := hm.out.next hrg1 hk1
         clear hm hrg1 hk1 hs1 hLf
         obtain ⟨⟨fk, fn⟩, ft, tt, nn⟩ := f
         have htt : inI tt := hok.t
         have hnn : nn < 4294967296 := hok.m
         clear hok
         unfold Fc.val at hen
         simp only at hen
         have hL8 := hL7.keep ((Kept.refl _ w7).alloc (.cells #[.int .i64 fk, .int .i64 fn, .bool ft, .int .i64 tt, .int .u32 (nn : Int)] 165))
         have HL8 := Lib.hid hL8
         have p0 := hL7.mb.cell 0
         have p1 := hL7.mb.cell 1
         have p2 := hL7.mb.cell 2
         have p3 := hL7.mb.cell 3
         have p4 := hL7.mb.cell 4
         have p5 := hL7.mb.cell 5
         have zp := hL7.mb.lt
         have r0 := hL7.wd.wb.cell 0
         have r1 := hL7.wd.wb.cell 1
         have zr := hL7.wd.wb.lt
         simp only [List.getElem?_toArray, List.getElem?_cons_succ, List.getElem?_cons_zero] at p0 p1 p2 p3 p4 p5 r0 r1
         clear hL7 hL8
         by_cases e0 : fk = 0 ∧ nn = mn
         · obtain ⟨rfl, rfl⟩ := e0
           go_wp2_with fail
           refine (HHAS.out tt _).mono ?_
           rintro e w9 ⟨rfl, f9⟩
           have HL9 := Lib.hid (HL8.out.keep f9)
           clear f9 HL8
           go_wp2_with (first
             | (at_mapUpdate; refine wpList_set_store _ rfl _ _ _ rfl setTy o k _ rfl HL9.out.mid.out (by unfold maxLen; omega) (hasF ⟨tk, tn⟩ tt) rfl (hasF_ok HTO.out htt) rfl ?_; intro wA hsA hkA; go_frame)
             | go_in)
           have HN := Lib.hid ((HL9.out.put hsA hkA).congr fun y => Acc.one hSf (mv_cadd rfl rfl rfl))
           clear hsA hkA HL9
           go_roundw
           case rel => exact ⟨_, cn2, k + 1, HN, by omega⟩
           case measure => rw [HN.out.mid.rg.left_eq, HLE.out]; exact hlt
         · by_cases e1 : fk = 0
           · subst e1
             have e2 : ((nn : Int) == (mn : Int)) = false := by rw [beq_eq_false_iff_ne]; intro e; exact e0 ⟨rfl, by omega⟩
             have HN := Lib.hid (HL8.out.congr fun y => Acc.none hSf (mv_cnone rfl (fun h => e0 h)))
             clear HL8
             go_wp2
             go_roundw
             case rel => exact ⟨_, cn2, k, HN, by omega⟩
             case measure => rw [HN.out.mid.rg.left_eq, HLE.out]; exact hlt
           · have e1' : (fk == 0) = false := by simpa using e1
             have HN := Lib.hid (HL8.out.congr fun y => Acc.none hSf (mv_cnone rfl (fun h => e0 h)))
             clear HL8
             go_wp2
             go_roundw
             case rel => exact ⟨_, cn2, k, HN, by omega⟩
             case measure => rw [HN.out.mid.rg.left_eq, HLE.out]; exact hlt
   | true =>
     have q0 := HB5.out.cell 0
     have q1 := HB5.out.cell 1
     have q5 := HB5.out.cell 5
     have zq := HB5.out.lt
     simp only [List.getElem?_toArray, List.getElem?_cons_succ, List.getElem?_cons_zero] at q0 q1 q5
     go_wp2_with fail
     refine (HIS.out _).mono ?_
     rintro e w9 ⟨rfl, f9⟩
     have HO9 := Lib.hid (HO5.out.kept f9 (fun h => h))
     have HB9 := Lib.hid (HB5.out.kept f9 (fun h => h))
     have HW9 := Lib.hid (HW5.out.fr f9)
     have HS9 := Lib.hid (HS5.out.kept f9 (fun h => h))
     have HF9 := Lib.hid (HF5.out.trans f9)
     have z9 := f9.size
     clear f9 HO5 HB5 HW5 HS5 HF5 q0 q1 q5 zq
     go_wp2_with (first
       | (at_mapUpdate; refine wpList_set_store _ rfl _ _ _ rfl setTy o 2400 _ rfl HO9.out (by unfold maxLen; omega) (isF ⟨tk, tn⟩ mn) rfl (isF_ok HTO.out hmn) rfl ?_; intro wB hsB hkB; go_frame; have HO5 := Lib.hid (hsB.congr fun y => (show (W0 y ∨ y = isF ⟨tk, tn⟩ mn) ↔ MovB p S ⟨⟨tk, tn⟩, ⟨fk0, fn0⟩, true, mn⟩ y from ((HMB.out y).trans ⟨fun h => h.elim Or.inl (fun h => Or.inr h.2.2), fun h => h.elim Or.inl (fun h => Or.inr ⟨by trivial, HNS.out.1 (by trivial), h⟩)⟩).symm)); have HB5 := Lib.hid (HB9.out.kept hkB (by omega)); have HW5 := Lib.hid (HW9.out.kept hkB (by omega) (fun x hx e => by have := HLR.out x hx; omega)); have HS5 := Lib.hid (HS9.out.kept hkB (by omega)); have HF5 := Lib.hid (HF9.out.then hkB (fun i hi e => by omega)); have zw6 : w.heap.size < wB.heap.size := Nat.lt_of_lt_of_le (Nat.lt_of_lt_of_le zw5 z9) hkB.size; have zo6 : o < wB.heap.size := HO5.out.lt; clear hsB hkB HO9 HB9 HW9 HS9 HF9 z9 zw5 zo5)
       | (at_range; refine wpList_set_range _ rfl _ rfl setTy b 2400 S rfl HS5.out ?_; intro w6 cnt hrg hk hs hle; go_frame)
       | go_in)
     have HL0 := Lib.hid (show MvL w w6 gw R p sg sl ns A c A' c' vp An cn b wB.heap.size o 2400 S S cnt 2401 (Acc (MovB p S ⟨⟨tk, tn⟩, ⟨fk0, fn0⟩, true, mn⟩) S S (MovA p ⟨⟨tk, tn⟩, ⟨fk0, fn0⟩, true, mn⟩)) #[.int .i64 tk, .int .i64 tn, .int .i64 fk0, .int .i64 fn0, .bool true, .int .u32 (mn : Int)] from
       ⟨⟨hrg, (HO5.out.kept hk (fun h => h)).congr (fun y => (Acc.start (fun _ => Iff.rfl)).symm), by omega, by omega⟩, HW5.out.fr hk, HB5.out.kept hk (fun h => h), HF5.out.trans hk, by omega, by omega, zb, zg, HLR.out⟩)
     clear hrg hk hs HO5 HB5 HW5 HS5 HF5
     go_loopw [8] (fun _ wr => ∃ (L : FS) (cnt k : Nat), Hid (MvL w wr gw R p sg sl ns A c A' c' vp An cn b wB.heap.size o 2400 S L cnt k (Acc (MovB p S ⟨⟨tk, tn⟩, ⟨fk0, fn0⟩, true, mn⟩) S L (MovA p ⟨⟨tk, tn⟩, ⟨fk0, fn0⟩, true, mn⟩)) #[.int .i64 tk, .int .i64 tn, .int .i64 fk0, .int .i64 fn0, .bool true, .int .u32 (mn : Int)]) ∧ k + cnt ≤ 5000) (fun _ wr => wr.rangeLeft b wB.heap.size)
     case atStart => exact ⟨S, cnt, 2401, HL0, by omega⟩
     case round =>
       obtain ⟨L, cn1, k, hm, hle2⟩ := hrel
       clear HL0 hle
       go_wp2_with (first
         | (at_next; refine wpList_set_next _ rfl _ rfl setTy b wB.heap.size 2400 S L cn1 rfl hm.out.mid.rg ?_ ?_)
         | go_in)
       · intro _ hl0
         have HE := Lib.hid (FSet.norm (hm.out.mid.out.congr fun y => (Acc.done hl0).trans (HDN.out y)) hin.out HNW.out HNC.out hs16 hl12)
         have HF := Lib.hid hm.out.fr
         clear hm
         go_wp2
         go_ret
         exact HDEF.out _ _ ⟨o, rfl, HE.out, HF.out, by omega⟩
       · intro f w7 cn2 hLf hrg1 hlt hk1 hs1 hen
         have hSf := FRange.sub hm.out.mid.rg f hLf
         have hok := FRange.ok hm.out.mid.rg f hSf
         have hUf := Lib.hid (HU.out f hSf)
         have HLE : Hid (wr.rangeLeft b wB.heap.size = cn1) := hm.out.mid.rg.left_eq
         have hL7 := hm.out.next hrg1 hk1
         clear hm hrg1 hk1 hs1 hLf
         obtain ⟨⟨fk, fn⟩, ft, tt, nn⟩ := f
         have htt : inI tt := hok.t
         have hnn : nn < 4294967296 := hok.m
         clear hok
         unfold Fc.val at hen
         simp only at hen
         have hL8 := hL7.keep ((Kept.refl _ w7).alloc (.cells #[.int .i64 fk, .int .i64 fn, .bool ft, .int .i64 tt, .int .u32 (nn : Int)] 165))
         have HL8 := Lib.hid hL8
         have p0 := hL7.mb.cell 0
         have p1 := hL7.mb.cell 1
         have p2 := hL7.mb.cell 2
         have p3 := hL7.mb.cell 3
         have p4 := hL7.mb.cell 4
         have p5 := hL7.mb.cell 5
         have zp := hL7.mb.lt
         have r0 := hL7.wd.wb.cell 0
         have r1 := hL7.wd.wb.cell 1
         have zr := hL7.wd.wb.lt
         simp only [List.getElem?_toArray, List.getElem?_cons_succ, List.getElem?_cons_zero] at p0 p1 p2 p3 p4 p5 r0 r1
         clear hL7 hL8
         by_cases e0 : fk = 0 ∧ nn = mn
         · obtain ⟨rfl, rfl⟩ := e0
           go_wp2_with fail
           refine (HHAS.out tt _).mono ?_
           rintro e w9 ⟨rfl, f9⟩
           have HL9 := Lib.hid (HL8.out.keep f9)
           clear f9 HL8
           go_wp2_with (first
             | (at_mapUpdate; refine wpList_set_store _ rfl _ _ _ rfl setTy o k _ rfl HL9.out.mid.out (by unfold maxLen; omega) (hasF ⟨tk, tn⟩ tt) rfl (hasF_ok HTO.out htt) rfl ?_; intro wA hsA hkA; go_frame)
             | go_in)
           have HN := Lib.hid ((HL9.out.put hsA hkA).congr fun y => Acc.one hSf (mv_cadd rfl rfl rfl))
           clear hsA hkA HL9
           go_roundw
           case rel => exact ⟨_, cn2, k + 1, HN, by omega⟩
           case measure => rw [HN.out.mid.rg.left_eq, HLE.out]; exact hlt
         · by_cases e1 : fk = 0
           · subst e1
             have e2 : ((nn : Int) == (mn : Int)) = false := by rw [beq_eq_false_iff_ne]; intro e; exact e0 ⟨rfl, by omega⟩
             have HN := Lib.hid (HL8.out.congr fun y => Acc.none hSf (mv_cnone rfl (fun h => e0 h)))
             clear HL8
             go_wp2
             go_roundw
             case rel => exact ⟨_, cn2, k, HN, by omega⟩
             case measure => rw [HN.out.mid.rg.left_eq, HLE.out]; exact hlt
           · have e1' : (fk == 0) = false := by simpa using e1
             have HN := Lib.hid (HL8.out.congr fun y => Acc.none hSf (mv_cnone rfl (fun h => e0 h)))
             clear HL8
             go_wp2
             go_roundw
             case rel => exact ⟨_, cn2, k, HN, by omega⟩
             case measure => rw [HN.out.mid.rg.left_eq, HLE.out]; exact hlt
end Go.Proofs.YtodmkjeankbieaaGreatDoor

