/- Texts of this claim, packed. -/
import Derived.Test.YtodmkjeankbieaaGreatDoorKAllk10
set_option linter.all false
namespace Go.Proofs.YtodmkjeankbieaaGreatDoor
open Go.RowKit Go.Sort Go.Maps

theorem stays_any (bp : Nat) (x a : PlaceV) (w : World) (h : Blk w bp 99 #[.int .i64 a.k, .int .i64 a.n]) :
   Calls Tryz.prog 102 #[x.val, .pointer (some ⟨bp, 0, none⟩)] w fun e w' => e = .returned (.bool (!ovP x a)) ∧ Fr w w' := by
 have HOV := Lib.hid (fun w2 => over_any x a w2)
 generalize ovP x a = r at *
 obtain ⟨k, n⟩ := x
 obtain ⟨ak, an⟩ := a
 simp only at h
 unfold PlaceV.val at *
 simp only at *
 have c0 := h.cell 0
 have c1 := h.cell 1
 have zb := h.lt
 simp only [List.getElem?_toArray, List.getElem?_cons_succ, List.getElem?_cons_zero] at c0 c1
 have F0 := Lib.hid (show Fr w (w.alloc (.cells #[.int .i64 k, .int .i64 n] 99)) from (Kept.refl _ w).alloc _)
 clear h
 go_enter Tryz.func102, Tryz.ntmps102
 go_wp2_with fail
 refine (HOV.out _).mono ?_
 rintro e w2 ⟨rfl, f2⟩
 have F2 := Lib.hid (F0.out.trans f2)
 clear f2
 go_wp2
 go_ret
 exact ⟨rfl, F2.out⟩

def InA1 (i : In) (a : PlaceV) : Fc → FS := fun g y => g.temp = false ∧ g.n = i.n ∧ ovP g.pl a = false ∧ y = hasF g.pl i.d
def InA2 (i : In) (a : PlaceV) : Fc → FS := fun g y => g.temp = true ∧ g.t = i.a ∧ ((g.pl.k = 0 ∧ (y = knF i.d g.n ∨ y = isF a g.n)) ∨ (g.pl.k ≠ 0 ∧ ovP g.pl a = false ∧ y = hasF g.pl i.d))
section
variable {i : In} {a : PlaceV} {f : Fc}
theorem i1_add (h1 : f.temp = false) (h2 : f.n = i.n) (h3 : ovP f.pl a = false) : ∀ y, InA1 i a f y ↔ y = hasF f.pl i.d := fun _ => ⟨fun h => h.2.2.2, fun h => ⟨h1, h2, h3, h⟩⟩
theorem i1_none (h : ¬ (f.temp = false ∧ f.n = i.n ∧ ovP f.pl a = false)) : ∀ y, ¬ InA1 i a f y := fun _ hh => h ⟨hh.1, hh.2.1, hh.2.2.1⟩
theorem i2_add2 (h1 : f.temp = true) (h2 : f.t = i.a) (h3 : f.pl.k = 0) : ∀ y, InA2 i a f y ↔ (y = knF i.d f.n ∨ y = isF a f.n) := fun _ =>
 ⟨fun h => h.2.2.elim (fun h => h.2) (fun h => absurd h3 h.1), fun h => ⟨h1, h2, Or.inl ⟨h3, h⟩⟩⟩
theorem i2_add (h1 : f.temp = true) (h2 : f.t = i.a) (h3 : f.pl.k ≠ 0) (h4 : ovP f.pl a = false) : ∀ y, InA2 i a f y ↔ y = hasF f.pl i.d := fun _ =>
 ⟨fun h => h.2.2.elim (fun h => absurd h.1 h3) (fun h => h.2.2), fun h => ⟨h1, h2, Or.inr ⟨h3, h4, h⟩⟩⟩
theorem i2_far (h1 : ¬ (f.temp = true ∧ f.t = i.a)) : ∀ y, ¬ InA2 i a f y := fun _ h => h1 ⟨h.1, h.2.1⟩
theorem i2_none (h3 : f.pl.k ≠ 0) (h4 : ovP f.pl a = true) : ∀ y, ¬ InA2 i a f y := fun _ h => h.2.2.elim (fun h => h3 h.1) (fun h => by rw [h4] at h; cases h.2.1)
variable {S : FS} {y : Fc}
theorem in_done1 (h : i.op = 1) : (((((withoutF S a i.d y ∨ ∃ g, S g ∧ InA1 i a g y) ∨ y = knF i.d i.n) ∨ y = isF a i.n)) ∨ y = hasF a i.d) ↔ giveF S i a y := by
 unfold giveF InA1
 constructor
 · rintro ((((h1 | ⟨g, h1, h2, h3, h4, h5⟩) | h1) | h1) | h1)
   · exact Or.inl h1
   · exact Or.inr (Or.inl ⟨h, Or.inl ⟨g, h1, h2, h3, h4, h5⟩⟩)
   · exact Or.inr (Or.inl ⟨h, Or.inr (Or.inl h1)⟩)
   · exact Or.inr (Or.inl ⟨h, Or.inr (Or.inr h1)⟩)
   · exact Or.inr (Or.inr (Or.inr h1))
 · rintro (h1 | ⟨_, ⟨g, h1, h2, h3, h4, h5⟩ | h1 | h1⟩ | ⟨h0, _⟩ | h1)
   · exact Or.inl (Or.inl (Or.inl (Or.inl h1)))
   · exact Or.inl (Or.inl (Or.inl (Or.inr ⟨g, h1, h2, h3, h4, h5⟩)))
   · exact Or.inl (Or.inl (Or.inr h1))
   · exact Or.inl (Or.inr h1)
   · omega
   · exact Or.inr h1
theorem in_done2 (h : i.op = 2) : (((withoutF S a i.d y ∨ ∃ g, S g ∧ InA2 i a g y) ∨ y = hasF a i.a) ∨ y = hasF a i.d) ↔ giveF S i a y := by
 unfold giveF InA2
 constructor
 · rintro (((h1 | ⟨g, h1, h2, h3, h4⟩) | h1) | h1)
   · exact Or.inl h1
   · exact Or.inr (Or.inr (Or.inl ⟨h, Or.inl ⟨g, h1, h2, h3, h4⟩⟩))
   · exact Or.inr (Or.inr (Or.inl ⟨h, Or.inr h1⟩))
   · exact Or.inr (Or.inr (Or.inr h1))
 · rintro (h1 | ⟨h0, _⟩ | ⟨_, ⟨g, h1, h2, h3, h4⟩ | h1⟩ | h1)
   · exact Or.inl (Or.inl (Or.inl h1))
   · omega
   · exact Or.inl (Or.inl (Or.inr ⟨g, h1, h2, h3, h4⟩))
   · exact Or.inl (Or.inr h1)
   · exact Or.inr h1
theorem in_done0 (h1 : i.op ≠ 1) (h2 : i.op ≠ 2) : (withoutF S a i.d y ∨ y = hasF a i.d) ↔ giveF S i a y := by
 unfold giveF
 constructor
 · rintro (h | h)
   · exact Or.inl h
   · exact Or.inr (Or.inr (Or.inr h))
 · rintro (h | ⟨h, _⟩ | ⟨h, _⟩ | h)
   · exact Or.inl h
   · exact absurd h h1
   · exact absurd h h2
   · exact Or.inr h
end

structure InL (w wr : World) (b r o n : Nat) (S L : FS) (cnt k : Nat) (O : FS) (ci cp : Array Value) : Prop where
 mid : MidS wr b r o n S L cnt k O
 ib : Blk wr w.heap.size 45 ci
 pb : Blk wr (w.heap.size + 1) 99 cp
 fr : Fr w wr
 go : w.heap.size + 1 < o
 gr : w.heap.size + 1 < r
 gb : b < w.heap.size
section
variable {w wr w' : World} {b r o n cnt cnt1 k : Nat} {S L L1 O O' : FS} {ci cp : Array Value}
theorem InL.keep (h : InL w wr b r o n S L cnt k O ci cp) (hk : Fr wr w') : InL w w' b r o n S L cnt k O ci cp :=
 ⟨h.mid.fr hk, h.ib.kept hk (fun h => h), h.pb.kept hk (fun h => h), h.fr.trans hk, h.go, h.gr, h.gb⟩
theorem InL.next (h : InL w wr b r o n S L cnt k O ci cp) (hr : FRange w' b r n S L1 cnt1) (hk : Kept (fun k => k = r) wr w') : InL w w' b r o n S L1 cnt1 k O ci cp :=
 ⟨h.mid.next hr hk, h.ib.kept hk (by have := h.gr; omega), h.pb.kept hk (by have := h.gr; omega), h.fr.then hk (fun i hi e => by have := h.gr; omega), h.go, h.gr, h.gb⟩
theorem InL.put {k' : Nat} (h : InL w wr b r o n S L cnt k O ci cp) (hs : FSet w' o k' O') (hk : Kept (fun k => k = o) wr w') : InL w w' b r o n S L cnt k' O' ci cp :=
 ⟨h.mid.put hs hk, h.ib.kept hk (by have := h.go; omega), h.pb.kept hk (by have := h.go; omega), h.fr.then hk (fun i hi e => by have := h.go; omega), h.go, h.gr, h.gb⟩
theorem InL.congr (h : InL w wr b r o n S L cnt k O ci cp) (hs : ∀ x, O x ↔ O' x) : InL w wr b r o n S L cnt k O' ci cp :=
 ⟨h.mid.congr hs, h.ib, h.pb, h.fr, h.go, h.gr, h.gb⟩
end
structure InO (w wr : World) (b o k : Nat) (O : FS) (ci cp : Array Value) : Prop where
 out : FSet wr o k O
 ib : Blk wr w.heap.size 45 ci
 pb : Blk wr (w.heap.size + 1) 99 cp
 fr : Fr w wr
 go : w.heap.size + 1 < o
section
variable {w wr w' : World} {b r o n cnt k : Nat} {S L O O' : FS} {ci cp : Array Value}
theorem InL.toO (h : InL w wr b r o n S L cnt k O ci cp) : InO w wr b o k O ci cp := ⟨h.mid.out, h.ib, h.pb, h.fr, h.go⟩
theorem InO.keep (h : InO w wr b o k O ci cp) (hk : Fr wr w') : InO w w' b o k O ci cp := ⟨h.out.kept hk (fun h => h), h.ib.kept hk (fun h => h), h.pb.kept hk (fun h => h), h.fr.trans hk, h.go⟩
theorem InO.put {k' : Nat} (h : InO w wr b o k O ci cp) (hs : FSet w' o k' O') (hk : Kept (fun k => k = o) wr w') : InO w w' b o k' O' ci cp :=
 ⟨hs, h.ib.kept hk (by have := h.go; omega), h.pb.kept hk (by have := h.go; omega), h.fr.then hk (fun i hi e => by have := h.go; omega), h.go⟩
theorem InO.congr (h : InO w wr b o k O ci cp) (hs : ∀ x, O x ↔ O' x) : InO w wr b o k O' ci cp := ⟨h.out.congr hs, h.ib, h.pb, h.fr, h.go⟩
end

def InsPost (w : World) (b : Nat) (S : FS) (i : In) (a : PlaceV) (e : Ending) (w' : World) : Prop := ∃ b', e = .returned (.map (some b')) ∧ FSet w' b' 2400 (insF S i a) ∧ Fr w w' ∧ (b' = b ∨ w.heap.size ≤ b')

set_option maxHeartbeats 8000000 in
set_option maxRecDepth 100000 in
theorem factIns_any (gw : Nat) (p : Pg) (sg sl : Nat) (b : Nat) (S : FS) (i : In) (a : PlaceV) (w : World) (h : FSet w b 2400 S) (hu : InU p sg sl S) (hi : InsOk p i) (hic : i ∈ p.code) (hreg : gvs i.op = true → IsReg p sg sl i.d a) (hin : i.n < 4294967296)
   (hw : p.wide.length ≤ 12) (hc : p.code.length ≤ 40) (hs : sg ≤ 16) (hl : sl ≤ 12) :
   Calls Tryz.prog 86 #[.pointer (some ⟨gw, 0, none⟩), .map (some b), i.val, a.val] w (InsPost w b S i a) := by
 have zb := h.lt
 have HG := Lib.hid (fun w2 => Gives_any i w2 hi.kn)
 have hE0 : gvs i.op = false → insF S i a = S := fun hg => by unfold insF; rw [hg]; rfl
 have hE1 : gvs i.op = true → insF S i a = giveF S i a := fun hg => by unfold insF; rw [if_pos hg]
 have HIN := Lib.hid (show gvs i.op = true → InU p sg sl (giveF S i a) from fun hg => giveF_in hu hi hg (hreg hg) hic)
 have HDD := Lib.hid hi.d
 have HDA := Lib.hid hi.a
 have HAO := Lib.hid (show gvs i.op = true → a.ok from fun hg => isB_ok (hreg hg).2 hs hl)
 have HD1 := Lib.hid (fun y => in_done1 (i := i) (a := a) (S := S) (y := y))
 have HD2 := Lib.hid (fun y => in_done2 (i := i) (a := a) (S := S) (y := y))
 have HD0 := Lib.hid (fun y => in_done0 (i := i) (a := a) (S := S) (y := y))
 have HDEF : Hid (∀ (e : Ending) (w' : World), (∃ b', e = .returned (.map (some b')) ∧ FSet w' b' 2400 (insF S i a) ∧ Fr w w' ∧ (b' = b ∨ w.heap.size ≤ b')) → InsPost w b S i a e w') := fun _ _ h => h
 have F1 := Lib.hid (show Fr w ((w.alloc (.cells #[.int .i64 i.op, .int .i64 i.d, .int .i64 i.a, .int .i64 i.b, .int .i64 i.c, .int .u32 (i.n : Int)] 45)).alloc (.cells #[.int .i64 a.k, .int .i64 a.n] 99)) from ((Kept.refl _ w).alloc _).alloc _)
 have BI1 := Lib.hid (show Blk ((w.alloc (.cells #[.int .i64 i.op, .int .i64 i.d, .int .i64 i.a, .int .i64 i.b, .int .i64 i.c, .int .u32 (i.n : Int)] 45)).alloc (.cells #[.int .i64 a.k, .int .i64 a.n] 99)) w.heap.size 45 #[.int .i64 i.op, .int .i64 i.d, .int .i64 i.a, .int .i64 i.b, .int .i64 i.c, .int .u32 (i.n : Int)] from (Blk.new w _ _).alloc _)
 have BP1 := Lib.hid (show Blk ((w.alloc (.cells #[.int .i64 i.op, .int .i64 i.d, .int .i64 i.a, .int .i64 i.b, .int .i64 i.c, .int .u32 (i.n : Int)] 45)).alloc (.cells #[.int .i64 a.k, .int .i64 a.n] 99)) (w.heap.size + 1) 99 #[.int .i64 a.k, .int .i64 a.n] from by
   have := Blk.new (w.alloc (.cells #[.int .i64 i.op, .int .i64 i.d, .int .i64 i.a, .int .i64 i.b, .int .i64 i.c, .int .u32 (i.n : Int)] 45)) 99 #[.int .i64 a.k, .int .i64 a.n]
   simpa using this)
 have HWO := Lib.hid (fun w2 (hs : FSet w2 b 2400 S) => without_any b 2400 S a i.d w2 hs (by omega))
 have HS0 := Lib.hid h
 have HU := Lib.hid hu
 have HNW := Lib.hid hw
 have HNC := Lib.hid hc
 have hs16 := Lib.hid hs
 have hl12 := Lib.hid hl
 have HI1 := Lib.hid (fun w2 => fis_any a i.n w2)
 have HK1 := Lib.hid (fun w2 => known_any i.d i.n w2)
 have HKn := Lib.hid (fun n w2 => known_any i.d n w2)
 have HIn := Lib.hid (fun n w2 => fis_any a n w2)
 have HHA := Lib.hid (fun x w2 => has_any x i.d w2)
 have HHB := Lib.hid (fun t w2 => has_any a t w2)
 have HST := Lib.hid (fun x w2 (hb : Blk w2 (w.heap.size + 1) 99 #[.int .i64 a.k, .int .i64 a.n]) => stays_any (w.heap.size + 1) x a w2 hb)
 clear h hu hi hic hreg hw hc hs hl
 obtain ⟨op, d, ia, ib, ic, inn⟩ := i
 obtain ⟨ak, an⟩ := a
 simp only at *
 generalize hgq : insF S ⟨op, d, ia, ib, ic, inn⟩ ⟨ak, an⟩ = QI at *
 generalize hgi : giveF S ⟨op, d, ia, ib, ic, inn⟩ ⟨ak, an⟩ = QG at *
 generalize hgw : withoutF S ⟨ak, an⟩ d = W0 at *
 have HE0 := Lib.hid hE0
 have HE1 := Lib.hid hE1
 clear hE0 hE1 hgq hgi hgw
 unfold In.val at *
 unfold PlaceV.val at HWO HI1 HIn HHA HHB HST ⊢
 simp only at *
 go_enter Tryz.func86, Tryz.ntmps86
 go_wp2_with fail
 refine (HG.out _).mono ?_
 rintro e w2 ⟨rfl, f2⟩
 have HF2 := Lib.hid (F1.out.trans f2)
 have HBI := Lib.hid (BI1.out.kept f2 (fun h => h))
 have HBP := Lib.hid (BP1.out.kept f2 (fun h => h))
 have HS2 := Lib.hid (HS0.out.kept (F1.out.trans f2) (fun h => h))
 have z2 := f2.size
 simp only [World.size_alloc] at z2
 clear f2 F1 BI1 BP1 HG HS0
 rcases Bool.eq_false_or_eq_true (gvs op) with hg | hg
 · have q0 := HBI.out.cell 0
   have q1 := HBI.out.cell 1
   have q2 := HBI.out.cell 2
   have q5 := HBI.out.cell 5
   have zq := HBI.out.lt
   have g0 := HBP.out.cell 0
   have g1 := HBP.out.cell 1
   have zg := HBP.out.lt
   simp only [List.getElem?_toArray, List.getElem?_cons_succ, List.getElem?_cons_zero] at q0 q1 q2 q5 g0 g1
   go_wp2_with fail
   refine (HWO.out _ HS2.out).mono ?_
   rintro e w3 ⟨o, rfl, so, f3, go⟩
   have go2 : w.heap.size + 1 < o := by omega
   have HO3 := Lib.hid (show InO w w3 b o 2400 W0 #[.int .i64 op, .int .i64 d, .int .i64 ia, .int .i64 ib, .int .i64 ic, .int .u32 (inn : Int)] #[.int .i64 ak, .int .i64 an] from ⟨so, HBI.out.kept f3 (fun h => h), HBP.out.kept f3 (fun h => h), HF2.out.trans f3, go2⟩)
   have HS3 := Lib.hid (HS2.out.kept f3 (fun h => h))
   have zo := so.lt
   have zo3 : o < w3.heap.size := zo
   have HGV := Lib.hid hg
   have HAOK := Lib.hid (HAO.out hg)
   have HTD := Lib.hid (HDD.out hg)
   clear so f3 go HBI HBP HF2 HS2 HWO q0 q1 q2 q5 zq g0 g1 zg zo hg
   have q0 := HO3.out.ib.cell 0
   have zq := HO3.out.ib.lt
   simp only [List.getElem?_toArray, List.getElem?_cons_succ, List.getElem?_cons_zero] at q0
   have hmf : ∀ (fn : Fn) (first cap : Array Value) (w : World), (Instr.makeFunc fn first cap).run Tryz.prog w = .ok (.func fn first cap) w := fun _ _ _ _ => rfl
   by_cases e1 : op = 1
   · subst e1
     have HDN := Lib.hid (fun y => HD1.out y (by trivial))
     go_wp2_with (first
       | (at_range; refine wpList_set_range _ rfl _ rfl setTy b 2400 S rfl HS3.out ?_; intro w6 cnt hrg hk hs hle; go_frame)
       | go_in)
     have HL0 := Lib.hid (show InL w w6 b w3.heap.size o 2400 S S cnt 2400 (Acc W0 S S (InA1 ⟨1, d, ia, ib, ic, inn⟩ ⟨ak, an⟩)) #[.int .i64 1, .int .i64 d, .int .i64 ia, .int .i64 ib, .int .i64 ic, .int .u32 (inn : Int)] #[.int .i64 ak, .int .i64 an] from
       ⟨⟨hrg, (HO3.out.out.kept hk (fun h => h)).congr (fun y => (Acc.start (fun _ => Iff.rfl)).symm), by omega, by omega⟩, HO3.out.ib.kept hk (fun h => h), HO3.out.pb.kept hk (fun h => h), HO3.out.fr.trans hk, go2, by omega, zb⟩)
     clear hrg hk hs HO3 HS3 q0 zq
     go_loopw [11] (fun _ wr => ∃ (L : FS) (cnt k : Nat), Hid (InL w wr b w3.heap.size o 2400 S L cnt k (Acc W0 S L (InA1 ⟨1, d, ia, ib, ic, inn⟩ ⟨ak, an⟩)) #[.int .i64 1, .int .i64 d, .int .i64 ia, .int .i64 ib, .int .i64 ic, .int .u32 (inn : Int)] #[.int .i64 ak, .int .i64 an]) ∧ k + 2 * cnt ≤ 8000) (fun _ wr => wr.rangeLeft b w3.heap.size)
     case atStart => exact ⟨S, cnt, 2400, HL0, by omega⟩
     case round =>
       obtain ⟨L, cn1, k, hm, hle2⟩ := hrel
       clear HL0 hle
       go_wp2_with (first
         | (at_next; refine wpList_set_next _ rfl _ rfl setTy b w3.heap.size 2400 S L cn1 rfl hm.out.mid.rg ?_ ?_)
         | go_in)
       · intro _ hl0
         have HO := Lib.hid (hm.out.toO.congr fun y => Acc.done hl0)
         clear hm
         have q0 := HO.out.ib.cell 0
         have zq0 := HO.out.ib.lt
         simp only [List.getElem?_toArray, List.getElem?_cons_succ, List.getElem?_cons_zero] at q0
         have q1 := HO.out.ib.cell 1
         have q5 := HO.out.ib.cell 5
         have g0 := HO.out.pb.cell 0
         have g1 := HO.out.pb.cell 1
         have zg := HO.out.pb.lt
         simp only [List.getElem?_toArray, List.getElem?_cons_succ, List.getElem?_cons_zero] at q1 q5 g0 g1
         have td := HTD.out
         have hcw := HNW.out
         unfold tempIn at td
         have hidd : inI d := by unfold inI; omega
         clear td hcw
         have HNE := Lib.hid (show ¬ (w.heap.size = o) ∧ ¬ (w.heap.size + 1 = o) from ⟨by omega, by omega⟩)
         go_wp2
         go_region_held3 (fun w' => w'.cell? ⟨w.heap.size, 1, none⟩ = some (.int .i64 d) ∧ w'.cell? ⟨w.heap.size, 5, none⟩ = some (.int .u32 (inn : Int)) ∧ w'.cell? ⟨w.heap.size + 1, 0, none⟩ = some (.int .i64 ak) ∧ w'.cell? ⟨w.heap.size + 1, 1, none⟩ = some (.int .i64 an))
           (first
             | go_keep
             | exact sa
             | exact sb
             | exact sc
             | exact sd
             | exact se)
           (first
             | (go_at_call 84; refine (HK1.out _).mono ?_; rintro e wa ⟨rfl, fa⟩; have fa2 := (Kept.refl (fun _ => False) _).trans fa; have sa := (show wa.cell? ⟨w.heap.size, 1, none⟩ = some (.int .i64 d) ∧ wa.cell? ⟨w.heap.size, 5, none⟩ = some (.int .u32 (inn : Int)) ∧ wa.cell? ⟨w.heap.size + 1, 0, none⟩ = some (.int .i64 ak) ∧ wa.cell? ⟨w.heap.size + 1, 1, none⟩ = some (.int .i64 an) from ⟨(fa2.cell zq0 (fun h => h)).trans q1, (fa2.cell zq0 (fun h => h)).trans q5, (fa2.cell zg (fun h => h)).trans g0, (fa2.cell zg (fun h => h)).trans g1⟩))
             | (go_at_call 83; refine (HI1.out _).mono ?_; rintro e wb ⟨rfl, fb⟩; have fb2 := fa2.trans fb; have sb := (show wb.cell? ⟨w.heap.size, 1, none⟩ = some (.int .i64 d) ∧ wb.cell? ⟨w.heap.size, 5, none⟩ = some (.int .u32 (inn : Int)) ∧ wb.cell? ⟨w.heap.size + 1, 0, none⟩ = some (.int .i64 ak) ∧ wb.cell? ⟨w.heap.size + 1, 1, none⟩ = some (.int .i64 an) from ⟨(fb2.cell zq0 (fun h => h)).trans q1, (fb2.cell zq0 (fun h => h)).trans q5, (fb2.cell zg (fun h => h)).trans g0, (fb2.cell zg (fun h => h)).trans g1⟩); obtain ⟨v0, st, wc, hr1, hkc, hpend⟩ := SetAt.entry setTy fact_law (HO.out.keep ((Kept.refl _ wr).drew.trans fb2)).out (by unfold maxLen; omega) (knF_ok hidd hin); obtain ⟨wd, hr2, hsd, hkd⟩ := hpend wc rfl; obtain ⟨we, hr3, hse, hke⟩ := SetAt.store setTy hsd (by unfold maxLen; omega) (isF_ok HAOK.out hin); have kc := (Kept.mono fb2 (T := fun k => k = o) (fun _ _ h => h.elim)).trans hkc; have kd := kc.trans hkd; have ke := kd.trans hke; have sc := (show wc.cell? ⟨w.heap.size, 1, none⟩ = some (.int .i64 d) ∧ wc.cell? ⟨w.heap.size, 5, none⟩ = some (.int .u32 (inn : Int)) ∧ wc.cell? ⟨w.heap.size + 1, 0, none⟩ = some (.int .i64 ak) ∧ wc.cell? ⟨w.heap.size + 1, 1, none⟩ = some (.int .i64 an) from ⟨(kc.cell zq0 HNE.out.1).trans q1, (kc.cell zq0 HNE.out.1).trans q5, (kc.cell zg HNE.out.2).trans g0, (kc.cell zg HNE.out.2).trans g1⟩); have sd := (show wd.cell? ⟨w.heap.size, 1, none⟩ = some (.int .i64 d) ∧ wd.cell? ⟨w.heap.size, 5, none⟩ = some (.int .u32 (inn : Int)) ∧ wd.cell? ⟨w.heap.size + 1, 0, none⟩ = some (.int .i64 ak) ∧ wd.cell? ⟨w.heap.size + 1, 1, none⟩ = some (.int .i64 an) from ⟨(kd.cell zq0 HNE.out.1).trans q1, (kd.cell zq0 HNE.out.1).trans q5, (kd.cell zg HNE.out.2).trans g0, (kd.cell zg HNE.out.2).trans g1⟩); have se := (show we.cell? ⟨w.heap.size, 1, none⟩ = some (.int .i64 d) ∧ we.cell? ⟨w.heap.size, 5, none⟩ = some (.int .u32 (inn : Int)) ∧ we.cell? ⟨w.heap.size + 1, 0, none⟩ = some (.int .i64 ak) ∧ we.cell? ⟨w.heap.size + 1, 1, none⟩ = some (.int .i64 an) from ⟨(ke.cell zq0 HNE.out.1).trans q1, (ke.cell zq0 HNE.out.1).trans q5, (ke.cell zg HNE.out.2).trans g0, (ke.cell zg HNE.out.2).trans g1⟩); simp only [goInt] at hr1 hr2))
         rename_i hHeld
         clear hHeld
         have HO9 := Lib.hid (HO.out.put hse ((Kept.refl _ wr).drew.trans ke))
         clear sa sb sc sd se fa fa2 fb fb2 hpend hkc kc hsd hkd kd hse hke ke hr1 hr2 hr3 HO q0 q1 q5 g0 g1 zg zq0 hidd
         have td := HTD.out
         have hcw := HNW.out
         unfold tempIn at td
         have hid : inI d := by unfold inI; omega
         clear td hcw
         have g0 := HO9.out.pb.cell 0
         have g1 := HO9.out.pb.cell 1
         have zg := HO9.out.pb.lt
         have q1 := HO9.out.ib.cell 1
         have zq := HO9.out.ib.lt
         simp only [List.getElem?_toArray, List.getElem?_cons_succ, List.getElem?_cons_zero] at g0 g1 q1
         go_wp2_with fail
         refine (HHA.out ⟨ak, an⟩ _).mono ?_
         rintro e wX ⟨rfl, fX⟩
         have HOX := Lib.hid (HO9.out.keep fX)
         clear fX HO9 g0 g1 zg q1 zq
         go_wp2_with (first
           | (at_mapUpdate; refine wpList_set_store _ rfl _ _ _ rfl setTy o (k + 1 + 1) _ rfl HOX.out.out (by unfold maxLen; omega) (hasF ⟨ak, an⟩ d) rfl (hasF_ok HAOK.out hid) rfl ?_; intro wY hsY hkY; go_frame)
           | go_in)
         have HFIN := HOX.out.put hsY hkY
         go_ret
         exact HDEF.out _ _ ⟨o, rfl, by rw [HE1.out HGV.out]; exact FSet.norm (HFIN.out.congr fun y => HDN.out y) (HIN.out HGV.out) HNW.out HNC.out hs16.out hl12.out, HFIN.fr, Or.inr (by have := HFIN.go; omega)⟩
       · intro f w7 cn2 hLf hrg1 hlt hk1 hs1 hen
         have hSf := FRange.sub hm.out.mid.rg f hLf
         have hok := FRange.ok hm.out.mid.rg f hSf
         have hUf := Lib.hid (HU.out f hSf)
         have HLE : Hid (wr.rangeLeft b w3.heap.size = cn1) := hm.out.mid.rg.left_eq
         have zo7 : o < w7.heap.size := Nat.lt_of_lt_of_le hm.out.mid.out.lt hk1.size
         have hL7 := hm.out.next hrg1 hk1
         clear hm hrg1 hk1 hs1 hLf
         obtain ⟨⟨fk, fn⟩, ft, tt, nn⟩ := f
         have htt : inI tt := hok.t
         have hnn : nn < 4294967296 := hok.m
         have hpl : (⟨fk, fn⟩ : PlaceV).ok := ⟨hok.k, hok.n⟩
         clear hok
         unfold Fc.val at hen
         simp only at hen
         have HL8 := Lib.hid (hL7.keep ((Kept.refl _ w7).alloc (.cells #[.int .i64 fk, .int .i64 fn, .bool ft, .int .i64 tt, .int .u32 (nn : Int)] 165)))
         have HF8 := Lib.hid (Blk.new w7 165 #[.int .i64 fk, .int .i64 fn, .bool ft, .int .i64 tt, .int .u32 (nn : Int)])
         have p1 := hL7.ib.cell 1
         have p2 := hL7.ib.cell 2
         have p5 := hL7.ib.cell 5
         have zp := hL7.ib.lt
         have r0 := hL7.pb.cell 0
         have r1 := hL7.pb.cell 1
         have zr := hL7.pb.lt
         simp only [List.getElem?_toArray, List.getElem?_cons_succ, List.getElem?_cons_zero] at p1 p2 p5 r0 r1
         clear hL7
         cases ft with
         | true =>
           have HN := Lib.hid (HL8.out.congr fun y => Acc.none hSf (i1_none (fun h => by cases h.1)))
           clear HL8
           go_wp2
           go_roundw
           case rel => exact ⟨_, cn2, k, HN, by omega⟩
           case measure => rw [HN.out.mid.rg.left_eq, HLE.out]; exact hlt
         | false =>
           by_cases en : nn = inn
           · subst en
             go_wp2_with fail
             refine (HST.out ⟨fk, fn⟩ _ HL8.out.pb).mono ?_
             rintro e w9 ⟨rfl, f9⟩
             have HL9 := Lib.hid (HL8.out.keep f9)
             have hF9 := HF8.out.kept f9 (fun h => h)
             clear f9 HL8 HF8 p1 p2 p5 zp r0 r1 zr
             have x0 := hF9.cell 0
             have x1 := hF9.cell 1
             have zx := hF9.lt
             have p1 := HL9.out.ib.cell 1
             have zp := HL9.out.ib.lt
             simp only [List.getElem?_toArray, List.getElem?_cons_succ, List.getElem?_cons_zero] at x0 x1 p1
             clear hF9
             generalize hov : ovP ⟨fk, fn⟩ ⟨ak, an⟩ = rv
             have HOV := Lib.hid hov
             clear hov
             cases rv with
             | true =>
               have HN := Lib.hid (HL9.out.congr fun y => Acc.none hSf (i1_none (fun h => by have := h.2.2; rw [show ovP (⟨⟨fk, fn⟩, false, tt, nn⟩ : Fc).pl ⟨ak, an⟩ = true from HOV.out] at this; cases this)))
               clear HL9
               go_wp2
               go_roundw
               case rel => exact ⟨_, cn2, k, HN, by omega⟩
               case measure => rw [HN.out.mid.rg.left_eq, HLE.out]; exact hlt
             | false =>
               go_wp2_with fail
               refine (HHA.out ⟨fk, fn⟩ _).mono ?_
               rintro e w10 ⟨rfl, f10⟩
               have HLA := Lib.hid (HL9.out.keep f10)
               clear f10 HL9 x0 x1 zx p1 zp
               have td := HTD.out
               have hcw := HNW.out
               unfold tempIn at td
               have hid : inI d := by unfold inI; omega
               clear td hcw
               go_wp2_with (first
                 | (at_mapUpdate; refine wpList_set_store _ rfl _ _ _ rfl setTy o k _ rfl HLA.out.mid.out (by unfold maxLen; omega) (hasF ⟨fk, fn⟩ d) rfl (hasF_ok hpl hid) rfl ?_; intro wA hsA hkA; go_frame)
                 | go_in)
               have HN := Lib.hid ((HLA.out.put hsA hkA).congr fun y => Acc.one hSf (i1_add rfl rfl HOV.out))
               clear hsA hkA HLA
               go_roundw
               case rel => exact ⟨_, cn2, k + 1, HN, by omega⟩
               case measure => rw [HN.out.mid.rg.left_eq, HLE.out]; exact hlt
           · have en' : ((nn : Int) == (inn : Int)) = false := by rw [beq_eq_false_iff_ne]; omega
             have HN := Lib.hid (HL8.out.congr fun y => Acc.none hSf (i1_none (fun h => en h.2.1)))
             clear HL8
             go_wp2
             go_roundw
             case rel => exact ⟨_, cn2, k, HN, by omega⟩
             case measure => rw [HN.out.mid.rg.left_eq, HLE.out]; exact hlt
   · have e1' : (op == 1) = false := by simpa using e1
     by_cases e2 : op = 2
     · subst e2
       have HDN := Lib.hid (fun y => HD2.out y (by trivial))
       go_wp2_with (first
         | (at_range; refine wpList_set_range _ rfl _ rfl setTy b 2400 S rfl HS3.out ?_; intro w6 cnt hrg hk hs hle; go_frame)
         | go_in)
       have HL0 := Lib.hid (show InL w w6 b w3.heap.size o 2400 S S cnt 2400 (Acc W0 S S (InA2 ⟨2, d, ia, ib, ic, inn⟩ ⟨ak, an⟩)) #[.int .i64 2, .int .i64 d, .int .i64 ia, .int .i64 ib, .int .i64 ic, .int .u32 (inn : Int)] #[.int .i64 ak, .int .i64 an] from
         ⟨⟨hrg, (HO3.out.out.kept hk (fun h => h)).congr (fun y => (Acc.start (fun _ => Iff.rfl)).symm), by omega, by omega⟩, HO3.out.ib.kept hk (fun h => h), HO3.out.pb.kept hk (fun h => h), HO3.out.fr.trans hk, go2, by omega, zb⟩)
       clear hrg hk hs HO3 HS3 q0 zq
       go_loopw [12] (fun _ wr => ∃ (L : FS) (cnt k : Nat), Hid (InL w wr b w3.heap.size o 2400 S L cnt k (Acc W0 S L (InA2 ⟨2, d, ia, ib, ic, inn⟩ ⟨ak, an⟩)) #[.int .i64 2, .int .i64 d, .int .i64 ia, .int .i64 ib, .int .i64 ic, .int .u32 (inn : Int)] #[.int .i64 ak, .int .i64 an]) ∧ k + 2 * cnt ≤ 8000) (fun _ wr => wr.rangeLeft b w3.heap.size)
       case atStart => exact ⟨S, cnt, 2400, HL0, by omega⟩
       case round =>
         obtain ⟨L, cn1, k, hm, hle2⟩ := hrel
         clear HL0 hle
         go_wp2_with (first
           | (at_next; refine wpList_set_next _ rfl _ rfl setTy b w3.heap.size 2400 S L cn1 rfl hm.out.mid.rg ?_ ?_)
           | go_in)
         · intro _ hl0
           have HO := Lib.hid (hm.out.toO.congr fun y => Acc.done hl0)
           clear hm
           have q0 := HO.out.ib.cell 0
           have zq0 := HO.out.ib.lt
           simp only [List.getElem?_toArray, List.getElem?_cons_succ, List.getElem?_cons_zero] at q0
           have q2 := HO.out.ib.cell 2
           have g0 := HO.out.pb.cell 0
           have g1 := HO.out.pb.cell 1
           have zg := HO.out.pb.lt
           simp only [List.getElem?_toArray, List.getElem?_cons_succ, List.getElem?_cons_zero] at q2 g0 g1
           go_wp2_with fail
           refine (HHB.out ia _).mono ?_
           rintro e wa ⟨rfl, fa⟩
           have HOa := Lib.hid (HO.out.keep fa)
           clear fa HO q0 q2 g0 g1 zg zq0
           have ta := HDA.out (by decide)
           have hcw := HNW.out
           unfold tempIn at ta
           have hida : inI ia := by unfold inI; omega
           clear ta hcw
           have q1 := HOa.out.ib.cell 1
           have zq := HOa.out.ib.lt
           have g0 := HOa.out.pb.cell 0
           have g1 := HOa.out.pb.cell 1
           have zg := HOa.out.pb.lt
           simp only [List.getElem?_toArray, List.getElem?_cons_succ, List.getElem?_cons_zero] at q1 g0 g1
           go_wp2_with (first
             | (at_mapUpdate; refine wpList_set_store _ rfl _ _ _ rfl setTy o k _ rfl HOa.out.out (by unfold maxLen; omega) (hasF ⟨ak, an⟩ ia) rfl (hasF_ok HAOK.out hida) rfl ?_; intro we hse hke; go_frame; have HO9 := Lib.hid (HOa.out.put hse hke); have p1 := HO9.out.ib.cell 1; have zp := HO9.out.ib.lt; have r0 := HO9.out.pb.cell 0; have r1 := HO9.out.pb.cell 1; have zr := HO9.out.pb.lt; simp only [List.getElem?_toArray, List.getElem?_cons_succ, List.getElem?_cons_zero] at p1 r0 r1; clear q1 zq g0 g1 zg HOa hse hke)
             | fail)
           have td := HTD.out
           have hcw := HNW.out
           unfold tempIn at td
           have hid : inI d := by unfold inI; omega
           clear td hcw
           refine (HHA.out ⟨ak, an⟩ _).mono ?_
           rintro e wX ⟨rfl, fX⟩
           have HOX := Lib.hid (HO9.out.keep fX)
           clear fX HO9 p1 zp r0 r1 zr
           go_wp2_with (first
             | (at_mapUpdate; refine wpList_set_store _ rfl _ _ _ rfl setTy o (k + 1) _ rfl HOX.out.out (by unfold maxLen; omega) (hasF ⟨ak, an⟩ d) rfl (hasF_ok HAOK.out hid) rfl ?_; intro wY hsY hkY; go_frame)
             | go_in)
           have HFIN := HOX.out.put hsY hkY
           go_ret
           exact HDEF.out _ _ ⟨o, rfl, by rw [HE1.out HGV.out]; exact FSet.norm (HFIN.out.congr fun y => HDN.out y) (HIN.out HGV.out) HNW.out HNC.out hs16.out hl12.out, HFIN.fr, Or.inr (by have := HFIN.go; omega)⟩
         · intro f w7 cn2 hLf hrg1 hlt hk1 hs1 hen
           have hSf := FRange.sub hm.out.mid.rg f hLf
           have hok := FRange.ok hm.out.mid.rg f hSf
           have hUf := Lib.hid (HU.out f hSf)
           have HLE : Hid (wr.rangeLeft b w3.heap.size = cn1) := hm.out.mid.rg.left_eq
           have zo7 : o < w7.heap.size := Nat.lt_of_lt_of_le hm.out.mid.out.lt hk1.size
           have hL7 := hm.out.next hrg1 hk1
           clear hm hrg1 hk1 hs1 hLf
           obtain ⟨⟨fk, fn⟩, ft, tt, nn⟩ := f
           have htt : inI tt := hok.t
           have hnn : nn < 4294967296 := hok.m
           have hpl : (⟨fk, fn⟩ : PlaceV).ok := ⟨hok.k, hok.n⟩
           clear hok
           unfold Fc.val at hen
           simp only at hen
           have HL8 := Lib.hid (hL7.keep ((Kept.refl _ w7).alloc (.cells #[.int .i64 fk, .int .i64 fn, .bool ft, .int .i64 tt, .int .u32 (nn : Int)] 165)))
           have HF8 := Lib.hid (Blk.new w7 165 #[.int .i64 fk, .int .i64 fn, .bool ft, .int .i64 tt, .int .u32 (nn : Int)])
           have p1 := hL7.ib.cell 1
           have p2 := hL7.ib.cell 2
           have p5 := hL7.ib.cell 5
           have zp := hL7.ib.lt
           have r0 := hL7.pb.cell 0
           have r1 := hL7.pb.cell 1
           have zr := hL7.pb.lt
           simp only [List.getElem?_toArray, List.getElem?_cons_succ, List.getElem?_cons_zero] at p1 p2 p5 r0 r1
           clear hL7
           cases ft with
           | false =>
             have HN := Lib.hid (HL8.out.congr fun y => Acc.none hSf (i2_far (fun h => by cases h.1)))
             clear HL8
             go_wp2
             go_roundw
             case rel => exact ⟨_, cn2, k, HN, by omega⟩
             case measure => rw [HN.out.mid.rg.left_eq, HLE.out]; exact hlt
           | true =>
             by_cases et : tt = ia
             · subst et
               by_cases e0 : fk = 0
               · subst e0
                 have td := HTD.out
                 have hcw := HNW.out
                 unfold tempIn at td
                 have hidd : inI d := by unfold inI; omega
                 clear td hcw
                 have HNE := Lib.hid (show ¬ (w.heap.size = o) ∧ ¬ (w.heap.size + 1 = o) from ⟨by omega, by omega⟩)
                 have HNE7 := Lib.hid (show ¬ (w7.heap.size = o) from by
                   have h1 := HL8.out.mid.out.lt
                   have h2 := zo7
                   omega)
                 go_wp2
                 clear p1 p2 p5 zp r0 r1 zr
                 generalize w7.alloc (.cells #[.int .i64 0, .int .i64 fn, .bool true, .int .i64 tt, .int .u32 (nn : Int)] 165) = w8 at *
                 have p1 := HL8.out.ib.cell 1
                 have zp := HL8.out.ib.lt
                 have r0 := HL8.out.pb.cell 0
                 have r1 := HL8.out.pb.cell 1
                 have zr := HL8.out.pb.lt
                 have x4 := HF8.out.cell 4
                 have zx := HF8.out.lt
                 simp only [List.getElem?_toArray, List.getElem?_cons_succ, List.getElem?_cons_zero] at p1 r0 r1 x4
                 go_region_held3 (fun w' => w'.cell? ⟨w.heap.size, 1, none⟩ = some (.int .i64 d) ∧ w'.cell? ⟨w7.heap.size, 4, none⟩ = some (.int .u32 (nn : Int)) ∧ w'.cell? ⟨w.heap.size + 1, 0, none⟩ = some (.int .i64 ak) ∧ w'.cell? ⟨w.heap.size + 1, 1, none⟩ = some (.int .i64 an))
                   (first
                     | go_keep
                     | exact sa
                     | exact sb
                     | exact sc
                     | exact sd
                     | exact se)
                   (first
                     | (go_at_call 84; refine (HKn.out nn _).mono ?_; rintro e wa ⟨rfl, fa⟩; have fa2 := (Kept.refl (fun _ => False) _).trans fa; have sa := (show wa.cell? ⟨w.heap.size, 1, none⟩ = some (.int .i64 d) ∧ wa.cell? ⟨w7.heap.size, 4, none⟩ = some (.int .u32 (nn : Int)) ∧ wa.cell? ⟨w.heap.size + 1, 0, none⟩ = some (.int .i64 ak) ∧ wa.cell? ⟨w.heap.size + 1, 1, none⟩ = some (.int .i64 an) from ⟨(fa2.cell zp (fun h => h)).trans p1, (fa2.cell zx (fun h => h)).trans x4, (fa2.cell zr (fun h => h)).trans r0, (fa2.cell zr (fun h => h)).trans r1⟩))
                     | (go_at_call 83; refine (HIn.out nn _).mono ?_; rintro e wb ⟨rfl, fb⟩; have fb2 := fa2.trans fb; have sb := (show wb.cell? ⟨w.heap.size, 1, none⟩ = some (.int .i64 d) ∧ wb.cell? ⟨w7.heap.size, 4, none⟩ = some (.int .u32 (nn : Int)) ∧ wb.cell? ⟨w.heap.size + 1, 0, none⟩ = some (.int .i64 ak) ∧ wb.cell? ⟨w.heap.size + 1, 1, none⟩ = some (.int .i64 an) from ⟨(fb2.cell zp (fun h => h)).trans p1, (fb2.cell zx (fun h => h)).trans x4, (fb2.cell zr (fun h => h)).trans r0, (fb2.cell zr (fun h => h)).trans r1⟩); obtain ⟨v0, st, wc, hr1, hkc, hpend⟩ := SetAt.entry setTy fact_law (HL8.out.keep ((Kept.refl _ w8).drew.trans fb2)).mid.out (by unfold maxLen; omega) (knF_ok hidd hnn); obtain ⟨wd, hr2, hsd, hkd⟩ := hpend wc rfl; obtain ⟨we, hr3, hse, hke⟩ := SetAt.store setTy hsd (by unfold maxLen; omega) (isF_ok HAOK.out hnn); have kc := (Kept.mono fb2 (T := fun k => k = o) (fun _ _ h => h.elim)).trans hkc; have kd := kc.trans hkd; have ke := kd.trans hke; have sc := (show wc.cell? ⟨w.heap.size, 1, none⟩ = some (.int .i64 d) ∧ wc.cell? ⟨w7.heap.size, 4, none⟩ = some (.int .u32 (nn : Int)) ∧ wc.cell? ⟨w.heap.size + 1, 0, none⟩ = some (.int .i64 ak) ∧ wc.cell? ⟨w.heap.size + 1, 1, none⟩ = some (.int .i64 an) from ⟨(kc.cell zp HNE.out.1).trans p1, (kc.cell zx HNE7.out).trans x4, (kc.cell zr HNE.out.2).trans r0, (kc.cell zr HNE.out.2).trans r1⟩); have sd := (show wd.cell? ⟨w.heap.size, 1, none⟩ = some (.int .i64 d) ∧ wd.cell? ⟨w7.heap.size, 4, none⟩ = some (.int .u32 (nn : Int)) ∧ wd.cell? ⟨w.heap.size + 1, 0, none⟩ = some (.int .i64 ak) ∧ wd.cell? ⟨w.heap.size + 1, 1, none⟩ = some (.int .i64 an) from ⟨(kd.cell zp HNE.out.1).trans p1, (kd.cell zx HNE7.out).trans x4, (kd.cell zr HNE.out.2).trans r0, (kd.cell zr HNE.out.2).trans r1⟩); have se := (show we.cell? ⟨w.heap.size, 1, none⟩ = some (.int .i64 d) ∧ we.cell? ⟨w7.heap.size, 4, none⟩ = some (.int .u32 (nn : Int)) ∧ we.cell? ⟨w.heap.size + 1, 0, none⟩ = some (.int .i64 ak) ∧ we.cell? ⟨w.heap.size + 1, 1, none⟩ = some (.int .i64 an) from ⟨(ke.cell zp HNE.out.1).trans p1, (ke.cell zx HNE7.out).trans x4, (ke.cell zr HNE.out.2).trans r0, (ke.cell zr HNE.out.2).trans r1⟩); simp only [goInt] at hr1 hr2))
                 rename_i hHeld
                 clear hHeld
                 have HN := Lib.hid ((HL8.out.put hse ((Kept.refl _ w8).drew.trans ke)).congr fun y => Acc.two hSf (i2_add2 rfl rfl rfl))
                 clear sa sb sc sd se fa fa2 fb fb2 hpend hkc kc hsd hkd kd hse hke ke hr1 hr2 hr3 HL8 HF8 p1 zp r0 r1 zr x4 zx hidd
                 go_wp2
                 go_roundw
                 case rel => exact ⟨_, cn2, k + 1 + 1, HN, by omega⟩
                 case measure => rw [HN.out.mid.rg.left_eq, HLE.out]; exact hlt
               · have e0' : (fk == 0) = false := by simpa using e0
                 go_wp2_with fail
                 refine (HST.out ⟨fk, fn⟩ _ HL8.out.pb).mono ?_
                 rintro e w9 ⟨rfl, f9⟩
                 have HL9 := Lib.hid (HL8.out.keep f9)
                 have hF9 := HF8.out.kept f9 (fun h => h)
                 clear f9 HL8 HF8 p1 p2 p5 zp r0 r1 zr
                 have x0 := hF9.cell 0
                 have x1 := hF9.cell 1
                 have zx := hF9.lt
                 have p1 := HL9.out.ib.cell 1
                 have zp := HL9.out.ib.lt
                 simp only [List.getElem?_toArray, List.getElem?_cons_succ, List.getElem?_cons_zero] at x0 x1 p1
                 clear hF9
                 generalize hov : ovP ⟨fk, fn⟩ ⟨ak, an⟩ = rv
                 have HOV := Lib.hid hov
                 clear hov
                 cases rv with
                 | true =>
                   have HN := Lib.hid (HL9.out.congr fun y => Acc.none hSf (i2_none e0 HOV.out))
                   clear HL9
                   go_wp2
                   go_roundw
                   case rel => exact ⟨_, cn2, k, HN, by omega⟩
                   case measure => rw [HN.out.mid.rg.left_eq, HLE.out]; exact hlt
                 | false =>
                   go_wp2_with fail
                   refine (HHA.out ⟨fk, fn⟩ _).mono ?_
                   rintro e w10 ⟨rfl, f10⟩
                   have HLA := Lib.hid (HL9.out.keep f10)
                   clear f10 HL9 x0 x1 zx p1 zp
                   have td := HTD.out
                   have hcw := HNW.out
                   unfold tempIn at td
                   have hid : inI d := by unfold inI; omega
                   clear td hcw
                   go_wp2_with (first
                     | (at_mapUpdate; refine wpList_set_store _ rfl _ _ _ rfl setTy o k _ rfl HLA.out.mid.out (by unfold maxLen; omega) (hasF ⟨fk, fn⟩ d) rfl (hasF_ok hpl hid) rfl ?_; intro wA hsA hkA; go_frame)
                     | go_in)
                   have HN := Lib.hid ((HLA.out.put hsA hkA).congr fun y => Acc.one hSf (i2_add rfl rfl e0 HOV.out))
                   clear hsA hkA HLA
                   go_roundw
                   case rel => exact ⟨_, cn2, k + 1, HN, by omega⟩
                   case measure => rw [HN.out.mid.rg.left_eq, HLE.out]; exact hlt
             · have et' : (tt != ia) = true := by simpa using et
               have HN := Lib.hid (HL8.out.congr fun y => Acc.none hSf (i2_far (fun h => et h.2)))
               clear HL8
               go_wp2
               go_roundw
               case rel => exact ⟨_, cn2, k, HN, by omega⟩
               case measure => rw [HN.out.mid.rg.left_eq, HLE.out]; exact hlt
     · have e2' : (op == 2) = false := by simpa using e2
       have HDN := Lib.hid (fun y => HD0.out y e1 e2)
       clear e1 e2
       have td := HTD.out
       have hcw := HNW.out
       unfold tempIn at td
       have hid : inI d := by unfold inI; omega
       clear td hcw
       have g0 := HO3.out.pb.cell 0
       have g1 := HO3.out.pb.cell 1
       have zg := HO3.out.pb.lt
       have q1 := HO3.out.ib.cell 1
       have zq := HO3.out.ib.lt
       simp only [List.getElem?_toArray, List.getElem?_cons_succ, List.getElem?_cons_zero] at g0 g1 q1
       go_wp2_with fail
       refine (HHA.out ⟨ak, an⟩ _).mono ?_
       rintro e wX ⟨rfl, fX⟩
       have HOX := Lib.hid (HO3.out.keep fX)
       clear fX HO3 g0 g1 zg q1 zq
       go_wp2_with (first
         | (at_mapUpdate; refine wpList_set_store _ rfl _ _ _ rfl setTy o (2400) _ rfl HOX.out.out (by unfold maxLen; omega) (hasF ⟨ak, an⟩ d) rfl (hasF_ok HAOK.out hid) rfl ?_; intro wY hsY hkY; go_frame)
         | go_in)
       have HFIN := HOX.out.put hsY hkY
       go_ret
       exact HDEF.out _ _ ⟨o, rfl, by rw [HE1.out HGV.out]; exact FSet.norm (HFIN.out.congr fun y => HDN.out y) (HIN.out HGV.out) HNW.out HNC.out hs16.out hl12.out, HFIN.fr, Or.inr (by have := HFIN.go; omega)⟩
 · have HE := Lib.hid (HE0.out hg)
   go_wp2
   go_ret
   exact HDEF.out _ _ ⟨b, rfl, by rw [HE.out]; exact HS2.out, HF2.out, Or.inl rfl⟩
end Go.Proofs.YtodmkjeankbieaaGreatDoor

