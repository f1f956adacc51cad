/- Texts of this claim, packed. -/
import Derived.Test.YtodmkjeankbieabKAllk13
set_option linter.all false
namespace Go.Proofs.Ytodmkjeankbieab
open Go.RowKit Go.Sort Go.Maps

structure Put8 (w wr : World) (cw ci ca : Array Value) (bo L : Nat) (F : Bits) (i : Nat) (v : Bool) : Prop where
 b0 : Blk wr w.heap.size 121 cw
 b1 : Blk wr (w.heap.size + 1) 45 ci
 b2 : Blk wr (w.heap.size + 2) 57 ca
 out : Blk wr bo 4 (mkB L fun s => if s = i then v else upTo F i s)
 fr : Fr w wr
 lt : w.heap.size + 2 < bo
structure Rnd8 (w wr : World) (cw ci ca : Array Value) (bo L : Nat) (F : Bits) (i : Nat) : Prop where
 b0 : Blk wr w.heap.size 121 cw
 b1 : Blk wr (w.heap.size + 1) 45 ci
 b2 : Blk wr (w.heap.size + 2) 57 ca
 out : Blk wr bo 4 (mkB L (upTo F i))
 fr : Fr w wr
 lt : w.heap.size + 2 < bo
section
variable {w wr w' : World} {cw ci ca : Array Value} {bo L : Nat} {F : Bits} {i : Nat} {v : Bool}
theorem Rnd8.keep (h : Rnd8 w wr cw ci ca bo L F i) (hk : Fr wr w') : Rnd8 w w' cw ci ca bo L F i := ⟨h.b0.kept hk (fun h => h), h.b1.kept hk (fun h => h), h.b2.kept hk (fun h => h), h.out.kept hk (fun h => h), h.fr.trans hk, h.lt⟩
theorem Put8.keep (h : Put8 w wr cw ci ca bo L F i v) (hk : Fr wr w') : Put8 w w' cw ci ca bo L F i v := ⟨h.b0.kept hk (fun h => h), h.b1.kept hk (fun h => h), h.b2.kept hk (fun h => h), h.out.kept hk (fun h => h), h.fr.trans hk, h.lt⟩
theorem Rnd8.put (h : Rnd8 w wr cw ci ca bo L F i) (x : Bool) : Put8 w (wr.setCell ⟨bo, i, none⟩ (.bool x)) cw ci ca bo L F i x := by
 refine ⟨h.b0.far (p := ⟨bo, i, none⟩) (by have := h.lt; simp only; omega) _, h.b1.far (p := ⟨bo, i, none⟩) (by have := h.lt; simp only; omega) _, h.b2.far (p := ⟨bo, i, none⟩) (by have := h.lt; simp only; omega) _, ?_, h.fr.setCell (fun e => by have := h.lt; simp only at e; omega) _, h.lt⟩
 exact h.out.bset i x
theorem Put8.put (h : Put8 w wr cw ci ca bo L F i v) (x : Bool) : Put8 w (wr.setCell ⟨bo, i, none⟩ (.bool x)) cw ci ca bo L F i x := by
 refine ⟨h.b0.far (p := ⟨bo, i, none⟩) (by have := h.lt; simp only; omega) _, h.b1.far (p := ⟨bo, i, none⟩) (by have := h.lt; simp only; omega) _, h.b2.far (p := ⟨bo, i, none⟩) (by have := h.lt; simp only; omega) _, ?_, h.fr.setCell (fun e => by have := h.lt; simp only at e; omega) _, h.lt⟩
 have := h.out.bset i x
 rw [mkB_congr (g := fun s => if s = i then x else upTo F i s) (fun t _ => by by_cases e : t = i <;> simp [e])] at this
 exact this
theorem Put8.done (h : Put8 w wr cw ci ca bo L F i v) (hv : v = F i) : Rnd8 w wr cw ci ca bo L F (i + 1) := ⟨h.b0, h.b1, h.b2, by rw [← upTo_set hv]; exact h.out, h.fr, h.lt⟩
end
def RowX8 (w : World) (bs L : Nat) (F : Bits) (e : Ending) (w' : World) : Prop := ∃ bo, e = .returned (.slice (some ⟨bo, 0, none⟩) L L) ∧ (bo = bs ∨ w.heap.size ≤ bo) ∧ Blk w' bo 4 (mkB L F) ∧ Fr w w'
theorem ovP_refl {a : PlaceV} (h : a.k = 1 ∨ a.k = 2 ∨ a.k = 3) : ovP a a = true := by
 unfold ovP
 rcases h with h | h | h <;> simp [h]
theorem ibeq (a b : Nat) : ((a : Int) == (b : Int)) = decide (a = b) := by
 by_cases h : a = b
 · subst h; simp
 · rw [decide_eq_false h]; exact beq_false_of_ne (by omega)
theorem ieq {a b : Int} (h : a = b) : (a == b) = true := by simpa using h
theorem ine {a b : Int} (h : ¬ a = b) : (a == b) = false := by simpa using h
theorem nne {a b : Int} (h : ¬ a = b) : (a != b) = true := by simpa using h
theorem neq0 {a b : Int} (h : a = b) : (a != b) = false := by simpa using h
theorem fact_isB {p : Pg} {ns : List Nat} {sg sl : Nat} (hC : Cnd8 p ns sg sl) {i : Nat} (hi : i < (allFs p ns sg sl).length) (h0 : ¬ (fcAt (allFs p ns sg sl) i).pl.k = 0) : isB sg sl (fcAt (allFs p ns sg sl) i).pl = true := by
 rcases (hC.mem _).1 (fcAt_mem hi) with ⟨h, _⟩ | ⟨h, _⟩ | ⟨h, _⟩
 · rw [h] at h0; exact absurd rfl h0
 · exact h
 · exact h
theorem fact_zero {p : Pg} {ns : List Nat} {sg sl : Nat} (hC : Cnd8 p ns sg sl) {i : Nat} (hi : i < (allFs p ns sg sl).length) (h0 : (fcAt (allFs p ns sg sl) i).pl.k = 0) : (fcAt (allFs p ns sg sl) i).pl = ⟨0, 0⟩ := (factIn_k0 ((hC.mem _).1 (fcAt_mem hi)) h0).1
def giveX (all : List Fc) (s : Bits) (i : In) (a : PlaceV) (f : Fc) (b : Bool) : Bool :=
 let mine : Bool := f.temp && decide (f.t = i.d)
 let over : Bool := decide (f.pl.k ≠ 0) && ovP f.pl a
 let o0 : Bool := if f.pl = a ∧ mine = true ∧ f.pl.k ≠ 0 then true else b && !mine && !over
 let o1 : Bool := if i.op = 1 then
     (let o : Bool := if (mine = true ∧ f.pl.k = 0) ∨ (f.pl = a ∧ f.temp = false) then decide (f.n = i.n) else o0
      if mine = true ∧ f.pl.k ≠ 0 ∧ over = false then findB all s ⟨f.pl, false, 0, i.n⟩ else o)
   else o0
 if i.op = 2 then
   (let o : Bool := if mine = true ∧ over = false then findB all s { f with t := i.a } else o1
    let o : Bool := if f.pl = a ∧ f.temp = false then findB all s ⟨⟨0, 0⟩, true, i.a, f.n⟩ else o
    if f.pl = a ∧ f.temp = true ∧ f.t = i.a then true else o)
 else o1
end Go.Proofs.Ytodmkjeankbieab

