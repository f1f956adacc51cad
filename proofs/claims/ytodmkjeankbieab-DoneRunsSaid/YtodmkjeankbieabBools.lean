/- Rows of truths as functions; matrices of truths. -/
import Derived.Test.YtodmkjeankbieabLayout
import Derived.Deep.OwnRows
namespace Go.Proofs.Ytodmkjeankbieab
open Go.RowKit Go.Sort

/-- the cells of n truths -/
def mkB (n : Nat) (f : Nat → Bool) : Array Value := ((List.range n).map fun t => Value.bool (f t)).toArray
theorem mkB_at {n : Nat} {f : Nat → Bool} {t : Nat} (h : t < n) : (mkB n f)[t]? = some (.bool (f t)) := by
  unfold mkB
  simp [List.getElem?_range h]
theorem mkB_set {n : Nat} {f : Nat → Bool} {t : Nat} {x : Bool} : (mkB n f).setIfInBounds t (.bool x) = mkB n (fun s => if s = t then x else f s) := by
  unfold mkB
  rw [List.setIfInBounds_toArray]
  congr 1
  apply List.ext_getElem
  · simp
  · intro i h1 h2
    simp at h1
    rw [List.getElem_set]
    by_cases h : t = i
    · subst h; simp
    · rw [if_neg h]
      simp
      intro e; exact absurd e.symm h
theorem mkB_congr {n : Nat} {f g : Nat → Bool} (h : ∀ t, t < n → f t = g t) : mkB n f = mkB n g := by
  unfold mkB
  congr 1
  apply List.map_congr_left
  intro t ht
  rw [h t (List.mem_range.1 ht)]
theorem made_mkB (n : Nat) : madeCells #[.bool false] n = mkB n (fun _ => false) := by
  unfold mkB
  apply Array.ext_getElem?
  intro i
  unfold madeCells
  rcases Nat.lt_or_ge i n with h | h
  · simp [List.getElem?_range h, h, Nat.mod_one]
  · simp [List.getElem?_eq_none, h, Nat.not_lt.2 h]
theorem mkB_size (n : Nat) (f : Nat → Bool) : (mkB n f).size = n := by unfold mkB; simp
theorem mkB_list (n : Nat) (f : Nat → Bool) : (mkB n f).toList = ((List.range n).map f).map Value.bool := by unfold mkB; simp

theorem Blk.bcell {w : World} {g : Nat} {e : TypeId} {n : Nat} {f : Nat → Bool} (h : Blk w g e (mkB n f)) {t : Nat} (ht : t < n) : w.cell? ⟨g, t, none⟩ = some (.bool (f t)) := by
  rw [h.cell, mkB_at ht]
theorem Blk.bset {w : World} {g : Nat} {e : TypeId} {n : Nat} {f : Nat → Bool} (h : Blk w g e (mkB n f)) (t : Nat) (x : Bool) : Blk (w.setCell ⟨g, t, none⟩ (.bool x)) g e (mkB n fun s => if s = t then x else f s) := by
  have := h.set_ t (.bool x)
  rwa [mkB_set] at this
theorem RdBo.of_blk {w : World} {g : Nat} {e : TypeId} {n c : Nat} {f : Nat → Bool} {R : Nat → Prop} (h : Blk w g e (mkB n f)) (hR : R g) (hn : n ≤ maxLen) : RdBo w R (.slice (some ⟨g, 0, none⟩) n c) ((List.range n).map f) := by
  refine ⟨some ⟨g, 0, none⟩, c, by simp, by simpa using hn, by simp, fun _ => ⟨g, 0, rfl, hR, fun j u hu => ?_⟩⟩
  rw [Nat.zero_add, h.cell, ← hu, ← mkB_list]
  simp

/-- a matrix of truths -/
def RdM (w : World) (R : Nat → Prop) (v : Value) (M : List (List Bool)) : Prop :=
  ∃ (A : Option Addr) (c : Nat) (vs : List Value), v = .slice A M.length c ∧ M.length ≤ maxLen ∧ Reads w R 1 A M.length vs ∧ ∀ (k : Nat) (row : List Bool), M[k]? = some row → ∃ u, vs[k]? = some u ∧ RdBo w R u row
theorem RdM.kept {w w' : World} {R S : Nat → Prop} {v : Value} {M : List (List Bool)} (h : RdM w R v M) (hk : Kept S w w') (hs : ∀ b, R b → ¬ S b) : RdM w' R v M := by
  obtain ⟨A, c, vs, e, hl, hr, hrow⟩ := h
  refine ⟨A, c, vs, e, hl, hr.kept hk hs, fun k row hk' => ?_⟩
  obtain ⟨u, h1, h2⟩ := hrow k row hk'
  exact ⟨u, h1, h2.kept hk hs⟩
theorem RdM.row {w : World} {R : Nat → Prop} {v : Value} {M : List (List Bool)} (h : RdM w R v M) {k : Nat} {row : List Bool} (hk : M[k]? = some row) :
    ∃ b off c u, v = .slice (some ⟨b, off, none⟩) M.length c ∧ R b ∧ b < w.heap.size ∧ w.cell? ⟨b, off + k, none⟩ = some u ∧ RdBo w R u row := by
  obtain ⟨A, c, vs, e, hl, hr, hrow⟩ := h
  have hkl : k < M.length := (List.getElem?_eq_some_iff.1 hk).1
  obtain ⟨b, off, rfl, hR, hc⟩ := hr.2 (by omega)
  obtain ⟨u, h1, h2⟩ := hrow k row hk
  have := hc k u h1
  exact ⟨b, off, c, u, e, hR, cell_lt this, this, h2⟩
theorem RdBo.at_ {w : World} {R : Nat → Prop} {v : Value} {l : List Bool} (h : RdBo w R v l) {k : Nat} {x : Bool} (hx : l[k]? = some x) : ∃ b off c, v = .slice (some ⟨b, off, none⟩) l.length c ∧ R b ∧ b < w.heap.size ∧ w.cell? ⟨b, off + k, none⟩ = some (.bool x) := by
  obtain ⟨A, c, rfl, _, hr⟩ := h
  have hk : k < l.length := (List.getElem?_eq_some_iff.1 hx).1
  obtain ⟨b, off, rfl, hR, hc⟩ := hr.2 (by omega)
  have := hc k (.bool x) (by rw [List.getElem?_map, hx]; rfl)
  exact ⟨b, off, c, rfl, hR, cell_lt this, this⟩
theorem RdBo.val {w : World} {R : Nat → Prop} {v : Value} {l : List Bool} (h : RdBo w R v l) : ∃ A c, v = .slice A l.length c := let ⟨A, c, e, _⟩ := h; ⟨A, c, e⟩
theorem RdM.val {w : World} {R : Nat → Prop} {v : Value} {l : List (List Bool)} (h : RdM w R v l) : ∃ A c, v = .slice A l.length c := let ⟨A, c, _, e, _⟩ := h; ⟨A, c, e⟩
theorem RdI.val {w : World} {R : Nat → Prop} {v : Value} {l : List Int} (h : RdI w R v l) : ∃ A c, v = .slice A l.length c := let ⟨A, c, e, _⟩ := h; ⟨A, c, e⟩

theorem infoBool : (Try.prog.info? 4).map (fun i => (i.zero, i.size, i.bytes)) = some (some (.bool false), 1, 1) := by kernel_rfl
/-- 'make([]bool, n)' -/
theorem run_make_bools (n : Nat) (h : n ≤ 1000000) (w : World) : (Instr.makeSlice 22 (.int .i64 (n : Int)) (.int .i64 (n : Int))).run Try.prog w = .ok (.slice (some ⟨w.heap.size, 0, none⟩) n n) (w.alloc (.cells (mkB n fun _ => false) 4)) := by
  rw [← made_mkB]
  exact run_make_row' 22 4 (.bool false) 1 Try.underlying22 infoBool rfl .i64 .i64 n (by omega) (by omega) w
end Go.Proofs.Ytodmkjeankbieab
