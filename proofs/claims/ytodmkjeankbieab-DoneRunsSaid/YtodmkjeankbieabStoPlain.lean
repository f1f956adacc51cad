/- A store's cells. No program in sight. -/
import Derived.Test.YtodmkjeankbieabRunPlain2
import Derived.Test.YtodmkjeankbieabData
namespace Go.Proofs.Ytodmkjeankbieab

def stC (s : Sto) : Array Value := (((List.range 16).map fun (t : Nat) => Value.int .u32 (s.sg t)) ++ (List.range 12).map fun (t : Nat) => Value.int .u64 (s.sl t)).toArray
theorem stC_sg {s : Sto} {t : Nat} (h : t < 16) : (stC s)[t]? = some (.int .u32 (s.sg t)) := by
  unfold stC
  rw [List.getElem?_toArray, List.getElem?_append_left (by simpa using h), List.getElem?_map, List.getElem?_range h]
  rfl
theorem stC_sl {s : Sto} {t : Nat} (h : t < 12) : (stC s)[16 + t]? = some (.int .u64 (s.sl t)) := by
  unfold stC
  rw [List.getElem?_toArray, List.getElem?_append_right (by simp), List.getElem?_map]
  rw [show 16 + t - (List.map (fun (t : Nat) => Value.int .u32 (s.sg t)) (List.range 16)).length = t by simp, List.getElem?_range h]
  rfl
theorem map_upd (n : Nat) (k : IntKind) (f : Int → Int) (t : Nat) (x : Int) : ((List.range n).map fun (i : Nat) => Value.int k (f i)).set t (.int k x) = (List.range n).map fun (i : Nat) => Value.int k (upd f t x i) := by
  apply List.ext_getElem
  · simp
  · intro i h1 h2
    simp at h1
    rw [List.getElem_set, List.getElem_map, List.getElem_map, List.getElem_range]
    unfold upd
    by_cases h : t = i
    · subst h; simp
    · rw [if_neg h, if_neg (by omega)]
theorem stC_setg {s : Sto} {t : Nat} (h : t < 16) (x : Int) : (stC s).setIfInBounds t (.int .u32 x) = stC { s with sg := upd s.sg t x } := by
  unfold stC
  rw [List.setIfInBounds_toArray, List.set_append_left _ _ (by simpa using h), map_upd]
theorem stC_setl {s : Sto} {t : Nat} (x : Int) : (stC s).setIfInBounds (16 + t) (.int .u64 x) = stC { s with sl := upd s.sl t x } := by
  unfold stC
  rw [List.setIfInBounds_toArray, List.set_append_right _ _ (by simp), show 16 + t - (List.map (fun (t : Nat) => Value.int .u32 (s.sg t)) (List.range 16)).length = t by simp, map_upd]
/-- a store's numbers are numbers -/
structure StOk (s : Sto) : Prop where
  sg : ∀ t, 0 ≤ s.sg t ∧ s.sg t < 4294967296
  sl : ∀ t, 0 ≤ s.sl t ∧ s.sl t < 18446744073709551616
theorem StOk.zero : StOk ⟨fun _ => 0, fun _ => 0⟩ := ⟨fun _ => by simp, fun _ => by simp⟩
theorem StOk.get {s : Sto} (h : StOk s) (a : PlaceV) : 0 ≤ getS s a ∧ getS s a < 18446744073709551616 := by
  unfold getS
  split
  · have := h.sg a.n; omega
  · split
    · have := h.sg (2 * a.n); have := h.sg (2 * a.n + 1); omega
    · split
      · exact h.sl a.n
      · omega
theorem StOk.put {s : Sto} (h : StOk s) (a : PlaceV) {v : Int} (hv : 0 ≤ v ∧ v < 18446744073709551616) : StOk (putS s a v) := by
  unfold putS
  split
  · refine ⟨fun t => ?_, h.sl⟩
    show 0 ≤ upd s.sg a.n (v % 4294967296) t ∧ upd s.sg a.n (v % 4294967296) t < 4294967296
    unfold upd; split
    · omega
    · exact h.sg t
  · split
    · refine ⟨fun t => ?_, h.sl⟩
      show 0 ≤ upd (upd s.sg (2 * a.n) (v % 4294967296)) (2 * a.n + 1) (v / 4294967296) t ∧ upd (upd s.sg (2 * a.n) (v % 4294967296)) (2 * a.n + 1) (v / 4294967296) t < 4294967296
      unfold upd; split
      · omega
      · split
        · omega
        · exact h.sg t
    · split
      · refine ⟨h.sg, fun t => ?_⟩
        show 0 ≤ upd s.sl a.n v t ∧ upd s.sl a.n v t < 18446744073709551616
        unfold upd; split
        · exact hv
        · exact h.sl t
      · exact h
end Go.Proofs.Ytodmkjeankbieab
