/- The reference's search for what is needed, plainly. No program in sight. -/
import Derived.Test.YtodmkjeankbieabLivePlain2
namespace Go.Proofs.Ytodmkjeankbieab

theorem nodup_len : ∀ (L : Nat) (l : List Nat), l.Nodup → (∀ x ∈ l, x < L) → l.length ≤ L
  | 0, l, _, h => by
    cases l with
    | nil => simp
    | cons x l => have := h x (by simp); omega
  | L + 1, l, hn, h => by
    by_cases hm : L ∈ l
    · have h1 := nodup_len L (l.erase L) (hn.erase L) fun x hx => by
        have h2 := (hn.mem_erase_iff.1 hx)
        have := h x h2.2
        omega
      rw [List.length_erase_of_mem hm] at h1
      omega
    · have := nodup_len L l hn fun x hx => by
        have := h x hx
        have : x ≠ L := fun e => hm (e ▸ hx)
        omega
      omega

structure Bfs (code : List In) (t at_ k : Nat) (way : List Nat) : Prop where
  nd : way.Nodup
  lt : ∀ x ∈ way, x < code.length
  mem : at_ ∈ way
  snd : ∀ x ∈ way, Need code t x → Need code t at_
  done : ∀ (j x : Nat), j < k → way[j]? = some x → takesB (inAt code x) t = false ∧ (givesB (inAt code x) t = false → ∀ m ∈ nx code x, m ∈ way)

section
variable {code : List In} {t at_ k : Nat} {way : List Nat}
theorem Bfs.start (h : at_ < code.length) : Bfs code t at_ 0 [at_] :=
  ⟨by simp, fun x hx => by simp at hx; omega, by simp, fun x hx h => by simp at hx; rwa [hx] at h, fun j _ hj => by omega⟩
theorem Bfs.len (h : Bfs code t at_ k way) : way.length ≤ code.length := nodup_len _ _ h.nd h.lt
theorem Bfs.yes (h : Bfs code t at_ k way) {x : Nat} (hx : way[k]? = some x) (ht : takesB (inAt code x) t = true) : needB code at_ t = true := by
  rw [needB_iff]
  exact h.snd x (List.mem_of_getElem? hx) ((need_iff _ _ _).2 (Or.inl ht))
theorem Bfs.next (h : Bfs code t at_ k way) {x : Nat} (hx : way[k]? = some x) (ht : takesB (inAt code x) t = false) (hd : givesB (inAt code x) t = false → ∀ m ∈ nx code x, m ∈ way) : Bfs code t at_ (k + 1) way :=
  ⟨h.nd, h.lt, h.mem, h.snd, fun j y hj hy => by
    by_cases e : j = k
    · subst e
      rw [hx] at hy
      cases hy
      exact ⟨ht, hd⟩
    · exact h.done j y (by omega) hy⟩
theorem Bfs.add (h : Bfs code t at_ k way) {x m : Nat} (hx : way[k]? = some x) (hg : givesB (inAt code x) t = false) (hm : m ∈ nx code x) (hn : m ∉ way) : Bfs code t at_ k (way ++ [m]) := by
  have hml : m < code.length := by unfold nx at hm; simpa using (List.mem_filter.1 hm).2
  refine ⟨?_, ?_, List.mem_append_left _ h.mem, ?_, ?_⟩
  · rw [List.nodup_append]
    refine ⟨h.nd, by simp, ?_⟩
    intro a ha b hb e
    simp at hb
    subst hb
    subst e
    exact hn ha
  · intro y hy
    rcases List.mem_append.1 hy with hy | hy
    · exact h.lt y hy
    · simp at hy; omega
  · intro y hy hnd
    rcases List.mem_append.1 hy with hy | hy
    · exact h.snd y hy hnd
    · simp at hy
      subst hy
      exact h.snd x (List.mem_of_getElem? hx) ((need_iff _ _ _).2 (Or.inr ⟨hg, y, hm, hnd⟩))
  · intro j y hj hy
    have hkl : k < way.length := (List.getElem?_eq_some_iff.1 hx).1
    rw [List.getElem?_append_left (by omega)] at hy
    obtain ⟨d1, d2⟩ := h.done j y hj hy
    exact ⟨d1, fun hg m hm => List.mem_append_left _ (d2 hg m hm)⟩
theorem Bfs.no (h : Bfs code t at_ way.length way) : needB code at_ t = false := by
  refine need_not (fun x => x ∈ way) ?_ at_ h.mem
  intro x hx
  obtain ⟨j, hj⟩ := List.getElem?_of_mem hx
  exact h.done j x (List.getElem?_eq_some_iff.1 hj).1 hj

/-- those of the first j places where it goes on are on the way -/
def onWay (code : List In) (ns : List Int) (j : Nat) (way : List Nat) : Prop := ∀ n ∈ ns.take j, n.toNat < code.length → n.toNat ∈ way
theorem onWay_0 (ns : List Int) : onWay code ns 0 way := fun n hn => by simp at hn
theorem onWay_s {ns : List Int} {j : Nat} {n : Int} {way' : List Nat} (h : onWay code ns j way) (hn : ns[j]? = some n) (hs : ∀ x ∈ way, x ∈ way') (hw : n.toNat < code.length → n.toNat ∈ way') : onWay code ns (j + 1) way' := by
  intro m hm hl
  rw [List.take_add_one, hn] at hm
  rcases List.mem_append.1 hm with hm | hm
  · exact hs _ (h m hm hl)
  · simp at hm; subst hm; exact hw hl
theorem onWay_all {k : Nat} {ns : List Int} (hns : ns = nexts (inAt code k) k) (h : onWay code ns ns.length way) : ∀ m ∈ nx code k, m ∈ way := by
  intro m hm
  unfold nx at hm
  obtain ⟨h1, h2⟩ := List.mem_filter.1 hm
  obtain ⟨n, hn, rfl⟩ := List.mem_map.1 h1
  rw [← hns] at hn
  unfold onWay at h
  rw [List.take_length] at h
  exact h n hn (by simpa using h2)
theorem nx_of {k : Nat} {ns : List Int} {n : Int} (hns : ns = nexts (inAt code k) k) (hn : n ∈ ns) (hl : n.toNat < code.length) : n.toNat ∈ nx code k := by
  unfold nx
  rw [List.mem_filter]
  exact ⟨List.mem_map.2 ⟨n, by rw [← hns]; exact hn, rfl⟩, by simpa using hl⟩
end
end Go.Proofs.Ytodmkjeankbieab
