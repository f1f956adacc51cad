/- Texts of this claim, packed. -/
import Derived.Test.YtodmkjeankbieabKAllk0
set_option linter.all false
namespace Go.Proofs.Ytodmkjeankbieab

theorem nodup_len : ∀ (L : Nat) (l : List Nat), l.Nodup → (∀ x ∈ l, x < L) → l.length ≤ L
 | 0, l, _, h => by
   cases l with
   | nil => simp
   | cons x l => have := h x (by simp); omega
 | L + 1, l, hn, h => by
   by_cases hm : L ∈ l
   · have h1 := nodup_len L (l.erase L) (hn.erase L) fun x hx => by
       have h2 := (hn.mem_erase_iff.1 hx)
       have := h x h2.2
       omega
     rw [List.length_erase_of_mem hm] at h1
     omega
   · have := nodup_len L l hn fun x hx => by
       have := h x hx
       have : x ≠ L := fun e => hm (e ▸ hx)
       omega
     omega

structure Bfs (code : List In) (t at_ k : Nat) (way : List Nat) : Prop where
 nd : way.Nodup
 lt : ∀ x ∈ way, x < code.length
 mem : at_ ∈ way
 snd : ∀ x ∈ way, Need code t x → Need code t at_
 done : ∀ (j x : Nat), j < k → way[j]? = some x → takesB (inAt code x) t = false ∧ (givesB (inAt code x) t = false → ∀ m ∈ nx code x, m ∈ way)

section
variable {code : List In} {t at_ k : Nat} {way : List Nat}
theorem Bfs.start (h : at_ < code.length) : Bfs code t at_ 0 [at_] :=
 ⟨by simp, fun x hx => by simp at hx; omega, by simp, fun x hx h => by simp at hx; rwa [hx] at h, fun j _ hj => by omega⟩
theorem Bfs.len (h : Bfs code t at_ k way) : way.length ≤ code.length := nodup_len _ _ h.nd h.lt
theorem Bfs.yes (h : Bfs code t at_ k way) {x : Nat} (hx : way[k]? = some x) (ht : takesB (inAt code x) t = true) : needB code at_ t = true := by
 rw [needB_iff]
 exact h.snd x (List.mem_of_getElem? hx) ((need_iff _ _ _).2 (Or.inl ht))
theorem Bfs.next (h : Bfs code t at_ k way) {x : Nat} (hx : way[k]? = some x) (ht : takesB (inAt code x) t = false) (hd : givesB (inAt code x) t = false → ∀ m ∈ nx code x, m ∈ way) : Bfs code t at_ (k + 1) way :=
 ⟨h.nd, h.lt, h.mem, h.snd, fun j y hj hy => by
   by_cases e : j = k
   · subst e
     rw [hx] at hy
     cases hy
     exact ⟨ht, hd⟩
   · exact h.done j y (by omega) hy⟩
theorem Bfs.add (h : Bfs code t at_ k way) {x m : Nat} (hx : way[k]? = some x) (hg : givesB (inAt code x) t = false) (hm : m ∈ nx code x) (hn : m ∉ way) : Bfs code t at_ k (way ++ [m]) := by
 have hml : m < code.length := by unfold nx at hm; simpa using (List.mem_filter.1 hm).2
 refine ⟨?_, ?_, List.mem_append_left _ h.mem, ?_, ?_⟩
 · rw [List.nodup_append]
   refine ⟨h.nd, by simp, ?_⟩
   intro a ha b hb e
   simp at hb
   subst hb
   subst e
   exact hn ha
 · intro y hy
   rcases List.mem_append.1 hy with hy | hy
   · exact h.lt y hy
   · simp at hy; omega
 · intro y hy hnd
   rcases List.mem_append.1 hy with hy | hy
   · exact h.snd y hy hnd
   · simp at hy
     subst hy
     exact h.snd x (List.mem_of_getElem? hx) ((need_iff _ _ _).2 (Or.inr ⟨hg, y, hm, hnd⟩))
 · intro j y hj hy
   have hkl : k < way.length := (List.getElem?_eq_some_iff.1 hx).1
   rw [List.getElem?_append_left (by omega)] at hy
   obtain ⟨d1, d2⟩ := h.done j y hj hy
   exact ⟨d1, fun hg m hm => List.mem_append_left _ (d2 hg m hm)⟩
theorem Bfs.no (h : Bfs code t at_ way.length way) : needB code at_ t = false := by
 refine need_not (fun x => x ∈ way) ?_ at_ h.mem
 intro x hx
 obtain ⟨j, hj⟩ := List.getElem?_of_mem hx
 exact h.done j x (List.getElem?_eq_some_iff.1 hj).1 hj

theorem nx_of {k : Nat} {ns : List Int} {n : Int} (hns : ns = nexts (inAt code k) k) (hn : n ∈ ns) (hl : n.toNat < code.length) : n.toNat ∈ nx code k := by
 unfold nx
 rw [List.mem_filter]
 exact ⟨List.mem_map.2 ⟨n, by rw [← hns]; exact hn, rfl⟩, by simpa using hl⟩
end
end Go.Proofs.Ytodmkjeankbieab


namespace Go.Proofs.Ytodmkjeankbieab

structure NumsTo (p : Pg) (k : Nat) (l : List Nat) : Prop where
 mem : ∀ n, n ∈ l ↔ n = 0 ∨ ∃ i ∈ p.code.take k, i.op = 1 ∧ i.n = n
 up : l.Pairwise (· < ·)
 len : l.length ≤ k + 1
def putN8 (l : List Nat) (n a : Nat) : List Nat := l.take a ++ n :: l.drop a
theorem putN8_len (l : List Nat) (n a : Nat) : (putN8 l n a).length = l.length + 1 := by
 unfold putN8; rw [List.length_append, List.length_cons, List.length_take, List.length_drop]; omega
theorem putN8_end (l : List Nat) (n : Nat) : putN8 l n l.length = l ++ [n] := by unfold putN8; simp
theorem putN8_prev {l : List Nat} {x a : Nat} (ha : a < l.length) : (putN8 l x (a + 1))[a]? = l[a]? := by
 unfold putN8
 rw [List.getElem?_append_left (by rw [List.length_take]; omega), List.getElem?_take, if_pos (by omega)]
theorem putN8_shift {l : List Nat} {x y a : Nat} (hy : l[a]? = some y) : (putN8 l x (a + 1)).set (a + 1) y = putN8 l y a := by
 obtain ⟨ha, e⟩ := List.getElem?_eq_some_iff.1 hy
 unfold putN8
 rw [List.set_append_right _ _ (by rw [List.length_take]; omega), List.length_take, show a + 1 - min (a + 1) l.length = 0 by omega, List.set_cons_zero, List.take_add_one, hy, List.drop_eq_getElem_cons ha, e]
 simp
theorem putN8_set {l : List Nat} {x n a : Nat} (ha : a ≤ l.length) : (putN8 l x a).set a n = putN8 l n a := by
 unfold putN8
 rw [List.set_append_right _ _ (by rw [List.length_take]; omega), List.length_take, show a - min a l.length = 0 by omega, List.set_cons_zero]
theorem putN8_mem {l : List Nat} {n a m : Nat} : m ∈ putN8 l n a ↔ m ∈ l ∨ m = n := by
 unfold putN8
 rw [List.mem_append, List.mem_cons]
 conv => rhs; rw [← List.take_append_drop a l, List.mem_append]
 constructor
 · rintro (h | h | h)
   · exact Or.inl (Or.inl h)
   · exact Or.inr h
   · exact Or.inl (Or.inr h)
 · rintro ((h | h) | h)
   · exact Or.inl h
   · exact Or.inr (Or.inr h)
   · exact Or.inr (Or.inl h)
theorem take_s_mem {code : List In} {k : Nat} {i : In} (h : code[k]? = some i) (n : Nat) : (∃ j ∈ code.take (k + 1), j.op = 1 ∧ j.n = n) ↔ (∃ j ∈ code.take k, j.op = 1 ∧ j.n = n) ∨ (i.op = 1 ∧ i.n = n) := by
 rw [List.take_add_one, h]
 constructor
 · rintro ⟨j, hj, h1⟩
   rcases List.mem_append.1 hj with hj | hj
   · exact Or.inl ⟨j, hj, h1⟩
   · have : j = i := by simpa using hj
     exact Or.inr (this ▸ h1)
 · rintro (⟨j, hj, h1⟩ | h1)
   · exact ⟨j, List.mem_append_left _ hj, h1⟩
   · exact ⟨i, List.mem_append_right _ (by simp), h1⟩
section
variable {p : Pg} {k : Nat} {l : List Nat} {i : In}
theorem NumsTo.start (p : Pg) : NumsTo p 0 [0] := ⟨fun n => by simp, List.pairwise_singleton _ _, by simp⟩
theorem NumsTo.skip (h : NumsTo p k l) (hx : p.code[k]? = some i) (ho : i.op ≠ 1) : NumsTo p (k + 1) l :=
 ⟨fun n => by rw [h.mem, take_s_mem hx]; simp [ho], h.up, by have := h.len; omega⟩
theorem NumsTo.there (h : NumsTo p k l) (hx : p.code[k]? = some i) (hm : i.n ∈ l) : NumsTo p (k + 1) l :=
 ⟨fun n => by
   rw [take_s_mem hx, ← or_assoc, ← h.mem]
   exact ⟨Or.inl, fun h1 => h1.elim id fun h1 => h1.2 ▸ hm⟩, h.up, by have := h.len; omega⟩
theorem NumsTo.put (h : NumsTo p k l) (hx : p.code[k]? = some i) (ho : i.op = 1) {a : Nat} (_ha : a ≤ l.length) (hlo : ∀ j x, j < a → l[j]? = some x → x < i.n) (hhi : ∀ x, l[a]? = some x → i.n < x) : NumsTo p (k + 1) (putN8 l i.n a) := by
 refine ⟨fun n => ?_, ?_, by rw [putN8_len]; have := h.len; omega⟩
 · rw [putN8_mem, take_s_mem hx, ← or_assoc, ← h.mem]
   exact ⟨fun h1 => h1.imp id fun h1 => ⟨ho, h1.symm⟩, fun h1 => h1.imp id fun h1 => h1.2.symm⟩
 · have hl : ∀ x ∈ l.take a, x < i.n := fun x hxm => by
     obtain ⟨j, hj, e⟩ := List.getElem_of_mem hxm
     rw [List.length_take] at hj
     refine hlo j x (by omega) ?_
     rw [← e, List.getElem_take]
     exact List.getElem?_eq_getElem (by omega)
   have hr : ∀ x ∈ l.drop a, i.n < x := fun x hxm => by
     have hal : a < l.length := by
       have := List.length_pos_of_mem hxm
       rw [List.length_drop] at this; omega
     have h1 := hhi _ (List.getElem?_eq_getElem hal)
     have hu := h.up.sublist (List.drop_sublist a l)
     rw [List.drop_eq_getElem_cons hal] at hu hxm
     rcases List.mem_cons.1 hxm with rfl | h2
     · exact h1
     · exact Nat.lt_trans h1 ((List.pairwise_cons.1 hu).1 _ h2)
   unfold putN8
   refine List.pairwise_append.2 ⟨h.up.sublist (List.take_sublist a l), List.pairwise_cons.2 ⟨hr, h.up.sublist (List.drop_sublist a l)⟩, fun x h1 y h2 => ?_⟩
   rcases List.mem_cons.1 h2 with rfl | h2
   · exact hl x h1
   · exact Nat.lt_trans (hl x h1) (hr y h2)
theorem NumsTo.done (h : NumsTo p p.code.length l) : NumsOk p l :=
 ⟨fun n => by rw [h.mem, List.take_length]; rfl, h.up⟩
end

def knTo (p : Pg) (ns : List Nat) (x : Nat) : List Fc := (List.range x).flatMap fun (t : Nat) => if wd p.wide (t : Int) then [] else ns.map (knF (t : Int))
def hasTo (p : Pg) (a : PlaceV) (x : Nat) : List Fc := ((List.range x).filter fun (t : Nat) => mayT p.wide a.k (t : Int)).map fun (t : Nat) => hasF a (t : Int)
def isTo8 (ns : List Nat) (a : PlaceV) (k : Nat) : List Fc := if a.k = 2 then [] else (ns.take k).map (isF a)
def preF (p : Pg) (ns : List Nat) (sg sl k n : Nat) : List Fc := knFs p ns ++ (preL sg sl k n).flatMap (placeFs p ns)
section
variable {p : Pg} {ns : List Nat} {sg sl : Nat}
theorem knTo_all : knTo p ns p.wide.length = knFs p ns := rfl
theorem knTo_s (x : Nat) : knTo p ns (x + 1) = knTo p ns x ++ if wd p.wide (x : Int) then [] else ns.map (knF (x : Int)) := by
 unfold knTo; rw [List.range_succ, List.flatMap_append]; simp
theorem hasTo_s (a : PlaceV) (x : Nat) : hasTo p a (x + 1) = hasTo p a x ++ if mayT p.wide a.k (x : Int) then [hasF a (x : Int)] else [] := by
 unfold hasTo
 rw [List.range_succ, List.filter_append, List.map_append]
 cases h : mayT p.wide a.k (x : Int) <;> simp [h]
theorem hasTo_z (a : PlaceV) : hasTo p a 0 = [] := rfl
theorem isTo8_z (a : PlaceV) : isTo8 ns a 0 = [] := by unfold isTo8; simp
theorem isTo8_s {a : PlaceV} {k x : Nat} (ha : a.k ≠ 2) (hx : ns[k]? = some x) : isTo8 ns a (k + 1) = isTo8 ns a k ++ [isF a x] := by
 unfold isTo8; rw [if_neg ha, if_neg ha, List.take_add_one, hx]; simp
theorem isTo8_two {a : PlaceV} (ha : a.k = 2) (k : Nat) : isTo8 ns a k = [] := by unfold isTo8; rw [if_pos ha]
theorem placeFs_eq (a : PlaceV) : placeFs p ns a = isTo8 ns a ns.length ++ hasTo p a p.wide.length := by
 unfold placeFs isTo8 hasTo; rw [List.take_length]
theorem preF_s {k n : Nat} (hk : k = 1 ∨ k = 2 ∨ k = 3) : preF p ns sg sl k (n + 1) = preF p ns sg sl k n ++ (isTo8 ns ⟨(k : Int), (n : Int)⟩ ns.length ++ hasTo p ⟨(k : Int), (n : Int)⟩ p.wide.length) := by
 unfold preF
 rw [preL_s hk, List.flatMap_append, ← List.append_assoc]
 congr 1
 simp [placeFs_eq]
theorem preF_one : preF p ns sg sl 1 0 = knFs p ns := by unfold preF; rw [preL_one]; simp
theorem preF_next {k : Nat} (hk : k = 1 ∨ k = 2) : preF p ns sg sl k (manyP sg sl k) = preF p ns sg sl (k + 1) 0 := by
 rcases hk with rfl | rfl
 · unfold preF; rw [preL_two]
 · unfold preF; rw [preL_three]
theorem preF_end : preF p ns sg sl 3 (manyP sg sl 3) = allFs p ns sg sl := by unfold preF allFs; rw [preL_end]
theorem knTo_pre {x : Nat} (hx : x ≤ p.wide.length) : knTo p ns x <+: allFs p ns sg sl := by
 have h : ∀ m, x ≤ m → knTo p ns x <+: knTo p ns m := by
   intro m hm
   induction m with
   | zero => rw [Nat.le_zero.1 hm]; exact List.prefix_refl _
   | succ m ih =>
     rcases Nat.lt_or_ge m x with h | h
     · rw [show m + 1 = x by omega]; exact List.prefix_refl _
     · rw [knTo_s]; exact (ih h).trans (List.prefix_append _ _)
 exact (h _ hx).trans (by unfold allFs; rw [knTo_all]; exact List.prefix_append _ _)
theorem preF_pre {k n : Nat} (hk : k = 1 ∨ k = 2 ∨ k = 3) (hn : n ≤ manyP sg sl k) : preF p ns sg sl k n <+: allFs p ns sg sl := by
 have h : ∀ (k n m : Nat), (k = 1 ∨ k = 2 ∨ k = 3) → n ≤ m → preF p ns sg sl k n <+: preF p ns sg sl k m := by
   intro k n m hk hm
   induction m with
   | zero => rw [Nat.le_zero.1 hm]; exact List.prefix_refl _
   | succ m ih =>
     rcases Nat.lt_or_ge m n with h | h
     · rw [show m + 1 = n by omega]; exact List.prefix_refl _
     · rw [preF_s hk]; exact (ih h).trans (List.prefix_append _ _)
 have h3 : ∀ n, n ≤ manyP sg sl 3 → preF p ns sg sl 3 n <+: allFs p ns sg sl := fun n hn => by rw [← preF_end]; exact h 3 n _ (by omega) hn
 have h2 : ∀ n, n ≤ manyP sg sl 2 → preF p ns sg sl 2 n <+: allFs p ns sg sl := fun n hn => (h 2 n _ (by omega) hn).trans (by rw [preF_next (by omega)]; exact h3 0 (by omega))
 rcases hk with rfl | rfl | rfl
 · exact (h 1 n _ (by omega) hn).trans (by rw [preF_next (by omega)]; exact h2 0 (by omega))
 · exact h2 n hn
 · exact h3 n hn
theorem all_len_of {l : List Fc} (h : (allFs p ns sg sl).length ≤ 2400) (hl : l <+: allFs p ns sg sl) : l.length ≤ 2400 := Nat.le_trans hl.length_le h
end
end Go.Proofs.Ytodmkjeankbieab

