/- Texts of this claim, packed. -/
import Derived.Test.YtodmkjeankbieaaGreatDoorKAllk0
set_option linter.all false
namespace Go.Proofs.YtodmkjeankbieaaGreatDoor

structure Has (a : PlaceV) : Prop where
 k1 : a.k = 1 → 0 ≤ a.n ∧ a.n < 16
 k2 : a.k = 2 → 0 ≤ a.n ∧ a.n < 8
 k3 : a.k = 3 → 0 ≤ a.n ∧ a.n < 12
structure MvHas (m : Mv) : Prop where
 to : Has m.to
 fr : m.c = false → Has m.fr
 n : m.n < 4294967296

theorem has_is {sg sl : Int} {a : PlaceV} (h : isB sg sl a = true) (h1 : sg ≤ 16) (h2 : sl ≤ 12) : Has a := by
 unfold isB at h
 have h := of_decide_eq_true h
 refine ⟨fun e => ?_, fun e => ?_, fun e => ?_⟩
 · rw [if_pos e] at h; omega
 · rw [if_neg (by omega), if_pos e] at h; omega
 · rw [if_neg (by omega), if_neg (by omega), if_pos e] at h; omega
theorem has_pl {wide : List Bool} {sg sl : Int} {l : UInt8} {t : Int} {a : PlaceV} (h : plB wide sg sl l t a = true) (h1 : sg ≤ 16) (h2 : sl ≤ 12) : Has a := by
 unfold plB at h
 simp only [Bool.and_eq_true, decide_eq_true_eq] at h
 obtain ⟨⟨hk, _⟩, h3⟩ := h
 by_cases e : kindV wide l t = 0
 · rw [e] at hk
   exact ⟨fun e => by omega, fun e => by omega, fun e => by omega⟩
 · rw [decide_eq_true e] at h3
   exact has_is (by simpa using h3) h1 h2
theorem has_mv {sg sl : Int} {m : Mv} (h : mvB sg sl m = true) (hn : m.n < 4294967296) (h1 : sg ≤ 16) (h2 : sl ≤ 12) : MvHas m := by
 unfold mvB at h
 rw [Bool.and_eq_true] at h
 refine ⟨has_is h.1 h1 h2, fun e => ?_, hn⟩
 have h3 := h.2
 rw [e] at h3
 simp only [Bool.false_eq_true, if_false, Bool.and_eq_true] at h3
 exact has_is h3.1.2 h1 h2
structure RwHas (r : Rw) : Prop where
 d : Has r.d
 a : Has r.a
 b : Has r.b
 bef : ∀ m ∈ r.before, MvHas m
 aft : ∀ m ∈ r.after, MvHas m
 lb : r.before.length ≤ 6
 la : r.after.length ≤ 6
theorem has_rw {p : Pg} {sg sl : Int} {i : In} {r : Rw} (h : rwB p sg sl i r = true) (hb : ∀ m ∈ r.before, m.n < 4294967296) (ha : ∀ m ∈ r.after, m.n < 4294967296) (h1 : sg ≤ 16) (h2 : sl ≤ 12) : RwHas r := by
 unfold rwB mvsB at h
 simp only [Bool.and_eq_true, List.all_eq_true, decide_eq_true_eq] at h
 obtain ⟨⟨⟨hd, hA⟩, hB⟩, ⟨⟨hbf, hbl⟩, ⟨haf, hal⟩⟩, _⟩ := h
 exact ⟨has_pl hd h1 h2, has_pl hA h1 h2, has_pl hB h1 h2, fun m hm => has_mv (hbf m hm) (hb m hm) h1 h2, fun m hm => has_mv (haf m hm) (ha m hm) h1 h2, hbl, hal⟩
theorem pair_lt {p : Pg} {sg sl : Int} {i : In} {r : Rw} {s : Sto} (hs : StOk s) (h : rwB p sg sl i r = true) (hi : InsOk p i) (h5 : i.op = 5) : getS s r.a < 4294967296 ∧ getS s r.b < 4294967296 := by
 unfold rwB at h
 simp only [Bool.and_eq_true] at h
 obtain ⟨⟨⟨hd, hA⟩, hB⟩, _⟩ := h
 obtain ⟨_, wa, wb⟩ := hi.w5 h5
 have hsh : shape i.op = [119, 110, 110, 45, 45] := by rw [h5]; decide
 rw [hsh] at hA hB
 have ka : r.a.k = 1 := by
   unfold plB at hA
   simp only [Bool.and_eq_true, decide_eq_true_eq] at hA
   have := hA.1.1
   simpa [kindV, wa] using this
 have kb : r.b.k = 1 := by
   unfold plB at hB
   simp only [Bool.and_eq_true, decide_eq_true_eq] at hB
   have := hB.1.1
   simpa [kindV, wb] using this
 unfold getS
 rw [if_pos ka, if_pos kb]
 exact ⟨(hs.sg _).2, (hs.sg _).2⟩
theorem giveV_num {i : In} {a b x : Int} (hk : known i.op = true) (hg : gvs i.op = true) (ha : 0 ≤ a ∧ a < 18446744073709551616) (hb : 0 ≤ b ∧ b < 18446744073709551616) (h5 : i.op = 5 → a < 4294967296 ∧ b < 4294967296) (hn : i.n < 4294967296) (hx : 0 ≤ x ∧ x < 4294967296) :
   0 ≤ giveV i a b x ∧ giveV i a b x < 18446744073709551616 := by
 rcases known_cases hk with h | h | h | h | h | h | h | h | h | h | ⟨h1, h2⟩ | ⟨h1, h2⟩
 · unfold giveV; rw [if_pos h]; omega
 · unfold giveV; rw [if_neg (by omega), if_pos h]; exact ha
 · unfold giveV; rw [if_neg (by omega), if_neg (by omega), if_pos h]; omega
 · rw [h] at hg; exact absurd hg (by decide)
 · unfold giveV; rw [if_neg (by omega), if_neg (by omega), if_neg (by omega), if_pos h]
   have := h5 h
   omega
 · unfold giveV; rw [if_neg (by omega), if_neg (by omega), if_neg (by omega), if_neg (by omega), if_pos h]; omega
 · unfold giveV; rw [if_neg (by omega), if_neg (by omega), if_neg (by omega), if_neg (by omega), if_neg (by omega), if_pos h]; omega
 · rw [h] at hg; exact absurd hg (by decide)
 · rw [h] at hg; exact absurd hg (by decide)
 · rw [h] at hg; exact absurd hg (by decide)
 · unfold giveV; rw [if_neg (by omega), if_neg (by omega), if_neg (by omega), if_neg (by omega), if_neg (by omega), if_neg (by omega), if_neg (by omega)]
   have := narrowOp_range (i.op - 20) (a % 4294967296) (b % 4294967296) (by omega) (by omega)
   omega
 · unfold giveV; rw [if_neg (by omega), if_neg (by omega), if_neg (by omega), if_neg (by omega), if_neg (by omega), if_neg (by omega), if_pos h1]
   have := wideOp_range (i.op - 40) a b (by omega) (by omega)
   omega
theorem head_num {l : List Int} (h : ∀ n ∈ l, 0 ≤ n ∧ n < 4294967296) : 0 ≤ l.headD 0 ∧ l.headD 0 < 4294967296 := by
 cases l with
 | nil => simp
 | cons y l => exact h y (by simp)
theorem moves_take {s : Sto} {l : List Mv} {k : Nat} {m : Mv} (h : l[k]? = some m) : movesS s (l.take (k + 1)) = moveS (movesS s (l.take k)) m := by
 obtain ⟨hk, rfl⟩ := List.getElem?_eq_some_iff.1 h
 unfold movesS
 rw [List.take_succ_eq_append_getElem hk, List.foldl_append]
 rfl
theorem StOk.move {s : Sto} (h : StOk s) {m : Mv} (hm : MvHas m) : StOk (moveS s m) := by
 unfold moveS
 split
 · exact h.put _ (by have := hm.n; omega)
 · exact h.put _ (h.get _)
theorem StOk.moves {s : Sto} (h : StOk s) {l : List Mv} (hm : ∀ m ∈ l, MvHas m) : StOk (movesS s l) := by
 induction l generalizing s with
 | nil => exact h
 | cons m l ih => exact ih (h.move (hm m (by simp))) (fun x hx => hm x (by simp [hx]))
end Go.Proofs.YtodmkjeankbieaaGreatDoor

