/- The walks of the reference of chapter 11: the numbers of places. -/
import Derived.Test.YtodmkjeankbieaaProg
import Derived.Test.YtodmkjeankbieaaMem
import Derived.WalkKit
import Derived.ProofKit
import Derived.WalkSpells
import Derived.WalkLawsBesides
import Derived.Lib.Hide
import Derived.Outline
namespace Go.Proofs.Ytodmkjeankbieaa
open Go.RowKit Go.Sort

/-! ### the numbers of places -/
def mvNums (m : Mv) : List Int := [m.to.k, m.to.n, m.fr.k, m.fr.n, if m.c then 1 else 0, (m.n : Int) / 16777216, (m.n : Int) / 65536 % 256, (m.n : Int) / 256 % 256, (m.n : Int) % 256]
def mvsNums (l : List Mv) : List Int := (l.length : Int) :: l.flatMap mvNums
def rwNums (r : Rw) : List Int := [r.d.k, r.d.n, r.a.k, r.a.n, r.b.k, r.b.n] ++ mvsNums r.before ++ mvsNums r.after
def pdNums (p : Pd) : List Int := p.slots :: (p.rows.length : Int) :: p.rows.flatMap rwNums

theorem slInt : SlTy Try.prog 39 3 1 8 := SlTy.mk' (z := .int .i64 0) Try.underlying39 (by kernel_rfl) rfl (by decide)

def ints (l : List Int) : List Value := l.map (Value.int .i64)
theorem ints_one (l : List Int) : ∀ u ∈ ints l, u.oneCell' = true := by
  intro u hu
  obtain ⟨n, _, rfl⟩ := List.mem_map.1 hu
  rfl
theorem mvs_len (l : List Mv) : (mvsNums l).length = 1 + 9 * l.length := by
  unfold mvsNums
  rw [List.length_cons]
  have : ∀ l : List Mv, (l.flatMap mvNums).length = 9 * l.length := by
    intro l
    induction l with
    | nil => rfl
    | cons x l ih => rw [List.flatMap_cons, List.length_append, ih, List.length_cons]; simp [mvNums]; omega
  rw [this]; omega

theorem mvs_take (l : List Mv) (k : Nat) (m : Mv) (h : l[k]? = some m) : (l.take (k + 1)).flatMap mvNums = (l.take k).flatMap mvNums ++ mvNums m := by
  rw [List.take_add_one, h]; simp

/-- the row that has been collected behind k moves -/
def MvRow (w wr : World) (l : List Mv) (k : Nat) (v : Value) : Prop :=
  wr.ownsRow w.heap.size 3 1 v (1 + 9 * k) (ints ((l.length : Int) :: (l.take k).flatMap mvNums))

theorem mvRow_0 (w : World) (l : List Mv) : MvRow w (w.alloc (.cells #[.int .i64 l.length] 3)) l 0 (.slice (some ⟨w.heap.size, 0, none⟩) 1 1) := by
  have := World.ownsRow_lit (base := w.heap.size) (e := 3) (size := 1) w #[.int .i64 l.length] 1 (Nat.le_refl _) (by decide) rfl
  simpa [MvRow, ints] using this

theorem mvRow_step {w wr : World} {l : List Mv} {k : Nat} {m : Mv} {v' : Value} (hm : l[k]? = some m)
    (h : wr.ownsRow w.heap.size 3 1 v' (1 + 9 * k + 5 + 4) (ints ((l.length : Int) :: (l.take k).flatMap mvNums) ++ [.int .i64 m.to.k, .int .i64 m.to.n, .int .i64 m.fr.k, .int .i64 m.fr.n, .int .i64 (if m.c then 1 else 0)] ++
      [.int .i64 ((m.n : Int) / 16777216), .int .i64 ((m.n : Int) / 65536 % 256), .int .i64 ((m.n : Int) / 256 % 256), .int .i64 ((m.n : Int) % 256)])) : MvRow w wr l (k + 1) v' := by
  unfold MvRow
  rw [mvs_take l k m hm]
  have e : 1 + 9 * (k + 1) = 1 + 9 * k + 5 + 4 := by omega
  rw [e]
  simpa [ints, mvNums] using h

set_option maxHeartbeats 1000000 in
set_option maxRecDepth 100000 in
theorem refMoves_any (R : Nat → Prop) (v : Value) (l : List Mv) (w : World) (h : RdMv w R v l) (hb : (1 + 9 * l.length) * 8 ≤ 140737488355328) :
    Calls Try.prog 38 #[v] w fun e w' => ∃ v', e = .returned v' ∧ w'.ownsRow w.heap.size 3 1 v' (1 + 9 * l.length) (ints (mvsNums l)) ∧ Fr w w' := by
  obtain ⟨A, c, rfl, hl, hr, ho⟩ := h
  unfold maxLen at hl
  go_enter Try.func38, Try.ntmps38
  go_wp2
  go_loopw [3, 4] (fun v i wr => ∃ k : Nat, k ≤ l.length ∧ i = .int .i64 k ∧ MvRow w wr l k v ∧ Fr w wr) (fun _ i _ => l.length - (intOf i).toNat)
  case atStart => exact ⟨0, by omega, rfl, mvRow_0 w l, (Kept.refl _ _).alloc _⟩
  case round =>
    obtain ⟨k, hk, rfl, hrow, hfr⟩ := hrel
    by_cases hlt : k < l.length
    · have hm : l[k]? = some l[k] := List.getElem?_eq_getElem hlt
      have hok := ho _ (List.getElem_mem hlt)
      generalize l[k] = m at *
      obtain ⟨b, off, rfl, _, c0, c1, c2, c3, c4, c5⟩ := (hr.kept hfr (fun _ _ h => h)).mv hm
      have hsz := hfr.size
      have hn1 := hok.2.2
      clear hok ho hr
      rcases m with ⟨⟨tk, tn⟩, ⟨fk, fn⟩, mc, mn⟩
      simp only at c0 c1 c2 c3 c4 c5 hn1
      have hown : wr.ownsRow w.heap.size 3 1 u3 (1 + 9 * k) (ints ((l.length : Int) :: (l.take k).flatMap mvNums)) := hrow
      clear hrow
      have H0 := Lib.hid hm
      clear hm
      have hne : ¬ u3.ownBlock = some wr.heap.size := fun e => by have := (own_lt hown e).2; omega
      cases mc
      all_goals
        go_wp2_with (first
          | (at_builtin
             refine wpList_app _ rfl slInt (.tmp 23) (.tmp 37) rfl u3 _ _ rfl ((hown.alloc _).alloc _) (fun _ => True) _ 5 5 _ rfl (Reads.lit' (by simp) trivial rfl) ?_ ?_ ?_ ?_ ?_
             · simp [Value.oneCell']
             · omega
             · unfold maxLen; omega
             · simp; omega
             intro v1 w1 hown1 hk1 hat1
             have hbx := (hk1.cell (p := ⟨wr.heap.size, 5, none⟩) (by simp; omega) hne).trans (((Blk.new wr _ _).alloc _).cell 5)
             simp only [List.getElem?_toArray, List.getElem?_cons_succ, List.getElem?_cons_zero] at hbx
             have hz1 := hk1.size
             simp only [World.size_alloc] at hz1)
          | (at_builtin
             refine wpList_app _ rfl slInt (.tmp 42) (.tmp 53) rfl v1 _ _ rfl (hown1.alloc _) (fun _ => True) _ 4 4 _ rfl (Reads.lit' (by simp) trivial rfl) ?_ ?_ ?_ ?_ ?_
             · simp [Value.oneCell']
             · omega
             · unfold maxLen; omega
             · have := hk1.size; simp at this ⊢; omega
             intro v2 w2 hown2 hk2 hat2))
        go_roundw
        case rel => exact ⟨k + 1, by omega, by go_num, mvRow_step H0.out (by simpa using hown2), ((((hfr.alloc _).alloc _).app ((hown.alloc _).alloc _) hk1).alloc _).app (hown1.alloc _) hk2⟩
        case measure => simp [intOf]; omega
    · obtain rfl : k = l.length := by omega
      have hown : wr.ownsRow w.heap.size 3 1 u3 (1 + 9 * l.length) (ints ((l.length : Int) :: (l.take l.length).flatMap mvNums)) := hrow
      rw [List.take_length] at hown
      clear hrow
      go_wp2
      go_ret
      exact ⟨u3, rfl, hown, hfr⟩

/-! ### the numbers of all -/
/-- a row of integers of the call's own -/
def OwnInts (w : World) (base : Nat) (v : Value) (L : List Int) : Prop := w.ownsRow base 3 1 v L.length (ints L)

theorem ownInts_of {w : World} {base n : Nat} {v : Value} {L : List Int} {xs : List Value} (h : w.ownsRow base 3 1 v n xs) (hx : xs = ints L) : OwnInts w base v L := by
  subst hx
  have e : n = L.length := by
    have := h.1
    simpa [ints] using this.symm
  subst e
  exact h

theorem refMoves_own (R : Nat → Prop) (v : Value) (l : List Mv) (w : World) (h : RdMv w R v l) (hb : (mvsNums l).length * 8 ≤ 140737488355328) :
    Calls Try.prog 38 #[v] w fun e w' => ∃ v', e = .returned v' ∧ OwnInts w' w.heap.size v' (mvsNums l) ∧ Fr w w' := by
  rw [mvs_len] at hb
  refine (refMoves_any R v l w h hb).mono fun e w' ⟨v', he, ho, hf⟩ => ⟨v', he, ?_, hf⟩
  unfold OwnInts
  rw [mvs_len]
  exact ho

def numsTo (p : Pd) (k : Nat) : List Int := p.slots :: (p.rows.length : Int) :: (p.rows.take k).flatMap rwNums
theorem numsTo_succ (p : Pd) (k : Nat) (r : Rw) (h : p.rows[k]? = some r) : numsTo p (k + 1) = numsTo p k ++ [r.d.k, r.d.n, r.a.k, r.a.n, r.b.k, r.b.n] ++ mvsNums r.before ++ mvsNums r.after := by
  unfold numsTo
  rw [List.take_add_one, h]
  simp [rwNums]
theorem numsTo_le (p : Pd) (k : Nat) : (numsTo p k).length ≤ (pdNums p).length := by
  unfold numsTo pdNums
  have h := List.take_append_drop k p.rows
  have : (p.rows.flatMap rwNums).length = ((p.rows.take k).flatMap rwNums).length + ((p.rows.drop k).flatMap rwNums).length := by
    rw [← List.length_append, ← List.flatMap_append, h]
  simp only [List.length_cons]
  omega
theorem numsTo_all (p : Pd) : numsTo p p.rows.length = pdNums p := by
  unfold numsTo pdNums; rw [List.take_length]
theorem numsTo_0 (p : Pd) : numsTo p 0 = [p.slots, (p.rows.length : Int)] := rfl

structure NumInv (w wr : World) (R : Nat → Prop) (slots : Int) (vr : Value) (l : List RwV) (k : Nat) (v : Value) : Prop where
  own : OwnInts wr w.heap.size v (numsTo ⟨slots, l.map (·.r)⟩ k)
  b1 : Blk wr w.heap.size 34 #[.int .i64 slots, vr]
  bl : w.heap.size < wr.heap.size
  fr : Fr w wr

set_option maxHeartbeats 1000000 in
set_option maxRecDepth 100000 in
theorem refNumbers_any (R : Nat → Prop) (v : Value) (p : Pd) (w : World) (h : RdPd w R v p) (hb : (pdNums p).length * 8 ≤ 140737488355328) :
    Calls Try.prog 19 #[v] w fun e w' => ∃ v', e = .returned v' ∧ OwnInts w' w.heap.size v' (pdNums p) ∧ Fr w w' := by
  obtain ⟨vr, l, rfl, hi, hr0, hp⟩ := h
  obtain ⟨slots, rows⟩ := p
  simp only at hp hi
  subst hp
  obtain ⟨A, c, rfl, hl, hr, ho⟩ := id hr0
  unfold maxLen at hl
  go_enter Try.func19, Try.ntmps19
  go_wp2
  go_loopw [3, 4] (fun v i wr => ∃ k : Nat, k ≤ l.length ∧ i = .int .i64 k ∧ NumInv w wr R slots (.slice A l.length c) l k v) (fun _ i _ => l.length - (intOf i).toNat)
  case atStart =>
    refine ⟨0, by omega, rfl, ?_, ?_, ?_, ?_⟩
    · rw [numsTo_0]
      have := World.ownsRow_lit (base := w.heap.size) (e := 3) (size := 1) (w.alloc (.cells #[.int .i64 slots, .slice A l.length c] 34)) #[.int .i64 slots, .int .i64 l.length] 2 (by simp) (by decide) rfl
      simpa [OwnInts, ints] using this
    · exact (Blk.new w _ _).alloc _
    · simp only [World.size_alloc]; omega
    · exact ((Kept.refl _ _).alloc _).alloc _
  case round =>
    obtain ⟨k, hk, rfl, hinv⟩ := hrel
    obtain ⟨hown, bx, bl, hfr⟩ := hinv
    have b1 := bx.cell 1
    simp only [List.getElem?_toArray, List.getElem?_cons_succ, List.getElem?_cons_zero] at b1
    by_cases hlt : k < l.length
    · have hm : l[k]? = some l[k] := List.getElem?_eq_getElem hlt
      have hok := ho _ (List.getElem_mem hlt)
      generalize l[k] = m at *
      obtain ⟨b, off, rfl, _, c0, c1, c2, c3, c4, c5, c6, c7⟩ := (hr.kept hfr (fun _ _ h => h)).rw hm
      obtain ⟨_, _, _, rb, ra⟩ := id hok
      have H0 := Lib.hid (numsTo_succ ⟨slots, l.map (·.r)⟩ k m.r (by simp [hm]))
      have H1 := Lib.hid (numsTo_le ⟨slots, l.map (·.r)⟩ (k + 1))
      have hle : (numsTo ⟨slots, l.map (·.r)⟩ k).length + 6 + (mvsNums m.r.before).length + (mvsNums m.r.after).length ≤ (pdNums ⟨slots, l.map (·.r)⟩).length := by
        have := H1.out
        rw [H0.out] at this
        simp only [List.length_append, List.length_cons, List.length_nil] at this
        omega
      have hne : ¬ u3.ownBlock = some wr.heap.size := fun e => by have := (own_lt hown e).2; omega
      clear hok hm ho hr hr0
      rcases m with ⟨⟨⟨dk, dn⟩, ⟨ak, an⟩, ⟨bk, bn⟩, bef, aft⟩, vb, va⟩
      simp only at c0 c1 c2 c3 c4 c5 c6 c7 rb ra hle
      obtain ⟨Ab, cb, rfl, _, _, _⟩ := id rb
      obtain ⟨Aa, ca, rfl, _, _, _⟩ := id ra
      go_wp2_with (first
        | (at_builtin
           refine wpList_app _ rfl slInt (.tmp 26) (.tmp 45) rfl u3 _ _ rfl ((World.ownsRow.alloc hown _).alloc _) (fun _ => True) _ 6 6 _ rfl (Reads.lit' (by simp) trivial rfl) ?_ ?_ ?_ ?_ ?_
           · simp [Value.oneCell']
           · omega
           · unfold maxLen; omega
           · simp; omega
           intro v1 w1 hown1 hk1 hat1
           have hB := ((Blk.new wr _ _).alloc _).kept hk1 hne
           have q6 := hB.cell 6
           have q7 := hB.cell 7
           simp only [List.getElem?_toArray, List.getElem?_cons_succ, List.getElem?_cons_zero] at q6 q7
           have hz1 := hk1.size
           simp only [World.size_alloc] at hz1
           have hf1 := ((hfr.alloc _).alloc _).app ((World.ownsRow.alloc hown _).alloc _) hk1)
        | (go_at_call 38
           with_reducible refine (refMoves_own R _ bef _ ?_ ?_).mono ?_
           · exact rb.kept hf1 (fun _ _ h => h)
           · omega
           rintro e w2 ⟨v6, rfl, hown6, hf2⟩
           obtain ⟨A6, c6, rfl, hm6, hr6⟩ := own_reads hown6
           have z2 := hf2.size
           have p6 := (hf2.cell (o := 6) (by omega)).trans q6
           have p7 := (hf2.cell (o := 7) (by omega)).trans q7
           have hown2 := own_kept hown1 hf2 (fun _ _ h => h)
           have hg2 := hf1.trans hf2)
        | (go_at_call 38
           with_reducible refine (refMoves_own R _ aft _ ?_ ?_).mono ?_
           · exact ra.kept hg2 (fun _ _ h => h)
           · omega
           rintro e w3 ⟨v7, rfl, hown7, hf3⟩
           obtain ⟨A7, c7, rfl, hm7, hr7⟩ := own_reads hown7
           have z3 := hf3.size
           have hown3 := own_kept hown2 hf3 (fun _ _ h => h)
           have hg3 := hg2.trans hf3)
        | (at_builtin
           refine wpList_app _ rfl slInt (.tmp 53) (.tmp 54) rfl v1 _ _ rfl hown3 (fun _ => True) _ _ _ _ rfl ((hr6.kept hf3 (fun _ _ h => h)).more (fun _ _ => trivial)) ?_ ?_ ?_ ?_ ?_
           · exact ints_one _
           · omega
           · unfold maxLen; omega
           · omega
           intro v4 w4 hown4 hk4 hat4
           have hr7' := hr7.kept hk4 (fun b hb e => by have := (own_lt hown2 e).2; have := hb.1; omega)
           have hg4 := hg3.app hown3 hk4
           have z4 := hk4.size)
        | (at_builtin
           refine wpList_app _ rfl slInt (.tmp 56) (.tmp 57) rfl v4 _ _ rfl hown4 (fun _ => True) _ _ _ _ rfl (hr7'.more (fun _ _ => trivial)) ?_ ?_ ?_ ?_ ?_
           · exact ints_one _
           · omega
           · unfold maxLen; omega
           · omega
           intro v5 w5 hown5 hk5 hat5
           have z5 := hk5.size))
      go_roundw
      case rel =>
        have bx1 := ((bx.alloc _).alloc _).kept hk1 (own_blk_ne hown bx (by decide))
        have bx3 := (bx1.kept hf2 (fun h => h)).kept hf3 (fun h => h)
        have bx4 := bx3.kept hk4 (own_blk_ne hown3 bx3 (by decide))
        have bx5 := bx4.kept hk5 (own_blk_ne hown4 bx4 (by decide))
        refine ⟨k + 1, by omega, by go_num, ?_, bx5, by omega, hg4.app hown4 hk5⟩
        refine ownInts_of hown5 ?_
        rw [H0.out]
        simp [ints]
      case measure => simp [intOf]; omega
    · obtain rfl : k = l.length := by omega
      have e : numsTo ⟨slots, l.map (·.r)⟩ l.length = pdNums ⟨slots, l.map (·.r)⟩ := by
        have := numsTo_all ⟨slots, l.map (·.r)⟩
        simpa using this
      rw [e] at hown
      clear e
      go_wp2
      go_ret
      exact ⟨u3, rfl, hown, hfr⟩
end Go.Proofs.Ytodmkjeankbieaa
