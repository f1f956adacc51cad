/- The walks of code.Put: a writer of bytes, what it has written and whether it is bad. -/
import Derived.Test.YtodmkjeankbieaaCodeRef2
namespace Go.Proofs.Ytodmkjeankbieaa
open Go.RowKit Go.Sort

/-- block g is a writer that has written bs into the call's own row v -/
structure Wr (w : World) (g base : Nat) (v : Value) (bs : List Int) (bad : Bool) : Prop where
  blk : Blk w g 68 #[v, .bool bad]
  own : w.ownsRow base 5 1 v bs.length (byteVals bs)

/-- what becomes of a writer that writes more -/
def WrPost (w : World) (g base : Nat) (v : Value) (bs : List Int) (bad : Bool) (L : List Int) (w' : World) : Prop :=
  ∃ v', Wr w' g base v' (bs ++ toByte L) (bad || !L.all isByte) ∧ Kept (fun b => b = g ∨ v.ownBlock = some b) w w' ∧ ∀ b, v'.ownBlock = some b → v.ownBlock = some b ∨ w.heap.size ≤ b

theorem own_ret {w : World} {base : Nat} {v : Value} {n : Nat} {bs : List Int} {xs : List Value} (h : w.ownsRow base 5 1 v n xs) (hx : xs = byteVals bs) : w.ownsRow base 5 1 v bs.length (byteVals bs) := by
  subst hx
  have e : n = bs.length := by
    have := h.1
    simpa [byteVals] using this.symm
  subst e
  exact h

structure PutInv (w wr : World) (g base : Nat) (v0 : Value) (bs : List Int) (bad : Bool) (L : List Int) (k : Nat) (v : Value) : Prop where
  wr' : Wr wr g base v (bs ++ toByte (L.take k)) (bad || !(L.take k).all isByte)
  kept : Kept (fun b => b = g ∨ v0.ownBlock = some b) w wr
  at_ : ∀ b, v.ownBlock = some b → v0.ownBlock = some b ∨ w.heap.size ≤ b

theorem toByte_succ (L : List Int) (k : Nat) (x : Int) (h : L[k]? = some x) : toByte (L.take (k + 1)) = toByte (L.take k) ++ [x % 256] := by
  rw [List.take_add_one, h]; simp [toByte]
theorem all_succ (L : List Int) (k : Nat) (x : Int) (h : L[k]? = some x) : (L.take (k + 1)).all isByte = ((L.take k).all isByte && isByte x) := by
  rw [List.take_add_one, h]; simp


theorem own_set {w : World} {g base n : Nat} {v u : Value} {xs : List Value} {cs : Array Value} {i : Nat} (h : w.ownsRow base 5 1 v n xs) (hb : Blk w g 68 cs) : (w.setCell ⟨g, i, none⟩ u).ownsRow base 5 1 v n xs :=
  own_kept h ((Kept.refl (fun b => b = g) w).setCell (p := ⟨g, i, none⟩) (fun _ => rfl) _) (fun b he e => by subst e; exact own_blk_ne h hb (by decide) he)

theorem put_blk {wr w1 : World} {g base n : Nat} {v u a b : Value} {xs : List Value} {o : Obj} (hB : Blk wr g 68 #[a, b]) (hown : wr.ownsRow base 5 1 v n xs)
    (hk : Kept (fun b => v.ownBlock = some b) ((wr.setCell ⟨g, 1, none⟩ u).alloc o) w1) : Blk w1 g 68 #[a, u] := by
  have h1 := (hB.set_ 1 u).alloc o
  have h2 := (own_set (i := 1) (u := u) hown hB).alloc o
  simpa using h1.kept hk (own_blk_ne h2 h1 (by decide))

theorem own_byte {w : World} {base n : Nat} {v : Value} {xs : List Value} {x : Int} (h : w.ownsRow base 5 1 v n (xs ++ #[Value.int .u8 x].toList)) (h0 : 0 ≤ x) (h1 : x ≤ 255) : w.ownsRow base 5 1 v n (xs ++ [Value.int .u8 (x % 256)]) := by
  have e : x % 256 = x := by omega
  rw [e]
  exact h

/-- one number more -/
theorem put_step {w wr w1 : World} {g base : Nat} {v0 v v1 : Value} {bs : List Int} {bad : Bool} {L : List Int} {k : Nat} {x : Int} {bad2 : Bool} {o : Obj}
    (h : PutInv w wr g base v0 bs bad L k v) (hx : L[k]? = some x) (hb : bad2 = ((bad || !(L.take k).all isByte) || !isByte x))
    (hown : w1.ownsRow base 5 1 v1 ((bs ++ toByte (L.take k)).length + 1) (byteVals (bs ++ toByte (L.take k)) ++ [.int .u8 (x % 256)]))
    (hk : Kept (fun b => v.ownBlock = some b) ((wr.setCell ⟨g, 1, none⟩ (.bool bad2)).alloc o) w1)
    (hat : v1.ownBlock = v.ownBlock ∨ v1.ownBlock = some ((wr.setCell ⟨g, 1, none⟩ (.bool bad2)).alloc o).heap.size) :
    PutInv w (w1.setCell ⟨g, 0, none⟩ v1) g base v0 bs bad L (k + 1) v1 := by
  have hsz : wr.heap.size ≤ ((wr.setCell ⟨g, 1, none⟩ (.bool bad2)).alloc o).heap.size := by simp [World.setCell]
  have hB0 := (h.wr'.blk.set_ 1 (.bool bad2)).alloc o
  have hown0 : ((wr.setCell ⟨g, 1, none⟩ (.bool bad2)).alloc o).ownsRow base 5 1 v (bs ++ toByte (L.take k)).length (byteVals (bs ++ toByte (L.take k))) :=
    own_kept h.wr'.own (((Kept.refl (fun b => b = g) wr).setCell (p := ⟨g, 1, none⟩) (fun _ => rfl) _).alloc o) (fun b hb e => by subst e; exact own_blk_ne h.wr'.own h.wr'.blk (by decide) hb)
  have hB1 := hB0.kept hk (own_blk_ne hown0 hB0 (by decide))
  have hB2 := hB1.set_ 0 v1
  have hn1 := own_blk_ne hown hB1 (by decide)
  have hown2 : (w1.setCell ⟨g, 0, none⟩ v1).ownsRow base 5 1 v1 _ _ := own_kept hown ((Kept.refl (fun b => b = g) w1).setCell (p := ⟨g, 0, none⟩) (fun _ => rfl) _) (fun b hb e => by subst e; exact hn1 hb)
  refine ⟨⟨?_, own_ret hown2 ?_⟩, ?_, ?_⟩
  · have e : (bad || !(L.take (k + 1)).all isByte) = bad2 := by
      rw [all_succ L k x hx, hb]
      cases bad <;> cases (L.take k).all isByte <;> cases isByte x <;> rfl
    rw [e]
    simpa using hB2
  · rw [toByte_succ L k x hx]; simp [byteVals]
  · have k1 : Kept (fun b => b = g ∨ v0.ownBlock = some b) w ((wr.setCell ⟨g, 1, none⟩ (.bool bad2)).alloc o) := (h.kept.setCell (fun _ => .inl rfl) _).alloc o
    have k2 := k1.then hk (fun i hi hs => (h.at_ i hs).elim (fun e => .inr e) (fun e => absurd hi (by omega)))
    exact k2.setCell (fun _ => .inl rfl) _
  · intro b hb
    rcases hat with e | e
    · rw [e] at hb; exact h.at_ b hb
    · rw [e] at hb
      cases hb
      have := h.kept.size
      exact .inr (by omega)

set_option maxHeartbeats 1000000 in
set_option maxRecDepth 100000 in
theorem put_any (R : Nat → Prop) (g base : Nat) (v : Value) (bs : List Int) (bad : Bool) (A : Option Addr) (c : Nat) (L : List Int) (w : World) (hw : Wr w g base v bs bad) (hr : Reads w R 1 A L.length (ints L))
    (hR : ∀ b, R b → b ≠ g ∧ v.ownBlock ≠ some b) (hb : base ≤ w.heap.size) (hl : bs.length + L.length ≤ 140737488355328) :
    Calls Try.prog 36 #[.pointer (some ⟨g, 0, none⟩), .slice A L.length c] w fun e w' => e = .returned (.tuple #[]) ∧ WrPost w g base v bs bad L w' := by
  go_enter Try.func36, Try.ntmps36
  go_wp2
  go_loopw [8] (fun i wr => ∃ (k : Nat) (v1 : Value), k ≤ L.length ∧ i = .int .i64 k ∧ PutInv w wr g base v bs bad L k v1) (fun i _ => L.length - (intOf i).toNat)
  case atStart => exact ⟨0, v, by omega, rfl, ⟨by simpa [toByte] using hw.blk, by simpa [toByte] using hw.own⟩, Kept.refl _ _, fun b h => .inl h⟩
  case round =>
    obtain ⟨k, v1, hk, rfl, hinv⟩ := hrel
    by_cases hlt : k < L.length
    · have hm : L[k]? = some L[k] := List.getElem?_eq_getElem hlt
      generalize L[k] = x at *
      obtain ⟨b, off, rfl, _, c0⟩ := reads_int (hr.kept hinv.kept (fun b hb hs => hs.elim (hR b hb).1 (hR b hb).2)) hm
      have hB := hinv.wr'.blk
      have q0 := hB.cell 0
      have q1 := hB.cell 1
      have z0 := hB.frozen 0
      have z1 := hB.frozen 1
      have hlt2 := hB.lt
      have hs2 := hinv.kept.size
      obtain ⟨A1, c1, rfl, hm1, _⟩ := own_reads hinv.wr'.own
      simp only [List.getElem?_toArray, List.getElem?_cons_succ, List.getElem?_cons_zero] at q0 q1
      have hlen : ∀ d, (bs ++ toByte (L.take k)).length = d → d ≤ bs.length + k := by
        intro d hd
        rw [← hd, List.length_append]
        simp only [toByte, List.length_map, List.length_take]
        omega
      have hlen1 := hlen _ rfl
      have hown := hinv.wr'.own
      have hbase : base ≤ wr.heap.size := by omega
      have H2 := fun bad2 v1 w1 o hb ho hk hat => put_step (v1 := v1) (w1 := w1) (bad2 := bad2) (o := o) hinv hm hb ho hk hat
      have hib : isByte x = decide (0 ≤ x ∧ x ≤ 255) := rfl
      generalize (bad || !(L.take k).all isByte) = bd at *
      clear hr hinv hlen
      generalize bs ++ toByte (L.take k) = cur at *
      have H3 := Lib.hid H2
      clear H2
      generalize hbb : isByte x = ib at *
      have HB := Lib.hid hB
      have hib2 : ib = decide (0 ≤ x ∧ x ≤ 255) := hib
      clear hbb hib
      have H1 := Lib.hid hm
      clear hm
      obtain ⟨hbd, hway⟩ : ∃ bad2 : Bool, bad2 = (bd || !ib) ∧ ((bd = true ∧ bad2 = true) ∨ (bd = false ∧ x < 0 ∧ bad2 = true) ∨ (bd = false ∧ ¬ x < 0 ∧ 255 < x ∧ bad2 = true) ∨ (bd = false ∧ ¬ x < 0 ∧ ¬ 255 < x ∧ bad2 = false)) := by
        refine ⟨_, rfl, ?_⟩
        rw [hib2]
        cases bd
        · by_cases g1 : x < 0
          · exact .inr (.inl ⟨rfl, g1, by simp; omega⟩)
          · by_cases g2 : 255 < x
            · exact .inr (.inr (.inl ⟨rfl, g1, g2, by simp; omega⟩))
            · exact .inr (.inr (.inr ⟨rfl, g1, g2, by simp; omega⟩))
        · exact .inl ⟨rfl, rfl⟩
      obtain ⟨hbd2, hway⟩ := hway
      have H4 := Lib.hid hbd2
      clear hbd2 hib2
      rcases hway with ⟨rfl, rfl⟩ | ⟨rfl, h1, rfl⟩ | ⟨rfl, h1, h2, rfl⟩ | ⟨rfl, h1, h2, rfl⟩
      · go_wp2_with (first
          | (at_builtin
             refine wpList_app _ rfl slByte (.tmp 31) (.tmp 34) rfl (.slice A1 _ c1) _ _ rfl ((own_set hown HB.out).alloc _) (fun _ => True) _ 1 1 _ rfl (Reads.lit' (by simp) trivial rfl) ?_ ?_ ?_ ?_ ?_
             · simp [Value.oneCell']
             · omega
             · unfold maxLen; omega
             · simp [World.setCell]; omega
             intro v1 w1 hown1 hk1 hat1
             obtain ⟨A2, c2, rfl, _, _⟩ := own_reads hown1
             have hB1 := put_blk HB.out hown hk1
             have p0 := hB1.cell 0
             have y0 := hB1.frozen 0
             simp only [List.getElem?_toArray, List.getElem?_cons_zero] at p0))
        go_roundw
        case rel => exact ⟨k + 1, _, by omega, by go_num, H3.out _ _ _ _ H4.out hown1 hk1 hat1⟩
        case measure => simp [intOf]; omega
      · have h1' : decide (x < 0) = true := by simp; omega
        go_wp2_with (first
          | (at_builtin
             refine wpList_app _ rfl slByte (.tmp 31) (.tmp 34) rfl (.slice A1 _ c1) _ _ rfl ((own_set hown HB.out).alloc _) (fun _ => True) _ 1 1 _ rfl (Reads.lit' (by simp) trivial rfl) ?_ ?_ ?_ ?_ ?_
             · simp [Value.oneCell']
             · omega
             · unfold maxLen; omega
             · simp [World.setCell]; omega
             intro v1 w1 hown1 hk1 hat1
             obtain ⟨A2, c2, rfl, _, _⟩ := own_reads hown1
             have hB1 := put_blk HB.out hown hk1
             have p0 := hB1.cell 0
             have y0 := hB1.frozen 0
             simp only [List.getElem?_toArray, List.getElem?_cons_zero] at p0))
        go_roundw
        case rel => exact ⟨k + 1, _, by omega, by go_num, H3.out _ _ _ _ H4.out hown1 hk1 hat1⟩
        case measure => simp [intOf]; omega
      · have h1' : decide (x < 0) = false := by simp; omega
        go_wp2_with (first
          | (at_builtin
             refine wpList_app _ rfl slByte (.tmp 31) (.tmp 34) rfl (.slice A1 _ c1) _ _ rfl ((own_set hown HB.out).alloc _) (fun _ => True) _ 1 1 _ rfl (Reads.lit' (by simp) trivial rfl) ?_ ?_ ?_ ?_ ?_
             · simp [Value.oneCell']
             · omega
             · unfold maxLen; omega
             · simp [World.setCell]; omega
             intro v1 w1 hown1 hk1 hat1
             obtain ⟨A2, c2, rfl, _, _⟩ := own_reads hown1
             have hB1 := put_blk HB.out hown hk1
             have p0 := hB1.cell 0
             have y0 := hB1.frozen 0
             simp only [List.getElem?_toArray, List.getElem?_cons_zero] at p0))
        go_roundw
        case rel => exact ⟨k + 1, _, by omega, by go_num, H3.out _ _ _ _ H4.out hown1 hk1 hat1⟩
        case measure => simp [intOf]; omega
      · have h1' : decide (x < 0) = false := by simp; omega
        have h2' : decide (255 < x) = false := by simp; omega
        go_wp2_with (first
          | (at_builtin
             refine wpList_app _ rfl slByte (.tmp 31) (.tmp 34) rfl (.slice A1 _ c1) _ _ rfl ((own_set hown HB.out).alloc _) (fun _ => True) _ 1 1 _ rfl (Reads.lit' (by simp) trivial rfl) ?_ ?_ ?_ ?_ ?_
             · simp [Value.oneCell']
             · omega
             · unfold maxLen; omega
             · simp [World.setCell]; omega
             intro v1 w1 hown1 hk1 hat1
             obtain ⟨A2, c2, rfl, _, _⟩ := own_reads hown1
             have hB1 := put_blk HB.out hown hk1
             have p0 := hB1.cell 0
             have y0 := hB1.frozen 0
             simp only [List.getElem?_toArray, List.getElem?_cons_zero] at p0))
        go_roundw
        case rel => exact ⟨k + 1, _, by omega, by go_num, H3.out _ _ _ _ H4.out (own_byte hown1 (by omega) (by omega)) hk1 hat1⟩
        case measure => simp [intOf]; omega
    · obtain rfl : k = L.length := by omega
      obtain ⟨hw1, hk1, hat1⟩ := hinv
      rw [List.take_length] at hw1
      go_wp2
      go_end0
      exact ⟨rfl, v1, hw1, hk1, hat1⟩
/-- numbers that have just been laid in a block of their own -/
theorem put_lit (g base : Nat) (v : Value) (bs : List Int) (bad : Bool) (L : List Int) (w : World) (gl n : Nat) (e : TypeId) (cs : Array Value) (hw : Wr w g base v bs bad) (hgl : gl = w.heap.size) (hn : n = L.length) (hcs : cs.toList = ints L)
    (hb : base ≤ w.heap.size) (hl : bs.length + L.length ≤ 140737488355328) :
    Calls Try.prog 36 #[.pointer (some ⟨g, 0, none⟩), .slice (some ⟨gl, 0, none⟩) n n] (w.alloc (.cells cs e)) fun e w' => e = .returned (.tuple #[]) ∧ WrPost w g base v bs bad L w' := by
  subst hn
  have hlt := hw.blk.lt
  have hw2 : Wr (w.alloc (.cells cs e)) g base v bs bad := ⟨hw.blk.alloc _, World.ownsRow.alloc hw.own _⟩
  have hr : Reads (w.alloc (.cells cs e)) (fun b => b = gl) 1 (some ⟨gl, 0, none⟩) L.length (ints L) := by
    rw [← hcs]
    refine Reads.lit' hgl rfl ?_
    have : cs.size = (ints L).length := by rw [← hcs]; simp
    rw [this]; simp [ints]
  refine (put_any (fun b => b = gl) g base v bs bad _ L.length L _ hw2 hr ?_ (by simp; omega) hl).mono ?_
  · intro b hb2
    subst hb2
    subst hgl
    exact ⟨by omega, fun e => by have := (own_lt hw.own e).2; omega⟩
  · rintro e w' ⟨he, v', h1, h2, h3⟩
    refine ⟨he, v', h1, ⟨h2.os, h2.tape, h2.output, Nat.le_trans (by simp) h2.size, fun k hk hs => ?_⟩, fun b hb3 => ?_⟩
    · exact (h2.block k (by simp; omega) hs).trans (Below.heap_alloc _ _ _ hk)
    · rcases h3 b hb3 with h4 | h4
      · exact .inl h4
      · simp at h4
        exact .inr (by omega)

theorem WrPost.start {w : World} {g base : Nat} {v : Value} {bs : List Int} {bad : Bool} (h : Wr w g base v bs bad) : WrPost w g base v bs bad [] w :=
  ⟨v, ⟨by simpa [toByte] using h.blk, by simpa [toByte] using h.own⟩, Kept.refl _ _, fun _ h => .inl h⟩
theorem WrPost.alloc {w w' : World} {g base : Nat} {v : Value} {bs : List Int} {bad : Bool} {L : List Int} (h : WrPost w g base v bs bad L w') (o : Obj) : WrPost w g base v bs bad L (w'.alloc o) :=
  let ⟨v', h1, h2, h3⟩ := h
  ⟨v', ⟨h1.blk.alloc _, World.ownsRow.alloc h1.own _⟩, h2.alloc _, h3⟩
theorem WrPost.size {w w' : World} {g base : Nat} {v : Value} {bs : List Int} {bad : Bool} {L : List Int} (h : WrPost w g base v bs bad L w') : w.heap.size ≤ w'.heap.size :=
  let ⟨_, _, h2, _⟩ := h
  h2.size
/-- one behind the other -/
theorem WrPost.more {w w1 w2 : World} {g base : Nat} {v v1 : Value} {bs : List Int} {bad : Bool} {L1 L2 : List Int} (hk : Kept (fun b => b = g ∨ v.ownBlock = some b) w w1) (hat : ∀ b, v1.ownBlock = some b → v.ownBlock = some b ∨ w.heap.size ≤ b)
    (h : WrPost w1 g base v1 (bs ++ toByte L1) (bad || !L1.all isByte) L2 w2) : WrPost w g base v bs bad (L1 ++ L2) w2 := by
  obtain ⟨v2, h1, h2, h3⟩ := h
  have hz := hk.size
  refine ⟨v2, ⟨?_, ?_⟩, hk.then h2 (fun i hi hs => ?_), fun b hb => ?_⟩
  · have e : (bad || !(L1 ++ L2).all isByte) = (bad || !L1.all isByte || !L2.all isByte) := by rw [List.all_append]; cases bad <;> cases L1.all isByte <;> cases L2.all isByte <;> rfl
    rw [e]; exact h1.blk
  · have e : bs ++ toByte (L1 ++ L2) = bs ++ toByte L1 ++ toByte L2 := by simp [toByte]
    rw [e]; exact h1.own
  · rcases hs with e | e
    · exact .inl e
    · rcases hat i e with e2 | e2
      · exact .inr e2
      · omega
  · rcases h3 b hb with e | e
    · exact hat b e
    · exact .inr (by omega)

end Go.Proofs.Ytodmkjeankbieaa
