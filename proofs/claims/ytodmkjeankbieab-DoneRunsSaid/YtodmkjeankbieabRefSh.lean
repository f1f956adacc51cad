/- The walks of the reference of chapter 3: Same, Next. -/
import Derived.Test.YtodmkjeankbieabRunRun
import Derived.Test.YtodmkjeankbieabRefRun
namespace Go.Proofs.Ytodmkjeankbieab
open Go.RowKit Go.Sort

theorem sh_ne {x y : Sh} (h : x.state ≠ y.state ∨ x.steps ≠ y.steps ∨ x.out.length ≠ y.out.length) : shEq x y = false := by
  unfold shEq
  apply decide_eq_false
  rintro ⟨h1, h2, h3⟩
  rcases h with h | h | h
  · exact h h1
  · exact h h2
  · exact h (by rw [h3])
theorem sh_end {x y : Sh} (h1 : x.state = y.state) (h2 : x.steps = y.steps) (h3 : x.out.length = y.out.length) (h : ∀ j, j < x.out.length → x.out[j]? = y.out[j]?) : shEq x y = true := by
  unfold shEq
  apply decide_eq_true
  refine ⟨h1, h2, List.ext_getElem? fun j => ?_⟩
  by_cases hj : j < x.out.length
  · exact h j hj
  · rw [List.getElem?_eq_none (by omega), List.getElem?_eq_none (by omega)]
theorem sh_no {x y : Sh} {j : Nat} (hj : x.out[j]? ≠ y.out[j]?) : shEq x y = false := by
  unfold shEq
  apply decide_eq_false
  rintro ⟨_, _, h3⟩
  exact hj (by rw [h3])

set_option maxHeartbeats 1000000 in
set_option maxRecDepth 100000 in
theorem refShSame_any (R R' : Nat → Prop) (v v' : Value) (x y : Sh) (w : World) (h : RdSh w R v x) (h' : RdSh w R' v' y) :
    Calls Try.prog 17 #[v, v'] w fun e w' => e = .returned (.bool (shEq x y)) ∧ Fr w w' := by
  obtain ⟨A, c, rfl, hl, hr⟩ := h
  obtain ⟨A', c', rfl, hl', hr'⟩ := h'
  have HR := Lib.hid hr
  have HR' := Lib.hid hr'
  clear hr hr'
  have HB0 := Lib.hid ((Blk.new w 28 #[.int .i64 (x.state : Int), .slice A x.out.length c, .int .i64 (x.steps : Int)]).alloc (.cells #[.int .i64 (y.state : Int), .slice A' y.out.length c', .int .i64 (y.steps : Int)] 28))
  have HB1 : Hid (Blk ((w.alloc (.cells #[.int .i64 (x.state : Int), .slice A x.out.length c, .int .i64 (x.steps : Int)] 28)).alloc (.cells #[.int .i64 (y.state : Int), .slice A' y.out.length c', .int .i64 (y.steps : Int)] 28)) (w.heap.size + 1) 28
      #[.int .i64 (y.state : Int), .slice A' y.out.length c', .int .i64 (y.steps : Int)]) := by
    have := Blk.new (w.alloc (.cells #[.int .i64 (x.state : Int), .slice A x.out.length c, .int .i64 (x.steps : Int)] 28)) 28 #[.int .i64 (y.state : Int), .slice A' y.out.length c', .int .i64 (y.steps : Int)]
    show Blk _ _ _ _
    simpa using this
  have HF : Hid (Fr w ((w.alloc (.cells #[.int .i64 (x.state : Int), .slice A x.out.length c, .int .i64 (x.steps : Int)] 28)).alloc (.cells #[.int .i64 (y.state : Int), .slice A' y.out.length c', .int .i64 (y.steps : Int)] 28))) := ((Kept.refl _ w).alloc _).alloc _
  by_cases h1 : x.state = y.state
  · by_cases h2 : x.steps = y.steps
    · by_cases h3 : x.out.length = y.out.length
      · obtain ⟨px, ix, ox, sx, tx⟩ := x
        obtain ⟨py, iy, oy, sy, ty⟩ := y
        simp only at h1 h2 h3
        subst h1; subst h2
        simp only at *
        have HE := Lib.hid (fun h => sh_end (x := ⟨px, ix, ox, sx, tx⟩) (y := ⟨py, iy, oy, sx, tx⟩) rfl rfl h3 h)
        have HN := Lib.hid (fun j hj => sh_no (x := ⟨px, ix, ox, sx, tx⟩) (y := ⟨py, iy, oy, sx, tx⟩) (j := j) hj)
        rw [← h3] at HB0 HB1 HF HR'
        rw [← h3]
        have H3 := Lib.hid h3
        clear h3 hl'
        go_enter Try.func17, Try.ntmps17
        go_wp2
        go_loopw [5] (fun i wr => ∃ j : Nat, i = .int .i64 j ∧ j ≤ ox.length ∧ Hid (∀ k, k < j → ox[k]? = oy[k]?) ∧ Hid (Blk wr w.heap.size 28 #[.int .i64 (tx : Int), .slice A ox.length c, .int .i64 (sx : Int)]) ∧
          Hid (Blk wr (w.heap.size + 1) 28 #[.int .i64 (tx : Int), .slice A' ox.length c', .int .i64 (sx : Int)]) ∧ Hid (Fr w wr)) (fun i _ => ox.length - (intOf i).toNat)
        case atStart => exact ⟨0, rfl, by omega, fun k hk => by omega, HB0, HB1, HF⟩
        case round =>
          obtain ⟨j, rfl, hj, heq, hb0, hb1, hfr⟩ := hrel
          have c0 := hb0.out.cell 1
          have c1 := hb1.out.cell 1
          simp only [List.getElem?_toArray, List.getElem?_cons_succ, List.getElem?_cons_zero] at c0 c1
          by_cases hlt : j < ox.length
          · have hlt' : j < oy.length := by have := H3.out; omega
            obtain ⟨b, off, rfl, _, hc⟩ := (HR.out.kept hfr.out (fun _ _ h => h)).2 (by omega)
            obtain ⟨b', off', rfl, _, hc'⟩ := (HR'.out.kept hfr.out (fun _ _ h => h)).2 (by omega)
            have hx : ox[j]? = some ox[j] := List.getElem?_eq_getElem hlt
            have hy : oy[j]? = some oy[j] := List.getElem?_eq_getElem hlt'
            have d0 := hc j (.int .u32 ox[j]) (by unfold u32s; rw [List.getElem?_map, hx]; rfl)
            have d1 := hc' j (.int .u32 oy[j]) (by unfold u32s; rw [List.getElem?_map, hy]; rfl)
            have hlj : (j : Int) < (ox.length : Int) := by omega
            have hj0 : (0 : Int) ≤ (j : Int) := Int.natCast_nonneg _
            clear hc hc'
            by_cases hxy : ox[j] = oy[j]
            · have hne : (ox[j] != oy[j]) = false := by simp [hxy]
              have HS : Hid (∀ k, k < j + 1 → ox[k]? = oy[k]?) := by
                show ∀ k, _
                intro k hk
                by_cases e : k = j
                · subst e; rw [hx, hy, hxy]
                · exact heq.out k (by omega)
              clear hxy hx hy heq
              generalize ox[j] = a at *
              generalize oy[j] = b at *
              go_wp2
              go_quiet (fail)
              go_wp2
              go_roundw
              case rel => exact ⟨j + 1, by go_num, by omega, HS, hb0, hb1, Lib.hid (hfr.out.drewN nq)⟩
              case measure => simp [intOf]; omega
            · have hne : (ox[j] != oy[j]) = true := by simp [hxy]
              have HS := Lib.hid (HN.out j (by rw [hx, hy]; simp [hxy]))
              clear hxy hx hy heq HN HE
              generalize ox[j] = a at *
              generalize oy[j] = b at *
              go_wp2
              go_quiet (fail)
              go_wp2
              go_ret
              exact ⟨ret_b HS.out.symm, hfr.out.drewN nq⟩
          · have HS := Lib.hid (HE.out (fun k hk => heq.out k (by omega)))
            clear heq HN HE
            go_wp2
            go_ret
            exact ⟨ret_b HS.out.symm, hfr.out⟩
      · have HE := Lib.hid (sh_ne (x := x) (y := y) (Or.inr (Or.inr h3)))
        rw [h1, h2] at HF ⊢
        obtain ⟨px, ix, ox, sx, tx⟩ := x
        obtain ⟨py, iy, oy, sy, ty⟩ := y
        simp only at *
        clear HB0 HB1 h1 h2
        have h3' : ¬ (ox.length : Int) = (oy.length : Int) := by omega
        clear h3
        go_enter Try.func17, Try.ntmps17
        go_wp2
        go_ret
        exact ⟨ret_b HE.out.symm, HF.out⟩
    · have HE := Lib.hid (sh_ne (x := x) (y := y) (Or.inr (Or.inl h2)))
      rw [h1] at HF ⊢
      obtain ⟨px, ix, ox, sx, tx⟩ := x
      obtain ⟨py, iy, oy, sy, ty⟩ := y
      simp only at *
      clear HB0 HB1 h1
      have h3' : ¬ (sx : Int) = (sy : Int) := by omega
      clear h2
      go_enter Try.func17, Try.ntmps17
      go_wp2
      go_ret
      exact ⟨ret_b HE.out.symm, HF.out⟩
  · have HE := Lib.hid (sh_ne (x := x) (y := y) (Or.inl h1))
    obtain ⟨px, ix, ox, sx, tx⟩ := x
    obtain ⟨py, iy, oy, sy, ty⟩ := y
    simp only at *
    clear HB0 HB1
    have h3' : ¬ (tx : Int) = (ty : Int) := by omega
    clear h1
    go_enter Try.func17, Try.ntmps17
    go_wp2
    go_ret
    exact ⟨ret_b HE.out.symm, HF.out⟩

theorem next_pc {i : In} {pc : Nat} {a : Int} (hc : i.op = 8 ∨ i.op = 9 → 0 ≤ i.c) : ((pcV i pc a : Nat) : Int) = if i.op = 8 ∨ i.op = 9 ∧ a ≠ 0 then i.c else (pc : Int) + 1 := by
  unfold pcV
  split
  · rename_i h
    have := hc (by rcases h with h | h; exact Or.inl h; exact Or.inr h.1)
    omega
  · omega

set_option maxHeartbeats 1000000 in
set_option maxRecDepth 100000 in
theorem refNext_any (R : Nat → Prop) (v : Value) (p : Pg) (k : Nat) (a : Int) (w : World) (h : RdPg w R v p) (hk : k < p.code.length) (hlen : p.code.length ≤ 40) (hc : (inAt p.code k).op = 8 ∨ (inAt p.code k).op = 9 → 0 ≤ (inAt p.code k).c ∧ (inAt p.code k).c ≤ 1000) :
    Calls Try.prog 46 #[v, .int .i64 (k : Int), .int .u64 a] w fun e w' => e = .returned (.tuple #[.int .i64 (pcV (inAt p.code k) k a : Nat), .int .i64 (stV p.code.length (inAt p.code k) k a : Nat)]) ∧ Fr w w' := by
  obtain ⟨vw, vc, rfl, ⟨A1, c1, rfl, hl1, hr1⟩, ⟨A, c, rfl, hl2, hr2, ho2⟩⟩ := h
  have hx : p.code[k]? = some (inAt p.code k) := by rw [inAt_get hk]; exact List.getElem?_eq_getElem hk
  obtain ⟨b, off, rfl, hbB, d0, d1, d2, d3, d4, d5⟩ := hr2.ins hx
  have hpc := next_pc (i := inAt p.code k) (pc := k) (a := a) (fun h => (hc h).1)
  have hst : stV p.code.length (inAt p.code k) k a = if (inAt p.code k).op = 10 then 1 else if (p.code.length : Int) ≤ ((pcV (inAt p.code k) k a : Nat) : Int) then 2 else 0 := by
    unfold stV
    split
    · rfl
    · by_cases hl : p.code.length ≤ pcV (inAt p.code k) k a
      · rw [if_pos hl, if_pos (by omega)]
      · rw [if_neg hl, if_neg (by omega)]
  clear hr1 hr2 ho2 hx hl1
  generalize stV p.code.length (inAt p.code k) k a = st at *
  generalize pcV (inAt p.code k) k a = pc at *
  generalize inAt p.code k = i at *
  obtain ⟨op, d, a1, b1, cc, n⟩ := i
  simp only at *
  have zb := cell_lt d0
  have hk1 : (k : Int) < (p.code.length : Int) := by omega
  have hk0 : (0 : Int) ≤ (k : Int) := Int.natCast_nonneg _
  have HF := Lib.hid (show Fr w ((w.alloc (.cells #[.slice A1 p.wide.length c1, .slice (some ⟨b, off, none⟩) p.code.length c] 25)).alloc (.cells #[.int .i64 op, .int .i64 d, .int .i64 a1, .int .i64 b1, .int .i64 cc, .int .u32 n] 45)) from ((Kept.refl _ w).alloc _).alloc _)
  unfold maxLen at hl2
  by_cases h10 : op = 10
  · subst h10
    rw [if_neg (by simp)] at hpc
    rw [if_pos rfl] at hst
    rw [hpc, hst]
    clear hpc hst hc
    go_enter Try.func46, Try.ntmps46
    go_wp2
    go_ret2
    exact ⟨rfl, HF.out⟩
  · have e10 : (op == 10) = false := by simpa using h10
    rw [if_neg h10] at hst
    by_cases h8 : op = 8
    · subst h8
      obtain ⟨c0, c9⟩ := hc (Or.inl rfl)
      rw [if_pos (Or.inl rfl)] at hpc
      rw [hpc] at hst ⊢
      rw [hst]
      clear hpc hst hc h10
      by_cases hl : (p.code.length : Int) ≤ cc
      · rw [if_pos hl]
        go_enter Try.func46, Try.ntmps46
        go_wp2
        go_ret2
        exact ⟨rfl, HF.out⟩
      · rw [if_neg hl]
        go_enter Try.func46, Try.ntmps46
        go_wp2
        go_ret2
        exact ⟨rfl, HF.out⟩
    · have e8 : (op == 8) = false := by simpa using h8
      by_cases h9 : op = 9
      · subst h9
        obtain ⟨c0, c9⟩ := hc (Or.inr rfl)
        by_cases ha : a = 0
        · subst ha
          rw [if_neg (by simp)] at hpc
          rw [hpc] at hst ⊢
          rw [hst]
          clear hpc hst hc h10 h8
          by_cases hl : (p.code.length : Int) ≤ (k : Int) + 1
          · rw [if_pos hl]
            go_enter Try.func46, Try.ntmps46
            go_wp2
            go_ret2
            exact ⟨rfl, HF.out⟩
          · rw [if_neg hl]
            go_enter Try.func46, Try.ntmps46
            go_wp2
            go_ret2
            exact ⟨rfl, HF.out⟩
        · have ea : (a != 0) = true := by simpa using ha
          rw [if_pos (Or.inr ⟨rfl, ha⟩)] at hpc
          rw [hpc] at hst ⊢
          rw [hst]
          clear hpc hst hc h10 h8 ha
          by_cases hl : (p.code.length : Int) ≤ cc
          · rw [if_pos hl]
            go_enter Try.func46, Try.ntmps46
            go_wp2
            go_ret2
            exact ⟨rfl, HF.out⟩
          · rw [if_neg hl]
            go_enter Try.func46, Try.ntmps46
            go_wp2
            go_ret2
            exact ⟨rfl, HF.out⟩
      · have e9 : (op == 9) = false := by simpa using h9
        rw [if_neg (by omega)] at hpc
        rw [hpc] at hst ⊢
        rw [hst]
        clear hpc hst hc h10 h8 h9
        by_cases hl : (p.code.length : Int) ≤ (k : Int) + 1
        · rw [if_pos hl]
          go_enter Try.func46, Try.ntmps46
          go_wp2
          go_ret2
          exact ⟨rfl, HF.out⟩
        · rw [if_neg hl]
          go_enter Try.func46, Try.ntmps46
          go_wp2
          go_ret2
          exact ⟨rfl, HF.out⟩
end Go.Proofs.Ytodmkjeankbieab
