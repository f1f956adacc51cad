/- RefSh, RefPlay: texts of this claim, packed into one file. -/
import Derived.Test.YtodmkjeankbieabKCheckIdlek12
import Derived.Test.YtodmkjeankbieabKCheckIdlek13
import Derived.Test.YtodmkjeankbieabKCheckIdlek3
import Derived.Deep.RegionWith
/- The walks of the reference of chapter 3: Same, Next. -/
namespace Go.Proofs.Ytodmkjeankbieab
open Go.RowKit Go.Sort

theorem sh_ne {x y : Sh} (h : x.state ≠ y.state ∨ x.steps ≠ y.steps ∨ x.out.length ≠ y.out.length) : shEq x y = false := by
  unfold shEq
  apply decide_eq_false
  rintro ⟨h1, h2, h3⟩
  rcases h with h | h | h
  · exact h h1
  · exact h h2
  · exact h (by rw [h3])
theorem sh_end {x y : Sh} (h1 : x.state = y.state) (h2 : x.steps = y.steps) (h3 : x.out.length = y.out.length) (h : ∀ j, j < x.out.length → x.out[j]? = y.out[j]?) : shEq x y = true := by
  unfold shEq
  apply decide_eq_true
  refine ⟨h1, h2, List.ext_getElem? fun j => ?_⟩
  by_cases hj : j < x.out.length
  · exact h j hj
  · rw [List.getElem?_eq_none (by omega), List.getElem?_eq_none (by omega)]
theorem sh_no {x y : Sh} {j : Nat} (hj : x.out[j]? ≠ y.out[j]?) : shEq x y = false := by
  unfold shEq
  apply decide_eq_false
  rintro ⟨_, _, h3⟩
  exact hj (by rw [h3])

set_option maxHeartbeats 1000000 in
set_option maxRecDepth 100000 in
theorem refShSame_any (R R' : Nat → Prop) (v v' : Value) (x y : Sh) (w : World) (h : RdSh w R v x) (h' : RdSh w R' v' y) :
    Calls Try.prog 17 #[v, v'] w fun e w' => e = .returned (.bool (shEq x y)) ∧ Fr w w' := by
  obtain ⟨A, c, rfl, hl, hr⟩ := h
  obtain ⟨A', c', rfl, hl', hr'⟩ := h'
  have HR := Lib.hid hr
  have HR' := Lib.hid hr'
  clear hr hr'
  have HB0 := Lib.hid ((Blk.new w 28 #[.int .i64 (x.state : Int), .slice A x.out.length c, .int .i64 (x.steps : Int)]).alloc (.cells #[.int .i64 (y.state : Int), .slice A' y.out.length c', .int .i64 (y.steps : Int)] 28))
  have HB1 : Hid (Blk ((w.alloc (.cells #[.int .i64 (x.state : Int), .slice A x.out.length c, .int .i64 (x.steps : Int)] 28)).alloc (.cells #[.int .i64 (y.state : Int), .slice A' y.out.length c', .int .i64 (y.steps : Int)] 28)) (w.heap.size + 1) 28
      #[.int .i64 (y.state : Int), .slice A' y.out.length c', .int .i64 (y.steps : Int)]) := by
    have := Blk.new (w.alloc (.cells #[.int .i64 (x.state : Int), .slice A x.out.length c, .int .i64 (x.steps : Int)] 28)) 28 #[.int .i64 (y.state : Int), .slice A' y.out.length c', .int .i64 (y.steps : Int)]
    show Blk _ _ _ _
    simpa using this
  have HF : Hid (Fr w ((w.alloc (.cells #[.int .i64 (x.state : Int), .slice A x.out.length c, .int .i64 (x.steps : Int)] 28)).alloc (.cells #[.int .i64 (y.state : Int), .slice A' y.out.length c', .int .i64 (y.steps : Int)] 28))) := ((Kept.refl _ w).alloc _).alloc _
  by_cases h1 : x.state = y.state
  · by_cases h2 : x.steps = y.steps
    · by_cases h3 : x.out.length = y.out.length
      · obtain ⟨px, ix, ox, sx, tx⟩ := x
        obtain ⟨py, iy, oy, sy, ty⟩ := y
        simp only at h1 h2 h3
        subst h1; subst h2
        simp only at *
        have HE := Lib.hid (fun h => sh_end (x := ⟨px, ix, ox, sx, tx⟩) (y := ⟨py, iy, oy, sx, tx⟩) rfl rfl h3 h)
        have HN := Lib.hid (fun j hj => sh_no (x := ⟨px, ix, ox, sx, tx⟩) (y := ⟨py, iy, oy, sx, tx⟩) (j := j) hj)
        rw [← h3] at HB0 HB1 HF HR'
        rw [← h3]
        have H3 := Lib.hid h3
        clear h3 hl'
        go_enter Try.func17, Try.ntmps17
        go_wp2
        go_loopw [5] (fun i wr => ∃ j : Nat, i = .int .i64 j ∧ j ≤ ox.length ∧ Hid (∀ k, k < j → ox[k]? = oy[k]?) ∧ Hid (Blk wr w.heap.size 28 #[.int .i64 (tx : Int), .slice A ox.length c, .int .i64 (sx : Int)]) ∧
          Hid (Blk wr (w.heap.size + 1) 28 #[.int .i64 (tx : Int), .slice A' ox.length c', .int .i64 (sx : Int)]) ∧ Hid (Fr w wr)) (fun i _ => ox.length - (intOf i).toNat)
        case atStart => exact ⟨0, rfl, by omega, fun k hk => by omega, HB0, HB1, HF⟩
        case round =>
          obtain ⟨j, rfl, hj, heq, hb0, hb1, hfr⟩ := hrel
          have c0 := hb0.out.cell 1
          have c1 := hb1.out.cell 1
          simp only [List.getElem?_toArray, List.getElem?_cons_succ, List.getElem?_cons_zero] at c0 c1
          by_cases hlt : j < ox.length
          · have hlt' : j < oy.length := by have := H3.out; omega
            obtain ⟨b, off, rfl, _, hc⟩ := (HR.out.kept hfr.out (fun _ _ h => h)).2 (by omega)
            obtain ⟨b', off', rfl, _, hc'⟩ := (HR'.out.kept hfr.out (fun _ _ h => h)).2 (by omega)
            have hx : ox[j]? = some ox[j] := List.getElem?_eq_getElem hlt
            have hy : oy[j]? = some oy[j] := List.getElem?_eq_getElem hlt'
            have d0 := hc j (.int .u32 ox[j]) (by unfold u32s; rw [List.getElem?_map, hx]; rfl)
            have d1 := hc' j (.int .u32 oy[j]) (by unfold u32s; rw [List.getElem?_map, hy]; rfl)
            have hlj : (j : Int) < (ox.length : Int) := by omega
            have hj0 : (0 : Int) ≤ (j : Int) := Int.natCast_nonneg _
            clear hc hc'
            by_cases hxy : ox[j] = oy[j]
            · have hne : (ox[j] != oy[j]) = false := by simp [hxy]
              have HS : Hid (∀ k, k < j + 1 → ox[k]? = oy[k]?) := by
                show ∀ k, _
                intro k hk
                by_cases e : k = j
                · subst e; rw [hx, hy, hxy]
                · exact heq.out k (by omega)
              clear hxy hx hy heq
              generalize ox[j] = a at *
              generalize oy[j] = b at *
              go_wp2
              go_quiet (fail)
              go_wp2
              go_roundw
              case rel => exact ⟨j + 1, by go_num, by omega, HS, hb0, hb1, Lib.hid (hfr.out.drewN nq)⟩
              case measure => simp [intOf]; omega
            · have hne : (ox[j] != oy[j]) = true := by simp [hxy]
              have HS := Lib.hid (HN.out j (by rw [hx, hy]; simp [hxy]))
              clear hxy hx hy heq HN HE
              generalize ox[j] = a at *
              generalize oy[j] = b at *
              go_wp2
              go_quiet (fail)
              go_wp2
              go_ret
              exact ⟨ret_b HS.out.symm, hfr.out.drewN nq⟩
          · have HS := Lib.hid (HE.out (fun k hk => heq.out k (by omega)))
            clear heq HN HE
            go_wp2
            go_ret
            exact ⟨ret_b HS.out.symm, hfr.out⟩
      · have HE := Lib.hid (sh_ne (x := x) (y := y) (Or.inr (Or.inr h3)))
        rw [h1, h2] at HF ⊢
        obtain ⟨px, ix, ox, sx, tx⟩ := x
        obtain ⟨py, iy, oy, sy, ty⟩ := y
        simp only at *
        clear HB0 HB1 h1 h2
        have h3' : ¬ (ox.length : Int) = (oy.length : Int) := by omega
        clear h3
        go_enter Try.func17, Try.ntmps17
        go_wp2
        go_ret
        exact ⟨ret_b HE.out.symm, HF.out⟩
    · have HE := Lib.hid (sh_ne (x := x) (y := y) (Or.inr (Or.inl h2)))
      rw [h1] at HF ⊢
      obtain ⟨px, ix, ox, sx, tx⟩ := x
      obtain ⟨py, iy, oy, sy, ty⟩ := y
      simp only at *
      clear HB0 HB1 h1
      have h3' : ¬ (sx : Int) = (sy : Int) := by omega
      clear h2
      go_enter Try.func17, Try.ntmps17
      go_wp2
      go_ret
      exact ⟨ret_b HE.out.symm, HF.out⟩
  · have HE := Lib.hid (sh_ne (x := x) (y := y) (Or.inl h1))
    obtain ⟨px, ix, ox, sx, tx⟩ := x
    obtain ⟨py, iy, oy, sy, ty⟩ := y
    simp only at *
    clear HB0 HB1
    have h3' : ¬ (tx : Int) = (ty : Int) := by omega
    clear h1
    go_enter Try.func17, Try.ntmps17
    go_wp2
    go_ret
    exact ⟨ret_b HE.out.symm, HF.out⟩

theorem next_pc {i : In} {pc : Nat} {a : Int} (hc : i.op = 8 ∨ i.op = 9 → 0 ≤ i.c) : ((pcV i pc a : Nat) : Int) = if i.op = 8 ∨ i.op = 9 ∧ a ≠ 0 then i.c else (pc : Int) + 1 := by
  unfold pcV
  split
  · rename_i h
    have := hc (by rcases h with h | h; exact Or.inl h; exact Or.inr h.1)
    omega
  · omega

set_option maxHeartbeats 1000000 in
set_option maxRecDepth 100000 in
theorem refNext_any (R : Nat → Prop) (v : Value) (p : Pg) (k : Nat) (a : Int) (w : World) (h : RdPg w R v p) (hk : k < p.code.length) (hlen : p.code.length ≤ 40) (hc : (inAt p.code k).op = 8 ∨ (inAt p.code k).op = 9 → 0 ≤ (inAt p.code k).c ∧ (inAt p.code k).c ≤ 1000) :
    Calls Try.prog 46 #[v, .int .i64 (k : Int), .int .u64 a] w fun e w' => e = .returned (.tuple #[.int .i64 (pcV (inAt p.code k) k a : Nat), .int .i64 (stV p.code.length (inAt p.code k) k a : Nat)]) ∧ Fr w w' := by
  obtain ⟨vw, vc, rfl, ⟨A1, c1, rfl, hl1, hr1⟩, ⟨A, c, rfl, hl2, hr2, ho2⟩⟩ := h
  have hx : p.code[k]? = some (inAt p.code k) := by rw [inAt_get hk]; exact List.getElem?_eq_getElem hk
  obtain ⟨b, off, rfl, hbB, d0, d1, d2, d3, d4, d5⟩ := hr2.ins hx
  have hpc := next_pc (i := inAt p.code k) (pc := k) (a := a) (fun h => (hc h).1)
  have hst : stV p.code.length (inAt p.code k) k a = if (inAt p.code k).op = 10 then 1 else if (p.code.length : Int) ≤ ((pcV (inAt p.code k) k a : Nat) : Int) then 2 else 0 := by
    unfold stV
    split
    · rfl
    · by_cases hl : p.code.length ≤ pcV (inAt p.code k) k a
      · rw [if_pos hl, if_pos (by omega)]
      · rw [if_neg hl, if_neg (by omega)]
  clear hr1 hr2 ho2 hx hl1
  generalize stV p.code.length (inAt p.code k) k a = st at *
  generalize pcV (inAt p.code k) k a = pc at *
  generalize inAt p.code k = i at *
  obtain ⟨op, d, a1, b1, cc, n⟩ := i
  simp only at *
  have zb := cell_lt d0
  have hk1 : (k : Int) < (p.code.length : Int) := by omega
  have hk0 : (0 : Int) ≤ (k : Int) := Int.natCast_nonneg _
  have HF := Lib.hid (show Fr w ((w.alloc (.cells #[.slice A1 p.wide.length c1, .slice (some ⟨b, off, none⟩) p.code.length c] 25)).alloc (.cells #[.int .i64 op, .int .i64 d, .int .i64 a1, .int .i64 b1, .int .i64 cc, .int .u32 n] 45)) from ((Kept.refl _ w).alloc _).alloc _)
  unfold maxLen at hl2
  by_cases h10 : op = 10
  · subst h10
    rw [if_neg (by simp)] at hpc
    rw [if_pos rfl] at hst
    rw [hpc, hst]
    clear hpc hst hc
    go_enter Try.func46, Try.ntmps46
    go_wp2
    go_ret2
    exact ⟨rfl, HF.out⟩
  · have e10 : (op == 10) = false := by simpa using h10
    rw [if_neg h10] at hst
    by_cases h8 : op = 8
    · subst h8
      obtain ⟨c0, c9⟩ := hc (Or.inl rfl)
      rw [if_pos (Or.inl rfl)] at hpc
      rw [hpc] at hst ⊢
      rw [hst]
      clear hpc hst hc h10
      by_cases hl : (p.code.length : Int) ≤ cc
      · rw [if_pos hl]
        go_enter Try.func46, Try.ntmps46
        go_wp2
        go_ret2
        exact ⟨rfl, HF.out⟩
      · rw [if_neg hl]
        go_enter Try.func46, Try.ntmps46
        go_wp2
        go_ret2
        exact ⟨rfl, HF.out⟩
    · have e8 : (op == 8) = false := by simpa using h8
      by_cases h9 : op = 9
      · subst h9
        obtain ⟨c0, c9⟩ := hc (Or.inr rfl)
        by_cases ha : a = 0
        · subst ha
          rw [if_neg (by simp)] at hpc
          rw [hpc] at hst ⊢
          rw [hst]
          clear hpc hst hc h10 h8
          by_cases hl : (p.code.length : Int) ≤ (k : Int) + 1
          · rw [if_pos hl]
            go_enter Try.func46, Try.ntmps46
            go_wp2
            go_ret2
            exact ⟨rfl, HF.out⟩
          · rw [if_neg hl]
            go_enter Try.func46, Try.ntmps46
            go_wp2
            go_ret2
            exact ⟨rfl, HF.out⟩
        · have ea : (a != 0) = true := by simpa using ha
          rw [if_pos (Or.inr ⟨rfl, ha⟩)] at hpc
          rw [hpc] at hst ⊢
          rw [hst]
          clear hpc hst hc h10 h8 ha
          by_cases hl : (p.code.length : Int) ≤ cc
          · rw [if_pos hl]
            go_enter Try.func46, Try.ntmps46
            go_wp2
            go_ret2
            exact ⟨rfl, HF.out⟩
          · rw [if_neg hl]
            go_enter Try.func46, Try.ntmps46
            go_wp2
            go_ret2
            exact ⟨rfl, HF.out⟩
      · have e9 : (op == 9) = false := by simpa using h9
        rw [if_neg (by omega)] at hpc
        rw [hpc] at hst ⊢
        rw [hst]
        clear hpc hst hc h10 h8 h9
        by_cases hl : (p.code.length : Int) ≤ (k : Int) + 1
        · rw [if_pos hl]
          go_enter Try.func46, Try.ntmps46
          go_wp2
          go_ret2
          exact ⟨rfl, HF.out⟩
        · rw [if_neg hl]
          go_enter Try.func46, Try.ntmps46
          go_wp2
          go_ret2
          exact ⟨rfl, HF.out⟩
end Go.Proofs.Ytodmkjeankbieab

/- The walk of the reference of chapter 3: Play. -/
namespace Go.Proofs.Ytodmkjeankbieab
open Go.RowKit Go.Sort

theorem made_mkU (n : Nat) : madeCells #[.int .u64 0] n = mkU n (fun _ => 0) := by
  unfold mkU
  apply Array.ext_getElem?
  intro i
  unfold madeCells
  rcases Nat.lt_or_ge i n with h | h
  · simp [List.getElem?_range h, h, Nat.mod_one]
  · simp [List.getElem?_eq_none, h, Nat.not_lt.2 h]
theorem infoU64 : (Try.prog.info? 81).map (fun i => (i.zero, i.size, i.bytes)) = some (some (.int .u64 0), 1, 8) := by kernel_rfl
theorem run_make_u64s (n : Nat) (h : n ≤ 1000000) (w : World) : (Instr.makeSlice 90 (.int .i64 (n : Int)) (.int .i64 (n : Int))).run Try.prog w = .ok (.slice (some ⟨w.heap.size, 0, none⟩) n n) (w.alloc (.cells (mkU n fun _ => 0) 81)) := by
  rw [← made_mkU]
  exact run_make_row' 90 81 (.int .u64 0) 8 Try.underlying90 infoU64 rfl .i64 .i64 n (by omega) (by omega) w

theorem giveV_in {i : In} {a b x y : Int} (h : i.op ≠ 3) : giveV i a b x = giveV i a b y := by
  unfold giveV
  rw [if_neg h, if_neg h]

structure PlMem (w wr : World) (vw vc vo : Value) (W : Nat) (T : Int → Int) (out : List Int) (st sn : Nat) : Prop where
  bp : Blk wr w.heap.size 25 #[vw, vc]
  br : Blk wr (w.heap.size + 1) 28 #[.int .i64 0, .slice none 0 0, .int .i64 0]
  bs : Blk wr (w.heap.size + 2) 28 #[.int .i64 (st : Int), vo, .int .i64 (sn : Int)]
  bt : Blk wr (w.heap.size + 3) 81 (mkU W T)
  ow : wr.ownsRow w.heap.size 36 1 vo out.length (u32s out)
  fr : Fr w wr
theorem PlMem.keep {w wr w2 : World} {vw vc vo : Value} {W : Nat} {T : Int → Int} {out : List Int} {st sn : Nat} (h : PlMem w wr vw vc vo W T out st sn) (hk : Fr wr w2) : PlMem w w2 vw vc vo W T out st sn :=
  ⟨h.bp.kept hk (fun h => h), h.br.kept hk (fun h => h), h.bs.kept hk (fun h => h), h.bt.kept hk (fun h => h), own_kept h.ow hk (fun _ _ h => h), h.fr.trans hk⟩
theorem PlMem.app {w wr w2 : World} {vw vc vo v2 : Value} {W : Nat} {T : Int → Int} {out : List Int} {st sn : Nat} {a : Int} (h : PlMem w wr vw vc vo W T out st sn) (hk : Kept (fun k => vo.ownBlock = some k) wr w2)
    (ho : w2.ownsRow w.heap.size 36 1 v2 (out.length + 1) (u32s out ++ [.int .u32 a])) : PlMem w (w2.setCell ⟨w.heap.size + 2, 1, none⟩ v2) vw vc v2 W T (out ++ [a]) st sn := by
  have hb := h.bs.kept hk (own_blk_ne h.ow h.bs (by decide))
  have hK : Kept (fun k => k = w.heap.size + 2) w2 (w2.setCell ⟨w.heap.size + 2, 1, none⟩ v2) := (Kept.refl (fun k => k = w.heap.size + 2) w2).setCell (p := ⟨w.heap.size + 2, 1, none⟩) (fun _ => rfl) _
  refine ⟨(h.bp.kept hk (own_blk_ne h.ow h.bp (by decide))).kept hK (by omega), (h.br.kept hk (own_blk_ne h.ow h.br (by decide))).kept hK (by omega), hb.set_ 1 v2, (h.bt.kept hk (own_blk_ne h.ow h.bt (by decide))).kept hK (by omega), ?_, ?_⟩
  · have h2 := own_kept ho hK (fun k hk e => own_blk_ne ho hb (by decide) (e ▸ hk))
    rw [List.length_append, show u32s (out ++ [a]) = u32s out ++ [.int .u32 a] by simp [u32s]]
    exact h2
  · exact (h.fr.app h.ow hk).then hK (fun i hi e => by omega)
theorem PlMem.put {w wr : World} {vw vc vo : Value} {W : Nat} {T : Int → Int} {out : List Int} {st sn : Nat} (h : PlMem w wr vw vc vo W T out st sn) (d : Nat) (x : Int) : PlMem w (wr.setCell ⟨w.heap.size + 3, d, none⟩ (.int .u64 x)) vw vc vo W (upd T d x) out st sn := by
  have hK : Kept (fun k => k = w.heap.size + 3) wr (wr.setCell ⟨w.heap.size + 3, d, none⟩ (.int .u64 x)) := (Kept.refl (fun k => k = w.heap.size + 3) wr).setCell (p := ⟨w.heap.size + 3, d, none⟩) (fun _ => rfl) _
  exact ⟨h.bp.kept hK (by omega), h.br.kept hK (by omega), h.bs.kept hK (by omega), h.bt.uset d x, own_kept h.ow hK (fun k hk e => own_blk_ne h.ow h.bt (by decide) (e ▸ hk)), h.fr.then hK (fun i hi e => by omega)⟩
theorem PlMem.fin {w wr : World} {vw vc vo : Value} {W : Nat} {T : Int → Int} {out : List Int} {st sn : Nat} (h : PlMem w wr vw vc vo W T out st sn) (st' sn' : Nat) :
    PlMem w ((wr.setCell ⟨w.heap.size + 2, 0, none⟩ (.int .i64 (st' : Int))).setCell ⟨w.heap.size + 2, 2, none⟩ (.int .i64 (sn' : Int))) vw vc vo W T out st' sn' := by
  have hK : Kept (fun k => k = w.heap.size + 2) wr ((wr.setCell ⟨w.heap.size + 2, 0, none⟩ (.int .i64 (st' : Int))).setCell ⟨w.heap.size + 2, 2, none⟩ (.int .i64 (sn' : Int))) :=
    ((Kept.refl (fun k => k = w.heap.size + 2) wr).setCell (p := ⟨w.heap.size + 2, 0, none⟩) (fun _ => rfl) _).setCell (p := ⟨w.heap.size + 2, 2, none⟩) (fun _ => rfl) _
  exact ⟨h.bp.kept hK (by omega), h.br.kept hK (by omega), (h.bs.set_ 0 _).set_ 2 _, h.bt.kept hK (by omega), own_kept h.ow hK (fun k hk e => own_blk_ne h.ow h.bs (by decide) (e ▸ hk)), h.fr.then hK (fun i hi e => by omega)⟩

set_option maxHeartbeats 4000000 in
set_option maxRecDepth 100000 in
theorem refPlay_any (R : Nat → Prop) (v : Value) (p : Pg) (Ai : Option Addr) (ins : List Int) (ci n : Nat) (w : World) (h : RdPg w R v p) (hm : mayB p = true) (hl : ins.length ≤ 40) (hr : Reads w R 1 Ai ins.length (u32s ins)) (hi : ∀ n ∈ ins, 0 ≤ n ∧ n < 4294967296)
    (hn : n ≤ 3000) :
    Calls Try.prog 18 #[v, .slice Ai ins.length ci, .int .i64 (n : Int)] w fun e w' => ∃ v', e = .returned v' ∧ RdSh w' (fun b => w.heap.size ≤ b) v' (runV p ins n) ∧ Fr w w' := by
  have H := Lib.hid h
  obtain ⟨vw, vc, rfl, ⟨A1, c1, rfl, hl1, hr1⟩, ⟨A, c, rfl, hl2, hr2, ho2⟩⟩ := h
  have HC := Lib.hid hr2
  have HO := Lib.hid ho2
  have HINS := Lib.hid hr
  have HI := Lib.hid hi
  have HM := Lib.hid hm
  obtain ⟨l1, l2, l3, l4⟩ := mayB_len hm
  unfold maxLen at hl1 hl2
  clear hr1 hr2 ho2 hr hi hm
  have hmk := run_make_u64s p.wide.length (by omega)
  go_enter Try.func18, Try.ntmps18
  go_wp2
  have HP0 := Lib.hid (show PlMem w ((((w.alloc (.cells #[.slice A1 p.wide.length c1, .slice A p.code.length c] 25)).alloc (.cells #[.int .i64 0, .slice none 0 0, .int .i64 0] 28)).alloc (.cells #[.int .i64 0, .slice none 0 0, .int .i64 0] 28)).alloc (.cells (mkU p.wide.length fun _ => 0) 81))
    (.slice A1 p.wide.length c1) (.slice A p.code.length c) (.slice none 0 0) p.wide.length (fun _ => 0) [] 0 0 from by
    refine ⟨((Blk.new w _ _).alloc _).alloc _ |>.alloc _, ?_, ?_, ?_, ⟨rfl, Or.inl ⟨rfl, rfl⟩⟩, ((((Kept.refl _ w).alloc _).alloc _).alloc _).alloc _⟩
    · have := ((Blk.new (w.alloc (.cells #[.slice A1 p.wide.length c1, .slice A p.code.length c] 25)) 28 #[.int .i64 0, .slice none 0 0, .int .i64 0]).alloc (.cells #[.int .i64 0, .slice none 0 0, .int .i64 0] 28)).alloc (.cells (mkU p.wide.length fun _ => 0) 81)
      simpa using this
    · have := (Blk.new ((w.alloc (.cells #[.slice A1 p.wide.length c1, .slice A p.code.length c] 25)).alloc (.cells #[.int .i64 0, .slice none 0 0, .int .i64 0] 28)) 28 #[.int .i64 0, .slice none 0 0, .int .i64 0]).alloc (.cells (mkU p.wide.length fun _ => 0) 81)
      simpa using this
    · have := Blk.new (((w.alloc (.cells #[.slice A1 p.wide.length c1, .slice A p.code.length c] 25)).alloc (.cells #[.int .i64 0, .slice none 0 0, .int .i64 0] 28)).alloc (.cells #[.int .i64 0, .slice none 0 0, .int .i64 0] 28)) 81 (mkU p.wide.length fun _ => 0)
      simpa using this)
  go_loopw [9, 10] (fun at_ tk wr => ∃ (x : Sh × (Int → Int)) (k : Nat) (vo : Value), at_ = .int .i64 (x.1.pc : Int) ∧ tk = .int .i64 (k : Int) ∧ k ≤ ins.length ∧ Hid (x.1.ins = ins.drop k) ∧ Hid (At p.code (mTemps p) (sh0 ins, fun _ => 0) n x) ∧ Hid (Temps p x.2) ∧
    Hid (PlMem w wr (.slice A1 p.wide.length c1) (.slice A p.code.length c) vo p.wide.length x.2 x.1.out x.1.state x.1.steps)) (fun _ _ wr => n - (match wr.cell? ⟨w.heap.size + 2, 2, none⟩ with | some v => (intOf v).toNat | none => 0))
  case atStart => exact ⟨(sh0 ins, fun _ => 0), 0, .slice none 0 0, rfl, rfl, by omega, rfl, At.start _ ins l3, Temps.zero p, HP0⟩
  case round =>
    obtain ⟨x, k, vo, rfl, rfl, hk, hin, hat, hT, hP⟩ := hrel
    have HP := Lib.hid hP.out
    have bp0 := hP.out.bp.cell 0
    have bp1 := hP.out.bp.cell 1
    have s0 := hP.out.bs.cell 0
    have s1 := hP.out.bs.cell 1
    have s2 := hP.out.bs.cell 2
    have zp := hP.out.bp.lt
    have zs := hP.out.bs.lt
    have zt := hP.out.bt.lt
    have ys0 := hP.out.bs.frozen 0
    have ys1 := hP.out.bs.frozen 1
    have ys2 := hP.out.bs.frozen 2
    simp only [List.getElem?_toArray, List.getElem?_cons_succ, List.getElem?_cons_zero] at bp0 bp1 s0 s1 s2
    have hle := hat.out.le
    clear hP
    by_cases hgo : x.1.state = 0 ∧ x.1.steps < n
    · obtain ⟨hst, hs⟩ := hgo
      rw [hst] at s0
      have hpc := hat.out.st0 hst
      have hs0 : (x.1.steps : Int) < (n : Int) := by omega
      have hI := mayB_ins HM.out (inAt_mem hpc)
      obtain ⟨⟨ha0, ha1⟩, ⟨hb0, hb1⟩, ⟨hd0, hd1⟩, hc0⟩ := ins_fields hI l1
      have hok := insOk hI
      have hx : p.code[x.1.pc]? = some (inAt p.code x.1.pc) := by rw [inAt_get hpc]; exact List.getElem?_eq_getElem hpc
      have hn32 := (HO.out _ (inAt_mem hpc)).2.2.2.2.2
      have hcc := (HO.out _ (inAt_mem hpc)).2.2.2.2.1
      obtain ⟨b, off, rfl, hbB, d0, d1, d2, d3, d4, d5⟩ := (HC.out.kept HP.out.fr (fun _ _ h => h)).ins hx
      have h5 : (inAt p.code x.1.pc).op = 5 → x.2 (inAt p.code x.1.pc).a < 4294967296 ∧ x.2 (inAt p.code x.1.pc).b < 4294967296 := fun h => ⟨hT.out.nar _ (hok.w5 h).2.1, hT.out.nar _ (hok.w5 h).2.2⟩
      have HStep := Lib.hid (hat.out.step hst hs)
      have HT2 := Lib.hid (hT.out.step HM.out (fun i hi => (HO.out i hi).2.2.2.2.2) hpc (fun y hy => HI.out y (hat.out.ins y hy)))
      have hcB : (inAt p.code x.1.pc).op = 8 ∨ (inAt p.code x.1.pc).op = 9 → 0 ≤ (inAt p.code x.1.pc).c ∧ (inAt p.code x.1.pc).c ≤ 1000 := by
        intro h
        have := hok.c h
        omega
      have HN := Lib.hid (fun w2 (hf : Fr w w2) => refNext_any R _ p x.1.pc (x.2 (inAt p.code x.1.pc).a) w2 (H.out.kept hf (fun _ _ h => h)) hpc l4 hcB)
      have E2 : Hid ((mStep p.code (mTemps p) x).2 = if gvs (inAt p.code x.1.pc).op then upd x.2 (inAt p.code x.1.pc).d (giveV (inAt p.code x.1.pc) (x.2 (inAt p.code x.1.pc).a) (x.2 (inAt p.code x.1.pc).b) (x.1.ins.headD 0)) else x.2) := rfl
      have EI : Hid ((mStep p.code (mTemps p) x).1.ins = if (inAt p.code x.1.pc).op = 3 then x.1.ins.tail else x.1.ins) := rfl
      have EO : Hid ((mStep p.code (mTemps p) x).1.out = if (inAt p.code x.1.pc).op = 4 then x.1.out ++ [x.2 (inAt p.code x.1.pc).a % 4294967296] else x.1.out) := rfl
      have ES : Hid ((mStep p.code (mTemps p) x).1.state = stV p.code.length (inAt p.code x.1.pc) x.1.pc (x.2 (inAt p.code x.1.pc).a)) := rfl
      have EP : Hid ((mStep p.code (mTemps p) x).1.pc = pcV (inAt p.code x.1.pc) x.1.pc (x.2 (inAt p.code x.1.pc).a)) := rfl
      have EN : Hid ((mStep p.code (mTemps p) x).1.steps = x.1.steps + 1) := rfl
      have hk2 := hok.kn
      have hTa : 0 ≤ x.2 (inAt p.code x.1.pc).a ∧ x.2 (inAt p.code x.1.pc).a < 18446744073709551616 := ⟨hT.out.ge _, hT.out.lt _⟩
      have hTb : 0 ≤ x.2 (inAt p.code x.1.pc).b ∧ x.2 (inAt p.code x.1.pc).b < 18446744073709551616 := ⟨hT.out.ge _, hT.out.lt _⟩
      have houtl := hat.out.out rfl
      have hinr : ∀ y ∈ x.1.ins, 0 ≤ y ∧ y < 4294967296 := fun y hy => HI.out y (hat.out.ins y hy)
      have HINR := Lib.hid hinr
      clear hI hok hx hcB hcc hT hat hinr hst
      generalize mStep p.code (mTemps p) x = x' at *
      obtain ⟨⟨pc, insx, out, steps, state⟩, T⟩ := x
      simp only at *
      generalize pcV (inAt p.code pc) pc (T (inAt p.code pc).a) = pc' at *
      generalize stV p.code.length (inAt p.code pc) pc (T (inAt p.code pc).a) = st' at *
      generalize inAt p.code pc = i at *
      obtain ⟨op, d, a, b1, cc, ni⟩ := i
      simp only at *
      obtain ⟨an, rfl⟩ : ∃ an : Nat, a = (an : Int) := ⟨a.toNat, by omega⟩
      obtain ⟨bn, rfl⟩ : ∃ bn : Nat, b1 = (bn : Int) := ⟨b1.toNat, by omega⟩
      obtain ⟨dn, rfl⟩ : ∃ dn : Nat, d = (dn : Int) := ⟨d.toNat, by omega⟩
      have ta := HP.out.bt.ucell (t := an) (by omega)
      have tb := HP.out.bt.ucell (t := bn) (by omega)
      have zb := cell_lt d0
      have hpc0 : (0 : Int) ≤ (pc : Int) := Int.natCast_nonneg _
      have hpc1 : (pc : Int) < (p.code.length : Int) := by omega
      have HIB := Lib.hid (Blk.new wr 45 #[.int .i64 op, .int .i64 dn, .int .i64 an, .int .i64 bn, .int .i64 cc, .int .u32 ni])
      have HP2 := Lib.hid (HP.out.keep ((Kept.refl (fun _ => False) wr).alloc (.cells #[.int .i64 op, .int .i64 dn, .int .i64 an, .int .i64 bn, .int .i64 cc, .int .u32 ni] 45)))
      have HG2 := Lib.hid (fun w => refGives_any op w)
      have HH5 := Lib.hid h5
      have s2' := s2
      clear h5 HP0
      by_cases o3 : op = 3
      · subst o3
        rw [show gvs 3 = true from rfl] at HG2 E2
        rw [if_pos rfl] at E2 EI
        rw [if_neg (by decide)] at EO
        by_cases hkl : k < ins.length
        · have hx : ins[k]? = some ins[k] := List.getElem?_eq_getElem hkl
          obtain ⟨b7, o7, rfl, _, hc7⟩ := (HINS.out.kept HP2.out.fr (fun _ _ h => h)).2 (by omega)
          have c7 := hc7 k (.int .u32 ins[k]) (by unfold u32s; rw [List.getElem?_map, hx]; rfl)
          have hdr := hin.out
          rw [List.drop_eq_getElem_cons hkl] at hdr
          have hxr := HI.out ins[k] (List.getElem_mem hkl)
          have EI2 : Hid (insx.tail = ins.drop (k + 1)) := by show _ = _; rw [hdr]; rfl
          rw [show insx.headD 0 = ins[k] by rw [hdr]; rfl] at E2
          have HGv := Lib.hid (fun w => refGives3_any ⟨3, dn, an, bn, cc, ni⟩ (T an) (T bn) ins[k] w hk2 rfl hTa hTb HH5.out hn32 hxr)
          have hkl' : (k : Int) < (ins.length : Int) := by omega
          have hk0 : (0 : Int) ≤ (k : Int) := Int.natCast_nonneg _
          obtain ⟨x0, x1⟩ := hxr
          clear hc7 hx hdr
          generalize ins[k] = xi at *
          generalize giveV ⟨3, (dn : Int), (an : Int), (bn : Int), cc, ni⟩ (T an) (T bn) xi = gv at *
          go_wp2_with fail
          have e0 := HIB.out.cell 0
          have e1 := HIB.out.cell 1
          have e2 := HIB.out.cell 2
          have e3 := HIB.out.cell 3
          have e4 := HIB.out.cell 4
          have e5 := HIB.out.cell 5
          have bp0 := HP2.out.bp.cell 0
          have bp1 := HP2.out.bp.cell 1
          simp only [List.getElem?_toArray, List.getElem?_cons_succ, List.getElem?_cons_zero] at e0 e1 e2 e3 e4 e5 bp0 bp1
          have zi := HIB.out.lt
          have zp := HP2.out.bp.lt
          have zt := HP2.out.bt.lt
          go_wp2_with fail
          refine (HG2.out _).mono ?_
          rintro e w3 ⟨rfl, rfl⟩
          have ht0 := HP2.out.bt.ucell (t := dn) (by omega)
          have hty := HP2.out.bt.frozen dn
          have hd1' : (dn : Int) < (p.wide.length : Int) := by omega
          go_wp2
          go_region_with (first
            | (go_at_call 45; refine (HGv.out _).mono ?_; rintro e w4 ⟨rfl, f4⟩; have g1 := (f4.cell zi).trans e1; have HP3 := Lib.hid (HP2.out.keep ((Kept.refl (fun _ => False) _).drew.trans f4)); have t4 := HP3.out.bt.ucell (t := dn) (by omega); have t5 := HP3.out.bt.frozen dn; have z4 := HP3.out.bt.lt; have bq0 := HP3.out.bp.cell 0; have bq1 := HP3.out.bp.cell 1; simp only [List.getElem?_toArray, List.getElem?_cons_succ, List.getElem?_cons_zero] at bq0 bq1; have zp4 := HP3.out.bp.lt)
            | (go_at_call 46; refine (HN.out _ (HP3.out.put dn gv).fr).mono ?_; rintro e w5 ⟨rfl, f5⟩; have HP4 := Lib.hid ((HP3.out.put dn gv).keep f5); have s0 := HP4.out.bs.cell 0; have s2 := HP4.out.bs.cell 2; have ys0 := HP4.out.bs.frozen 0; have ys2 := HP4.out.bs.frozen 2; have zs := HP4.out.bs.lt; simp only [List.getElem?_toArray, List.getElem?_cons_succ, List.getElem?_cons_zero] at s0 s2))
          · have HP3 := Lib.hid (HP3.out.put dn gv)
            have bp0 := HP3.out.bp.cell 0
            have bp1 := HP3.out.bp.cell 1
            have zp := HP3.out.bp.lt
            simp only [List.getElem?_toArray, List.getElem?_cons_succ, List.getElem?_cons_zero] at bp0 bp1
            go_wp2_with fail
            refine (HN.out _ HP3.out.fr).mono ?_
            rintro e w4 ⟨rfl, f4⟩
            have HP4 := Lib.hid (HP3.out.keep f4)
            have s0 := HP4.out.bs.cell 0
            have s2 := HP4.out.bs.cell 2
            have ys0 := HP4.out.bs.frozen 0
            have ys2 := HP4.out.bs.frozen 2
            have zs := HP4.out.bs.lt
            simp only [List.getElem?_toArray, List.getElem?_cons_succ, List.getElem?_cons_zero] at s0 s2
            clear f4
            go_wp2
            have HP5 := Lib.hid (HP4.out.fin st' (steps + 1))
            go_roundw
            case rel =>
              refine ⟨x', k + 1, vo, by rw [EP.out], by go_num, by omega, ?_, HStep, HT2, ?_⟩
              · show _ = _
                rw [EI.out]
                exact EI2.out
              · show PlMem _ _ _ _ _ _ _ _ _ _
                rw [E2.out, EO.out, ES.out, EN.out]
                exact HP5.out
            case measure =>
              have m2 := HP5.out.bs.cell 2
              simp only [List.getElem?_toArray, List.getElem?_cons_succ, List.getElem?_cons_zero] at m2
              rw [show ((steps + 1 : Nat) : Int) = (steps : Int) + 1 from rfl] at m2
              rw [m2, s2']
              simp [intOf]
              omega
          · have HP3 := Lib.hid (HP3.out.put dn gv)
            have bp0 := HP3.out.bp.cell 0
            have bp1 := HP3.out.bp.cell 1
            have zp := HP3.out.bp.lt
            simp only [List.getElem?_toArray, List.getElem?_cons_succ, List.getElem?_cons_zero] at bp0 bp1
            go_wp2_with fail
            refine (HN.out _ HP3.out.fr).mono ?_
            rintro e w4 ⟨rfl, f4⟩
            have HP4 := Lib.hid (HP3.out.keep f4)
            have s0 := HP4.out.bs.cell 0
            have s2 := HP4.out.bs.cell 2
            have ys0 := HP4.out.bs.frozen 0
            have ys2 := HP4.out.bs.frozen 2
            have zs := HP4.out.bs.lt
            simp only [List.getElem?_toArray, List.getElem?_cons_succ, List.getElem?_cons_zero] at s0 s2
            clear f4
            go_wp2
            have HP5 := Lib.hid (HP4.out.fin st' (steps + 1))
            go_roundw
            case rel =>
              refine ⟨x', k + 1, vo, by rw [EP.out], by go_num, by omega, ?_, HStep, HT2, ?_⟩
              · show _ = _
                rw [EI.out]
                exact EI2.out
              · show PlMem _ _ _ _ _ _ _ _ _ _
                rw [E2.out, EO.out, ES.out, EN.out]
                exact HP5.out
            case measure =>
              have m2 := HP5.out.bs.cell 2
              simp only [List.getElem?_toArray, List.getElem?_cons_succ, List.getElem?_cons_zero] at m2
              rw [show ((steps + 1 : Nat) : Int) = (steps : Int) + 1 from rfl] at m2
              rw [m2, s2']
              simp [intOf]
              omega
          · have HP3 := Lib.hid (HP3.out.put dn gv)
            have bp0 := HP3.out.bp.cell 0
            have bp1 := HP3.out.bp.cell 1
            have zp := HP3.out.bp.lt
            simp only [List.getElem?_toArray, List.getElem?_cons_succ, List.getElem?_cons_zero] at bp0 bp1
            go_wp2_with fail
            refine (HN.out _ HP3.out.fr).mono ?_
            rintro e w4 ⟨rfl, f4⟩
            have HP4 := Lib.hid (HP3.out.keep f4)
            have s0 := HP4.out.bs.cell 0
            have s2 := HP4.out.bs.cell 2
            have ys0 := HP4.out.bs.frozen 0
            have ys2 := HP4.out.bs.frozen 2
            have zs := HP4.out.bs.lt
            simp only [List.getElem?_toArray, List.getElem?_cons_succ, List.getElem?_cons_zero] at s0 s2
            clear f4
            go_wp2
            have HP5 := Lib.hid (HP4.out.fin st' (steps + 1))
            go_roundw
            case rel =>
              refine ⟨x', k + 1, vo, by rw [EP.out], by go_num, by omega, ?_, HStep, HT2, ?_⟩
              · show _ = _
                rw [EI.out]
                exact EI2.out
              · show PlMem _ _ _ _ _ _ _ _ _ _
                rw [E2.out, EO.out, ES.out, EN.out]
                exact HP5.out
            case measure =>
              have m2 := HP5.out.bs.cell 2
              simp only [List.getElem?_toArray, List.getElem?_cons_succ, List.getElem?_cons_zero] at m2
              rw [show ((steps + 1 : Nat) : Int) = (steps : Int) + 1 from rfl] at m2
              rw [m2, s2']
              simp [intOf]
              omega
        · have hkl' : ¬ (k : Int) < (ins.length : Int) := by omega
          have hdr := hin.out
          rw [List.drop_eq_nil_of_le (by omega)] at hdr
          have EI2 : Hid (insx.tail = ins.drop k) := by show _ = _; rw [hdr, List.drop_eq_nil_of_le (by omega)]; rfl
          rw [show insx.headD 0 = 0 by rw [hdr]; rfl] at E2
          have HGv := Lib.hid (fun w => refGives3_any ⟨3, dn, an, bn, cc, ni⟩ (T an) (T bn) 0 w hk2 rfl hTa hTb HH5.out hn32 (by omega))
          generalize giveV ⟨3, (dn : Int), (an : Int), (bn : Int), cc, ni⟩ (T an) (T bn) 0 = gv at *
          go_wp2_with fail
          have e0 := HIB.out.cell 0
          have e1 := HIB.out.cell 1
          have e2 := HIB.out.cell 2
          have e3 := HIB.out.cell 3
          have e4 := HIB.out.cell 4
          have e5 := HIB.out.cell 5
          have bp0 := HP2.out.bp.cell 0
          have bp1 := HP2.out.bp.cell 1
          simp only [List.getElem?_toArray, List.getElem?_cons_succ, List.getElem?_cons_zero] at e0 e1 e2 e3 e4 e5 bp0 bp1
          have zi := HIB.out.lt
          have zp := HP2.out.bp.lt
          have zt := HP2.out.bt.lt
          go_wp2_with fail
          refine (HG2.out _).mono ?_
          rintro e w3 ⟨rfl, rfl⟩
          have ht0 := HP2.out.bt.ucell (t := dn) (by omega)
          have hty := HP2.out.bt.frozen dn
          have hd1' : (dn : Int) < (p.wide.length : Int) := by omega
          go_wp2
          go_region_with (first
            | (go_at_call 45; refine (HGv.out _).mono ?_; rintro e w4 ⟨rfl, f4⟩; have g1 := (f4.cell zi).trans e1; have HP3 := Lib.hid (HP2.out.keep ((Kept.refl (fun _ => False) _).drew.trans f4)); have t4 := HP3.out.bt.ucell (t := dn) (by omega); have t5 := HP3.out.bt.frozen dn; have z4 := HP3.out.bt.lt; have bq0 := HP3.out.bp.cell 0; have bq1 := HP3.out.bp.cell 1; simp only [List.getElem?_toArray, List.getElem?_cons_succ, List.getElem?_cons_zero] at bq0 bq1; have zp4 := HP3.out.bp.lt)
            | (go_at_call 46; refine (HN.out _ (HP3.out.put dn gv).fr).mono ?_; rintro e w5 ⟨rfl, f5⟩; have HP4 := Lib.hid ((HP3.out.put dn gv).keep f5); have s0 := HP4.out.bs.cell 0; have s2 := HP4.out.bs.cell 2; have ys0 := HP4.out.bs.frozen 0; have ys2 := HP4.out.bs.frozen 2; have zs := HP4.out.bs.lt; simp only [List.getElem?_toArray, List.getElem?_cons_succ, List.getElem?_cons_zero] at s0 s2))
          · have HP3 := Lib.hid (HP3.out.put dn gv)
            have bp0 := HP3.out.bp.cell 0
            have bp1 := HP3.out.bp.cell 1
            have zp := HP3.out.bp.lt
            simp only [List.getElem?_toArray, List.getElem?_cons_succ, List.getElem?_cons_zero] at bp0 bp1
            go_wp2_with fail
            refine (HN.out _ HP3.out.fr).mono ?_
            rintro e w4 ⟨rfl, f4⟩
            have HP4 := Lib.hid (HP3.out.keep f4)
            have s0 := HP4.out.bs.cell 0
            have s2 := HP4.out.bs.cell 2
            have ys0 := HP4.out.bs.frozen 0
            have ys2 := HP4.out.bs.frozen 2
            have zs := HP4.out.bs.lt
            simp only [List.getElem?_toArray, List.getElem?_cons_succ, List.getElem?_cons_zero] at s0 s2
            clear f4
            go_wp2
            have HP5 := Lib.hid (HP4.out.fin st' (steps + 1))
            go_roundw
            case rel =>
              refine ⟨x', k, vo, by rw [EP.out], by go_num, by omega, ?_, HStep, HT2, ?_⟩
              · show _ = _
                rw [EI.out]
                exact EI2.out
              · show PlMem _ _ _ _ _ _ _ _ _ _
                rw [E2.out, EO.out, ES.out, EN.out]
                exact HP5.out
            case measure =>
              have m2 := HP5.out.bs.cell 2
              simp only [List.getElem?_toArray, List.getElem?_cons_succ, List.getElem?_cons_zero] at m2
              rw [show ((steps + 1 : Nat) : Int) = (steps : Int) + 1 from rfl] at m2
              rw [m2, s2']
              simp [intOf]
              omega
          · have HP3 := Lib.hid (HP3.out.put dn gv)
            have bp0 := HP3.out.bp.cell 0
            have bp1 := HP3.out.bp.cell 1
            have zp := HP3.out.bp.lt
            simp only [List.getElem?_toArray, List.getElem?_cons_succ, List.getElem?_cons_zero] at bp0 bp1
            go_wp2_with fail
            refine (HN.out _ HP3.out.fr).mono ?_
            rintro e w4 ⟨rfl, f4⟩
            have HP4 := Lib.hid (HP3.out.keep f4)
            have s0 := HP4.out.bs.cell 0
            have s2 := HP4.out.bs.cell 2
            have ys0 := HP4.out.bs.frozen 0
            have ys2 := HP4.out.bs.frozen 2
            have zs := HP4.out.bs.lt
            simp only [List.getElem?_toArray, List.getElem?_cons_succ, List.getElem?_cons_zero] at s0 s2
            clear f4
            go_wp2
            have HP5 := Lib.hid (HP4.out.fin st' (steps + 1))
            go_roundw
            case rel =>
              refine ⟨x', k, vo, by rw [EP.out], by go_num, by omega, ?_, HStep, HT2, ?_⟩
              · show _ = _
                rw [EI.out]
                exact EI2.out
              · show PlMem _ _ _ _ _ _ _ _ _ _
                rw [E2.out, EO.out, ES.out, EN.out]
                exact HP5.out
            case measure =>
              have m2 := HP5.out.bs.cell 2
              simp only [List.getElem?_toArray, List.getElem?_cons_succ, List.getElem?_cons_zero] at m2
              rw [show ((steps + 1 : Nat) : Int) = (steps : Int) + 1 from rfl] at m2
              rw [m2, s2']
              simp [intOf]
              omega
          · have HP3 := Lib.hid (HP3.out.put dn gv)
            have bp0 := HP3.out.bp.cell 0
            have bp1 := HP3.out.bp.cell 1
            have zp := HP3.out.bp.lt
            simp only [List.getElem?_toArray, List.getElem?_cons_succ, List.getElem?_cons_zero] at bp0 bp1
            go_wp2_with fail
            refine (HN.out _ HP3.out.fr).mono ?_
            rintro e w4 ⟨rfl, f4⟩
            have HP4 := Lib.hid (HP3.out.keep f4)
            have s0 := HP4.out.bs.cell 0
            have s2 := HP4.out.bs.cell 2
            have ys0 := HP4.out.bs.frozen 0
            have ys2 := HP4.out.bs.frozen 2
            have zs := HP4.out.bs.lt
            simp only [List.getElem?_toArray, List.getElem?_cons_succ, List.getElem?_cons_zero] at s0 s2
            clear f4
            go_wp2
            have HP5 := Lib.hid (HP4.out.fin st' (steps + 1))
            go_roundw
            case rel =>
              refine ⟨x', k, vo, by rw [EP.out], by go_num, by omega, ?_, HStep, HT2, ?_⟩
              · show _ = _
                rw [EI.out]
                exact EI2.out
              · show PlMem _ _ _ _ _ _ _ _ _ _
                rw [E2.out, EO.out, ES.out, EN.out]
                exact HP5.out
            case measure =>
              have m2 := HP5.out.bs.cell 2
              simp only [List.getElem?_toArray, List.getElem?_cons_succ, List.getElem?_cons_zero] at m2
              rw [show ((steps + 1 : Nat) : Int) = (steps : Int) + 1 from rfl] at m2
              rw [m2, s2']
              simp [intOf]
              omega
      · have o3' : (op == 3) = false := by simpa using o3
        by_cases o4 : op = 4
        · subst o4
          rw [show gvs 4 = false from rfl] at HG2 E2
          rw [if_neg (by decide)] at E2 EI
          rw [if_pos rfl] at EO
          go_wp2_with (at_builtin
                       refine wpList_app (base := w.heap.size) _ rfl slU32 (.tmp 63) (.tmp 66) rfl vo _ _ rfl (World.ownsRow.alloc HP2.out.ow _) (fun _ => True) _ 1 1 _ rfl (Reads.lit' (by simp) trivial rfl) ?_ ?_ ?_ ?_ ?_
                       · simp [Value.oneCell']
                       · omega
                       · unfold maxLen; omega
                       · simp; omega
                       intro v9 w9 hown9 hk9 hat9
                       obtain ⟨A9, c9, rfl, _, _⟩ := own_reads hown9
                       have HP9 := HP2.out.keep ((Kept.refl (fun _ => False) _).alloc (.cells #[.int .u32 (T an % 4294967296)] 36))
                       have hb9 := HP9.bs.kept hk9 (own_blk_ne HP9.ow HP9.bs (by decide))
                       have p1 := hb9.cell 1
                       have x1 := hb9.frozen 1
                       simp only [List.getElem?_toArray, List.getElem?_cons_succ, List.getElem?_cons_zero] at p1
                       have z9 := hb9.lt
                       have hi9 := (HIB.out.alloc (.cells #[.int .u32 (T an % 4294967296)] 36)).kept hk9 (own_blk_ne HP2.out.ow HIB.out (by decide))
                       have i0 := hi9.cell 0
                       simp only [List.getElem?_toArray, List.getElem?_cons_succ, List.getElem?_cons_zero] at i0
                       have zi9 := hi9.lt
                       have hs9 : wr.heap.size ≠ w.heap.size + 2 := by omega)
          have HP2 := Lib.hid (HP9.app hk9 hown9)
          have HIB := Lib.hid (hi9.far (p := ⟨w.heap.size + 2, 1, none⟩) (by simp only; omega) (.slice A9 (out.length + 1) c9))
          clear hk9 hown9 hat9
          have e0 := HIB.out.cell 0
          have e1 := HIB.out.cell 1
          have e2 := HIB.out.cell 2
          have e3 := HIB.out.cell 3
          have e4 := HIB.out.cell 4
          have e5 := HIB.out.cell 5
          have bp0 := HP2.out.bp.cell 0
          have bp1 := HP2.out.bp.cell 1
          simp only [List.getElem?_toArray, List.getElem?_cons_succ, List.getElem?_cons_zero] at e0 e1 e2 e3 e4 e5 bp0 bp1
          have zi := HIB.out.lt
          have zp := HP2.out.bp.lt
          have zt := HP2.out.bt.lt
          go_wp2_with fail
          refine (HG2.out _).mono ?_
          rintro e w3 ⟨rfl, rfl⟩
          have HP3 := HP2
          have bp0 := HP3.out.bp.cell 0
          have bp1 := HP3.out.bp.cell 1
          have zp := HP3.out.bp.lt
          simp only [List.getElem?_toArray, List.getElem?_cons_succ, List.getElem?_cons_zero] at bp0 bp1
          go_wp2_with fail
          refine (HN.out _ HP3.out.fr).mono ?_
          rintro e w4 ⟨rfl, f4⟩
          have HP4 := Lib.hid (HP3.out.keep f4)
          have s0 := HP4.out.bs.cell 0
          have s2 := HP4.out.bs.cell 2
          have ys0 := HP4.out.bs.frozen 0
          have ys2 := HP4.out.bs.frozen 2
          have zs := HP4.out.bs.lt
          simp only [List.getElem?_toArray, List.getElem?_cons_succ, List.getElem?_cons_zero] at s0 s2
          clear f4
          go_wp2
          have HP5 := Lib.hid (HP4.out.fin st' (steps + 1))
          go_roundw
          case rel =>
            refine ⟨x', k, (.slice A9 (out.length + 1) c9), by rw [EP.out], by go_num, by omega, ?_, HStep, HT2, ?_⟩
            · show _ = _
              rw [EI.out]
              exact hin.out
            · show PlMem _ _ _ _ _ _ _ _ _ _
              rw [E2.out, EO.out, ES.out, EN.out]
              exact HP5.out
          case measure =>
            have m2 := HP5.out.bs.cell 2
            simp only [List.getElem?_toArray, List.getElem?_cons_succ, List.getElem?_cons_zero] at m2
            rw [show ((steps + 1 : Nat) : Int) = (steps : Int) + 1 from rfl] at m2
            rw [m2, s2']
            simp [intOf]
            omega
        · have o4' : (op == 4) = false := by simpa using o4
          have HGI := Lib.hid (giveV_in (i := ⟨op, dn, an, bn, cc, ni⟩) (a := T an) (b := T bn) (x := insx.headD 0) (y := 0) o3)
          cases hg : gvs op with
          | false =>
            rw [hg] at HG2 E2
            rw [if_neg (by decide)] at E2
            rw [if_neg o3] at EI
            rw [if_neg o4] at EO
            clear hg HGI o3 o4
            go_wp2_with fail
            have e0 := HIB.out.cell 0
            have e1 := HIB.out.cell 1
            have e2 := HIB.out.cell 2
            have e3 := HIB.out.cell 3
            have e4 := HIB.out.cell 4
            have e5 := HIB.out.cell 5
            have bp0 := HP2.out.bp.cell 0
            have bp1 := HP2.out.bp.cell 1
            simp only [List.getElem?_toArray, List.getElem?_cons_succ, List.getElem?_cons_zero] at e0 e1 e2 e3 e4 e5 bp0 bp1
            have zi := HIB.out.lt
            have zp := HP2.out.bp.lt
            have zt := HP2.out.bt.lt
            go_wp2_with fail
            refine (HG2.out _).mono ?_
            rintro e w3 ⟨rfl, rfl⟩
            have HP3 := HP2
            have bp0 := HP3.out.bp.cell 0
            have bp1 := HP3.out.bp.cell 1
            have zp := HP3.out.bp.lt
            simp only [List.getElem?_toArray, List.getElem?_cons_succ, List.getElem?_cons_zero] at bp0 bp1
            go_wp2_with fail
            refine (HN.out _ HP3.out.fr).mono ?_
            rintro e w4 ⟨rfl, f4⟩
            have HP4 := Lib.hid (HP3.out.keep f4)
            have s0 := HP4.out.bs.cell 0
            have s2 := HP4.out.bs.cell 2
            have ys0 := HP4.out.bs.frozen 0
            have ys2 := HP4.out.bs.frozen 2
            have zs := HP4.out.bs.lt
            simp only [List.getElem?_toArray, List.getElem?_cons_succ, List.getElem?_cons_zero] at s0 s2
            clear f4
            go_wp2
            have HP5 := Lib.hid (HP4.out.fin st' (steps + 1))
            go_roundw
            case rel =>
              refine ⟨x', k, vo, by rw [EP.out], by go_num, by omega, ?_, HStep, HT2, ?_⟩
              · show _ = _
                rw [EI.out]
                exact hin.out
              · show PlMem _ _ _ _ _ _ _ _ _ _
                rw [E2.out, EO.out, ES.out, EN.out]
                exact HP5.out
            case measure =>
              have m2 := HP5.out.bs.cell 2
              simp only [List.getElem?_toArray, List.getElem?_cons_succ, List.getElem?_cons_zero] at m2
              rw [show ((steps + 1 : Nat) : Int) = (steps : Int) + 1 from rfl] at m2
              rw [m2, s2']
              simp [intOf]
              omega
          | true =>
            have HGv := Lib.hid (fun w => refGives3_any ⟨op, dn, an, bn, cc, ni⟩ (T an) (T bn) 0 w hk2 hg hTa hTb HH5.out hn32 (by omega))
            rw [hg] at HG2 E2
            rw [if_pos rfl, HGI.out] at E2
            rw [if_neg o3] at EI
            rw [if_neg o4] at EO
            clear hg HGI o3 o4
            generalize giveV ⟨op, (dn : Int), (an : Int), (bn : Int), cc, ni⟩ (T an) (T bn) 0 = gv at *
            go_wp2_with fail
            have e0 := HIB.out.cell 0
            have e1 := HIB.out.cell 1
            have e2 := HIB.out.cell 2
            have e3 := HIB.out.cell 3
            have e4 := HIB.out.cell 4
            have e5 := HIB.out.cell 5
            have bp0 := HP2.out.bp.cell 0
            have bp1 := HP2.out.bp.cell 1
            simp only [List.getElem?_toArray, List.getElem?_cons_succ, List.getElem?_cons_zero] at e0 e1 e2 e3 e4 e5 bp0 bp1
            have zi := HIB.out.lt
            have zp := HP2.out.bp.lt
            have zt := HP2.out.bt.lt
            go_wp2_with fail
            refine (HG2.out _).mono ?_
            rintro e w3 ⟨rfl, rfl⟩
            have ht0 := HP2.out.bt.ucell (t := dn) (by omega)
            have hty := HP2.out.bt.frozen dn
            have hd1' : (dn : Int) < (p.wide.length : Int) := by omega
            go_wp2
            go_region_with (first
              | (go_at_call 45; refine (HGv.out _).mono ?_; rintro e w4 ⟨rfl, f4⟩; have g1 := (f4.cell zi).trans e1; have HP3 := Lib.hid (HP2.out.keep ((Kept.refl (fun _ => False) _).drew.trans f4)); have t4 := HP3.out.bt.ucell (t := dn) (by omega); have t5 := HP3.out.bt.frozen dn; have z4 := HP3.out.bt.lt; have bq0 := HP3.out.bp.cell 0; have bq1 := HP3.out.bp.cell 1; simp only [List.getElem?_toArray, List.getElem?_cons_succ, List.getElem?_cons_zero] at bq0 bq1; have zp4 := HP3.out.bp.lt)
              | (go_at_call 46; refine (HN.out _ (HP3.out.put dn gv).fr).mono ?_; rintro e w5 ⟨rfl, f5⟩; have HP4 := Lib.hid ((HP3.out.put dn gv).keep f5); have s0 := HP4.out.bs.cell 0; have s2 := HP4.out.bs.cell 2; have ys0 := HP4.out.bs.frozen 0; have ys2 := HP4.out.bs.frozen 2; have zs := HP4.out.bs.lt; simp only [List.getElem?_toArray, List.getElem?_cons_succ, List.getElem?_cons_zero] at s0 s2))
            · have HP3 := Lib.hid (HP3.out.put dn gv)
              have bp0 := HP3.out.bp.cell 0
              have bp1 := HP3.out.bp.cell 1
              have zp := HP3.out.bp.lt
              simp only [List.getElem?_toArray, List.getElem?_cons_succ, List.getElem?_cons_zero] at bp0 bp1
              go_wp2_with fail
              refine (HN.out _ HP3.out.fr).mono ?_
              rintro e w4 ⟨rfl, f4⟩
              have HP4 := Lib.hid (HP3.out.keep f4)
              have s0 := HP4.out.bs.cell 0
              have s2 := HP4.out.bs.cell 2
              have ys0 := HP4.out.bs.frozen 0
              have ys2 := HP4.out.bs.frozen 2
              have zs := HP4.out.bs.lt
              simp only [List.getElem?_toArray, List.getElem?_cons_succ, List.getElem?_cons_zero] at s0 s2
              clear f4
              go_wp2
              have HP5 := Lib.hid (HP4.out.fin st' (steps + 1))
              go_roundw
              case rel =>
                refine ⟨x', k, vo, by rw [EP.out], by go_num, by omega, ?_, HStep, HT2, ?_⟩
                · show _ = _
                  rw [EI.out]
                  exact hin.out
                · show PlMem _ _ _ _ _ _ _ _ _ _
                  rw [E2.out, EO.out, ES.out, EN.out]
                  exact HP5.out
              case measure =>
                have m2 := HP5.out.bs.cell 2
                simp only [List.getElem?_toArray, List.getElem?_cons_succ, List.getElem?_cons_zero] at m2
                rw [show ((steps + 1 : Nat) : Int) = (steps : Int) + 1 from rfl] at m2
                rw [m2, s2']
                simp [intOf]
                omega
            · have HP3 := Lib.hid (HP3.out.put dn gv)
              have bp0 := HP3.out.bp.cell 0
              have bp1 := HP3.out.bp.cell 1
              have zp := HP3.out.bp.lt
              simp only [List.getElem?_toArray, List.getElem?_cons_succ, List.getElem?_cons_zero] at bp0 bp1
              go_wp2_with fail
              refine (HN.out _ HP3.out.fr).mono ?_
              rintro e w4 ⟨rfl, f4⟩
              have HP4 := Lib.hid (HP3.out.keep f4)
              have s0 := HP4.out.bs.cell 0
              have s2 := HP4.out.bs.cell 2
              have ys0 := HP4.out.bs.frozen 0
              have ys2 := HP4.out.bs.frozen 2
              have zs := HP4.out.bs.lt
              simp only [List.getElem?_toArray, List.getElem?_cons_succ, List.getElem?_cons_zero] at s0 s2
              clear f4
              go_wp2
              have HP5 := Lib.hid (HP4.out.fin st' (steps + 1))
              go_roundw
              case rel =>
                refine ⟨x', k, vo, by rw [EP.out], by go_num, by omega, ?_, HStep, HT2, ?_⟩
                · show _ = _
                  rw [EI.out]
                  exact hin.out
                · show PlMem _ _ _ _ _ _ _ _ _ _
                  rw [E2.out, EO.out, ES.out, EN.out]
                  exact HP5.out
              case measure =>
                have m2 := HP5.out.bs.cell 2
                simp only [List.getElem?_toArray, List.getElem?_cons_succ, List.getElem?_cons_zero] at m2
                rw [show ((steps + 1 : Nat) : Int) = (steps : Int) + 1 from rfl] at m2
                rw [m2, s2']
                simp [intOf]
                omega
            · have HP3 := Lib.hid (HP3.out.put dn gv)
              have bp0 := HP3.out.bp.cell 0
              have bp1 := HP3.out.bp.cell 1
              have zp := HP3.out.bp.lt
              simp only [List.getElem?_toArray, List.getElem?_cons_succ, List.getElem?_cons_zero] at bp0 bp1
              go_wp2_with fail
              refine (HN.out _ HP3.out.fr).mono ?_
              rintro e w4 ⟨rfl, f4⟩
              have HP4 := Lib.hid (HP3.out.keep f4)
              have s0 := HP4.out.bs.cell 0
              have s2 := HP4.out.bs.cell 2
              have ys0 := HP4.out.bs.frozen 0
              have ys2 := HP4.out.bs.frozen 2
              have zs := HP4.out.bs.lt
              simp only [List.getElem?_toArray, List.getElem?_cons_succ, List.getElem?_cons_zero] at s0 s2
              clear f4
              go_wp2
              have HP5 := Lib.hid (HP4.out.fin st' (steps + 1))
              go_roundw
              case rel =>
                refine ⟨x', k, vo, by rw [EP.out], by go_num, by omega, ?_, HStep, HT2, ?_⟩
                · show _ = _
                  rw [EI.out]
                  exact hin.out
                · show PlMem _ _ _ _ _ _ _ _ _ _
                  rw [E2.out, EO.out, ES.out, EN.out]
                  exact HP5.out
              case measure =>
                have m2 := HP5.out.bs.cell 2
                simp only [List.getElem?_toArray, List.getElem?_cons_succ, List.getElem?_cons_zero] at m2
                rw [show ((steps + 1 : Nat) : Int) = (steps : Int) + 1 from rfl] at m2
                rw [m2, s2']
                simp [intOf]
                omega
    · have HE := Lib.hid (hat.out.stop (by
        by_cases h : x.1.steps < n
        · exact Or.inl fun h2 => hgo ⟨h2, h⟩
        · exact Or.inr h))
      have houtl := hat.out.out rfl
      have r0 := HP.out.br.cell 0
      have r1 := HP.out.br.cell 1
      have r2 := HP.out.br.cell 2
      have yr0 := HP.out.br.frozen 0
      have yr1 := HP.out.br.frozen 1
      have yr2 := HP.out.br.frozen 2
      have zr := HP.out.br.lt
      simp only [List.getElem?_toArray, List.getElem?_cons_succ, List.getElem?_cons_zero] at r0 r1 r2
      obtain ⟨A9, c9, rfl, _, hr9⟩ := own_reads HP.out.ow
      have HR9 := Lib.hid hr9
      have HE2 : Hid (runV p ins n = x.1) := by
        show _ = _
        have := HE.out
        unfold runV
        rw [← this]
      have hsn : ((x.1.steps : Nat) : Int) < (n : Int) ∨ ¬ ((x.1.steps : Nat) : Int) < (n : Int) := Decidable.em _
      have hK : ∀ (W1 : World) (a b c : Value), Kept (fun b => b = w.heap.size + 1) W1 (((W1.setCell ⟨w.heap.size + 1, 0, none⟩ a).setCell ⟨w.heap.size + 1, 1, none⟩ b).setCell ⟨w.heap.size + 1, 2, none⟩ c) := fun W1 a b c =>
        (((Kept.refl (fun b => b = w.heap.size + 1) W1).setCell (p := ⟨w.heap.size + 1, 0, none⟩) (fun _ => rfl) _).setCell (p := ⟨w.heap.size + 1, 1, none⟩) (fun _ => rfl) _).setCell (p := ⟨w.heap.size + 1, 2, none⟩) (fun _ => rfl) _
      have HK := Lib.hid hK
      clear hr9 HE hin hat hT hK HP0 bp0 bp1
      rcases hsn with hsn | hsn
      · have hz : ((x.1.state : Int) == 0) = false := by
          rw [beq_eq_false_iff_ne]
          intro h0
          exact hgo ⟨by omega, by omega⟩
        clear hgo
        go_wp2
        refine bodyPost_ret (v := .agg #[.int .i64 (x.1.state : Int), .slice A9 x.1.out.length c9, .int .i64 (x.1.steps : Int)]) ?_ rfl ?_
        · simp [results, Try.results18, go_sem, r0, r1, r2]
        · exact ⟨_, rfl, by rw [HE2.out]; exact ⟨A9, c9, rfl, by omega, (HR9.out.kept (HK.out _ _ _ _) (fun b hb e => own_blk_ne HP.out.ow HP.out.br (by decide) (e ▸ hb.2))).more (fun b hb => hb.1)⟩, HP.out.fr.then (HK.out _ _ _ _) (fun i hi e => by omega)⟩
      · clear hgo
        go_wp2
        refine bodyPost_ret (v := .agg #[.int .i64 (x.1.state : Int), .slice A9 x.1.out.length c9, .int .i64 (x.1.steps : Int)]) ?_ rfl ?_
        · simp [results, Try.results18, go_sem, r0, r1, r2]
        · exact ⟨_, rfl, by rw [HE2.out]; exact ⟨A9, c9, rfl, by omega, (HR9.out.kept (HK.out _ _ _ _) (fun b hb e => own_blk_ne HP.out.ow HP.out.br (by decide) (e ▸ hb.2))).more (fun b hb => hb.1)⟩, HP.out.fr.then (HK.out _ _ _ _) (fun i hi e => by omega)⟩
end Go.Proofs.Ytodmkjeankbieab
