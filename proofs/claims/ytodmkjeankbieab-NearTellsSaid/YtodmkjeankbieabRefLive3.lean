/- The walks of the reference's Of and Same, of chapter 4. -/
import Derived.Test.YtodmkjeankbieabRefLive2
namespace Go.Proofs.Ytodmkjeankbieab
open Go.RowKit Go.Sort

theorem slBools : SlTy Try.prog 38 22 1 24 := SlTy.mk' (z := .slice none 0 0) Try.underlying38 (by kernel_rfl) rfl (by decide)

/-- rows of truths that the call has made, one behind the other -/
structure RowsOwn (w wr : World) (v : Value) (W k : Nat) (f : Nat → Nat → Bool) (vs : List Value) : Prop where
  ow : wr.ownsRow w.heap.size 22 1 v k vs
  row : ∀ j, j < k → ∃ g, vs[j]? = some (.slice (some ⟨g, 0, none⟩) W W) ∧ w.heap.size ≤ g ∧ Blk wr g 4 (mkB W (f j))
theorem RowsOwn.nil (w wr : World) (W : Nat) (f : Nat → Nat → Bool) : RowsOwn w wr (.slice none 0 0) W 0 f [] := ⟨⟨rfl, Or.inl ⟨rfl, rfl⟩⟩, fun j hj => by omega⟩
theorem RowsOwn.len {w wr : World} {v : Value} {W k : Nat} {f : Nat → Nat → Bool} {vs : List Value} (h : RowsOwn w wr v W k f vs) : vs.length = k := by have := h.ow.1; omega
theorem RowsOwn.kept {w wr w2 : World} {S : Nat → Prop} {v : Value} {W k : Nat} {f : Nat → Nat → Bool} {vs : List Value} (h : RowsOwn w wr v W k f vs) (hk : Kept S wr w2) (hs : ∀ b, b < wr.heap.size → ¬ S b) : RowsOwn w w2 v W k f vs :=
  ⟨own_kept h.ow hk (fun g hg => hs g (own_lt h.ow hg).2), fun j hj => let ⟨g, h1, h2, h3⟩ := h.row j hj; ⟨g, h1, h2, h3.kept hk (hs g h3.lt)⟩⟩
/-- a row more: behind the append -/
theorem RowsOwn.snoc {w wr w2 : World} {v v1 : Value} {W k g : Nat} {f : Nat → Nat → Bool} {vs : List Value} {o : Obj} (h : RowsOwn w wr v W k f vs) (hg : w.heap.size ≤ g) (hb : Blk wr g 4 (mkB W (f k)))
    (hown : w2.ownsRow w.heap.size 22 1 v1 (k + 1) (vs ++ #[Value.slice (some ⟨g, 0, none⟩) W W].toList)) (hk : Kept (fun b => v.ownBlock = some b) (wr.alloc o) w2) :
    RowsOwn w w2 v1 W (k + 1) f (vs ++ [.slice (some ⟨g, 0, none⟩) W W]) := by
  refine ⟨hown, fun j hj => ?_⟩
  have hl := h.len
  by_cases e : j = k
  · subst e
    exact ⟨g, by rw [List.getElem?_append_right (by omega)]; simp [hl], hg, (hb.alloc o).kept hk (own_blk_ne h.ow hb (by decide))⟩
  · obtain ⟨g', h1, h2, h3⟩ := h.row j (by omega)
    exact ⟨g', by rw [List.getElem?_append_left (by omega)]; exact h1, h2, (h3.alloc o).kept hk (own_blk_ne h.ow h3 (by decide))⟩
theorem RowsOwn.rdm {w wr : World} {v : Value} {W k : Nat} {f : Nat → Nat → Bool} {vs : List Value} (h : RowsOwn w wr v W k f vs) (hW : W ≤ 100) (hk : k ≤ 100) : RdM wr (fun b => w.heap.size ≤ b) v (matL k W f) := by
  have hm : (matL k W f).length = k := by unfold matL; simp
  obtain ⟨A, c, hv, _, hr⟩ := own_reads h.ow
  refine ⟨A, c, vs, by rw [hm]; exact hv, by rw [hm]; unfold maxLen; omega, by rw [hm]; exact hr.more (fun b hb => hb.1), ?_⟩
  intro j r hj
  have hjk : j < k := by rw [← hm]; exact (List.getElem?_eq_some_iff.1 hj).1
  rw [matL_at hjk] at hj
  simp at hj
  subst hj
  obtain ⟨g, h1, h2, h3⟩ := h.row j hjk
  exact ⟨_, h1, RdBo.of_blk h3 (by omega) (by unfold maxLen; omega)⟩

theorem matL_congr {L W : Nat} {f g : Nat → Nat → Bool} (h : ∀ k t, k < L → t < W → f k t = g k t) : matL L W f = matL L W g := by
  unfold matL
  apply List.map_congr_left
  intro k hk
  apply List.map_congr_left
  intro t ht
  exact h k t (List.mem_range.1 hk) (List.mem_range.1 ht)
theorem needM_matL (p : Pg) : needM p = matL p.code.length p.wide.length (needB p.code) := (needM_eq (fun _ _ _ _ => rfl)).symm

/-- a row, its first t -/
def rowTo (f : Nat → Bool) (t s : Nat) : Bool := decide (s < t) && f s
theorem rowTo_s {f : Nat → Bool} {t s : Nat} : (if s = t then f t else rowTo f t s) = rowTo f (t + 1) s := by
  unfold rowTo
  by_cases h : s = t
  · subst h; rw [if_pos rfl]; simp
  · rw [if_neg h]
    have : decide (s < t) = decide (s < t + 1) := by rw [decide_eq_decide]; omega
    rw [this]

set_option maxHeartbeats 2000000 in
set_option maxRecDepth 100000 in
theorem refLiveOf_any (R : Nat → Prop) (v : Value) (p : Pg) (w : World) (h : RdPg w R v p) (hmay : mayB p = true) :
    Calls Try.prog 50 #[v] w fun e w' => ∃ v, e = .returned v ∧ RdM w' (fun b => w.heap.size ≤ b) v (needM p) ∧ Fr w w' := by
  have H := Lib.hid h
  obtain ⟨vw, vc, rfl, ⟨A, c, rfl, hl, hr⟩, ⟨A', c', rfl, hl', hr', ho'⟩⟩ := h
  clear hr hr' ho' hl hl'
  obtain ⟨l1, l2, l3, l4⟩ := mayB_len hmay
  have hmk := run_make_bools p.wide.length (by omega)
  have HN := Lib.hid (fun w2 (hf : Fr w w2) at_ (ha : at_ < p.code.length) t (ht : t < p.wide.length) => refNeeded_any R _ p at_ t w2 (H.out.kept hf (fun _ _ h => h)) hmay ha ht)
  have HMat := Lib.hid (needM_matL p)
  clear hmay
  go_enter Try.func50, Try.ntmps50
  go_wp2
  go_loopw [3, 4] (fun v i wr => ∃ (k : Nat) (vs : List Value), k ≤ p.code.length ∧ i = .int .i64 k ∧ Hid (RowsOwn w wr v p.wide.length k (needB p.code) vs) ∧ Hid (Blk wr w.heap.size 25 #[.slice A p.wide.length c, .slice A' p.code.length c'] ∧ Fr w wr)) (fun _ i _ => p.code.length - (intOf i).toNat)
  case atStart => exact ⟨0, [], Nat.zero_le _, rfl, RowsOwn.nil _ _ _ _, ⟨Blk.new w _ _, (Kept.refl _ w).alloc _⟩⟩
  case round =>
    obtain ⟨k, vs, hk, rfl, hro, hb⟩ := hrel
    have q0 := hb.out.1.cell 0
    have q1 := hb.out.1.cell 1
    simp only [List.getElem?_toArray, List.getElem?_cons_succ, List.getElem?_cons_zero] at q0 q1
    have z0 := hb.out.1.lt
    by_cases hlt : k < p.code.length
    · obtain ⟨wB, rfl⟩ : ∃ wB : World, wB = wr := ⟨_, rfl⟩
      have HB0 : Hid (Blk (wB.alloc (.cells (mkB p.wide.length fun _ => false) 4)) wB.heap.size 4 (mkB p.wide.length (rowTo (needB p.code k) 0))) := by
        have := Blk.new wB 4 (mkB p.wide.length fun _ => false)
        rwa [mkB_congr (g := rowTo (needB p.code k) 0) (fun t _ => by simp [rowTo])] at this
      go_wp2
      go_loopw [6] (fun i wr => ∃ t : Nat, t ≤ p.wide.length ∧ i = .int .i64 t ∧ Hid (Blk wr wB.heap.size 4 (mkB p.wide.length (rowTo (needB p.code k) t)) ∧ Fr wB wr)) (fun i _ => p.wide.length - (intOf i).toNat)
      case atStart => exact ⟨0, Nat.zero_le _, rfl, ⟨HB0.out, (Kept.refl _ wB).alloc _⟩⟩
      case round =>
        obtain ⟨t, ht, rfl, hx⟩ := hrel
        clear HB0 q0 q1
        have HBp := Lib.hid (hb.out.1.kept hx.out.2 (fun h => h))
        have q0 := HBp.out.cell 0
        have q1 := HBp.out.cell 1
        simp only [List.getElem?_toArray, List.getElem?_cons_succ, List.getElem?_cons_zero] at q0 q1
        have z1 := HBp.out.lt
        have z2 := hx.out.1.lt
        by_cases htl : t < p.wide.length
        · have HF := Lib.hid (hb.out.2.trans hx.out.2)
          go_wp2_with fail
          refine (HN.out _ HF.out k hlt t htl).mono ?_
          rintro e w2 ⟨rfl, f2⟩
          have b2 := hx.out.1.kept f2 (fun h => h)
          have y0 := b2.bcell htl
          have y1 := b2.frozen t
          have z3 := b2.lt
          have HX : Hid (Blk (w2.setCell ⟨wB.heap.size, t, none⟩ (.bool (needB p.code k t))) wB.heap.size 4 (mkB p.wide.length (rowTo (needB p.code k) (t + 1))) ∧ Fr wB (w2.setCell ⟨wB.heap.size, t, none⟩ (.bool (needB p.code k t)))) := by
            refine ⟨?_, (hx.out.2.trans f2).setCell (p := ⟨wB.heap.size, t, none⟩) (fun h => by simp at h) _⟩
            have := b2.bset t (needB p.code k t)
            rwa [mkB_congr (fun s _ => rowTo_s)] at this
          clear b2 f2
          go_wp2
          go_roundw
          case rel => exact ⟨t + 1, by omega, by go_num, HX⟩
          case measure => simp [intOf]; omega
        · obtain rfl : t = p.wide.length := by omega
          have HRo := Lib.hid (hro.out.kept hx.out.2 (fun _ _ h => h))
          have HRow := Lib.hid (show Blk wr wB.heap.size 4 (mkB p.wide.length (needB p.code k)) from by
            have := hx.out.1
            rwa [mkB_congr (g := needB p.code k) (fun s hs => by simp [rowTo, hs])] at this)
          have HFr := Lib.hid (hb.out.2.trans hx.out.2)
          have hvl := hro.out.len
          go_wp2_with (at_builtin
                       refine wpList_app (base := w.heap.size) _ rfl slBools (.tmp 31) (.tmp 33) rfl u3 _ _ rfl (World.ownsRow.alloc HRo.out.ow _) (fun _ => True) _ 1 1 _ rfl (Reads.lit' (by simp) trivial rfl) ?_ ?_ ?_ ?_ ?_
                       · simp [Value.oneCell']
                       · omega
                       · unfold maxLen; omega
                       · simp; omega
                       intro v9 w9 hown9 hk9 hat9)
          have HS9 := Lib.hid (HRo.out.snoc (g := wB.heap.size) (by omega) HRow.out (by simpa using hown9) hk9)
          have HB9 := Lib.hid (show Blk w9 w.heap.size 25 #[.slice A p.wide.length c, .slice A' p.code.length c'] ∧ Fr w w9 from
            ⟨(HBp.out.alloc _).kept hk9 (own_blk_ne HRo.out.ow HBp.out (by decide)), (HFr.out.alloc _).app (World.ownsRow.alloc HRo.out.ow _) hk9⟩)
          clear hown9 hk9 hat9 hvl
          go_roundw
          case rel => exact ⟨k + 1, _, by omega, by go_num, HS9, HB9⟩
          case measure => simp [intOf]; omega
    · obtain rfl : k = p.code.length := by omega
      have HR := Lib.hid (hro.out.rdm (by omega) (by omega))
      rw [← HMat.out] at HR
      go_wp2
      go_ret
      exact ⟨_, rfl, HR.out, hb.out.2⟩

theorem bne_self {n : Nat} : ((n : Int) != (n : Int)) = false := by simp
set_option maxHeartbeats 2000000 in
set_option maxRecDepth 100000 in
/-- two that read as one matrix are the same -/
theorem refLiveSame_any (R R' : Nat → Prop) (v v' : Value) (M : List (List Bool)) (w : World) (h : RdM w R v M) (h' : RdM w R' v' M) :
    Calls Try.prog 21 #[v, v'] w fun e w' => e = .returned (.bool true) ∧ Fr w w' := by
  obtain ⟨A, c, rfl⟩ := h.val
  obtain ⟨A', c', rfl⟩ := h'.val
  have H := Lib.hid h
  have H' := Lib.hid h'
  have hl : M.length ≤ 9223372036854775807 := by obtain ⟨_, _, _, _, hl, _⟩ := h; unfold maxLen at hl; omega
  clear h h'
  go_enter Try.func21, Try.ntmps21
  go_wp2
  go_loopw [5] (fun i wr => ∃ k : Nat, k ≤ M.length ∧ i = .int .i64 k ∧ Hid (Fr w wr)) (fun i _ => M.length - (intOf i).toNat)
  case atStart => exact ⟨0, Nat.zero_le _, rfl, Kept.refl _ w⟩
  case round =>
    obtain ⟨k, hk, rfl, hf⟩ := hrel
    by_cases hlt : k < M.length
    · have hx : M[k]? = some M[k] := List.getElem?_eq_getElem hlt
      obtain ⟨b, o, cb, u, hv, _, hb, r0, hu⟩ := (H.out.kept hf.out (fun _ _ h => h)).row hx
      obtain ⟨b', o', cb', u', hv', _, hb', r0', hu'⟩ := (H'.out.kept hf.out (fun _ _ h => h)).row hx
      simp only [Value.slice.injEq] at hv hv'
      obtain ⟨rfl, _, rfl⟩ := hv
      obtain ⟨rfl, _, rfl⟩ := hv'
      clear hx
      generalize M[k] = row at *
      obtain ⟨Au, cu, rfl⟩ := hu.val
      obtain ⟨Au', cu', rfl⟩ := hu'.val
      have hrl : row.length ≤ 9223372036854775807 := by obtain ⟨_, _, _, hl, _⟩ := hu; unfold maxLen at hl; omega
      have HU := Lib.hid hu
      have HU' := Lib.hid hu'
      clear hu hu'
      have hk0 : (0 : Int) ≤ (k : Int) := Int.natCast_nonneg _
      have hk1 : (k : Int) < (M.length : Int) := by omega
      obtain ⟨wB, rfl⟩ : ∃ wB : World, wB = wr := ⟨_, rfl⟩
      go_wp2
      go_quiet (fail)
      have F0 := Lib.hid (show Fr wB (wB.drewN nq) from (Kept.refl _ wB).drewN nq)
      go_wp2
      go_loopw [6] (fun i wr => ∃ t : Nat, t ≤ row.length ∧ i = .int .i64 t ∧ Hid (Fr wB wr)) (fun i _ => row.length - (intOf i).toNat)
      case atStart => exact ⟨0, Nat.zero_le _, rfl, F0⟩
      case round =>
        obtain ⟨t, ht, rfl, hf2⟩ := hrel
        have s0 := (hf2.out.cell hb).trans r0
        have s0' := (hf2.out.cell hb').trans r0'
        have hbb := cell_lt s0
        have hbb' := cell_lt s0'
        by_cases htl : t < row.length
        · have hx : row[t]? = some row[t] := List.getElem?_eq_getElem htl
          obtain ⟨d, od, cd, hv, _, hd, e0⟩ := (HU.out.kept hf2.out (fun _ _ h => h)).at_ hx
          obtain ⟨d', od', cd', hv', _, hd', e0'⟩ := (HU'.out.kept hf2.out (fun _ _ h => h)).at_ hx
          simp only [Value.slice.injEq] at hv hv'
          obtain ⟨rfl, _, rfl⟩ := hv
          obtain ⟨rfl, _, rfl⟩ := hv'
          clear hx
          have ht0 : (0 : Int) ≤ (t : Int) := Int.natCast_nonneg _
          have ht1 : (t : Int) < (row.length : Int) := by omega
          generalize row[t] = y at *
          cases y
          all_goals
            go_wp2
            go_quiet (fail)
            go_wp2
            go_roundw
            case rel => exact ⟨t + 1, by omega, by go_num, hf2.out.drewN _⟩
            case measure => simp [intOf]; omega
        · obtain rfl : t = row.length := by omega
          go_wp2
          go_roundw
          case rel => exact ⟨k + 1, by omega, by go_num, hf.out.trans hf2.out⟩
          case measure => simp [intOf]; omega
    · obtain rfl : k = M.length := by omega
      go_wp2
      go_ret
      exact ⟨rfl, hf.out⟩
end Go.Proofs.Ytodmkjeankbieab
