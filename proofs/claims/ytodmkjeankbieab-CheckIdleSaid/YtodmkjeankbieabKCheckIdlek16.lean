/- RefSto: texts of this claim, packed into one file. -/
import Derived.Test.YtodmkjeankbieabKCheckIdlek15
import Derived.Test.YtodmkjeankbieabKCheckIdlek1
import Derived.Deep.RegionHeld3
/- The walks of the reference's store, of chapter 7: get, put, moves. -/
namespace Go.Proofs.Ytodmkjeankbieab
open Go.RowKit Go.Sort

/-- the cells of n single registers -/
def mkV (n : Nat) (f : Int → Int) : Array Value := ((List.range n).map fun (t : Nat) => Value.int .u32 (f (t : Int))).toArray
theorem mkV_at {n : Nat} {f : Int → Int} {t : Nat} (h : t < n) : (mkV n f)[t]? = some (.int .u32 (f t)) := by
  unfold mkV
  simp [List.getElem?_range h]
theorem mkV_set {n : Nat} {f : Int → Int} {t : Nat} {x : Int} : (mkV n f).setIfInBounds t (.int .u32 x) = mkV n (upd f t x) := by
  unfold mkV upd
  rw [List.setIfInBounds_toArray]
  congr 1
  apply List.ext_getElem
  · simp
  · intro i h1 h2
    simp at h1
    rw [List.getElem_set]
    by_cases h : t = i
    · subst h; simp
    · rw [if_neg h]
      simp
      intro e; exact absurd (by omega) h
theorem Blk.vcell {w : World} {g : Nat} {e : TypeId} {n : Nat} {f : Int → Int} (h : Blk w g e (mkV n f)) {t : Nat} (ht : t < n) : w.cell? ⟨g, t, none⟩ = some (.int .u32 (f t)) := by
  rw [h.cell, mkV_at ht]
theorem Blk.vset {w : World} {g : Nat} {e : TypeId} {n : Nat} {f : Int → Int} (h : Blk w g e (mkV n f)) (t : Nat) (x : Int) : Blk (w.setCell ⟨g, t, none⟩ (.int .u32 x)) g e (mkV n (upd f t x)) := by
  have := h.set_ t (.int .u32 x)
  rwa [mkV_set] at this

/-- a store in memory -/
structure RSto (w : World) (gS gL nS nL : Nat) (s : Sto) : Prop where
  sb : Blk w gS 36 (mkV nS s.sg)
  lb : Blk w gL 81 (mkU nL s.sl)
theorem RSto.kept {w w' : World} {S : Nat → Prop} {gS gL nS nL : Nat} {s : Sto} (h : RSto w gS gL nS nL s) (hk : Kept S w w') (h1 : ¬ S gS) (h2 : ¬ S gL) : RSto w' gS gL nS nL s := ⟨h.sb.kept hk h1, h.lb.kept hk h2⟩
theorem RSto.ne {w : World} {gS gL nS nL : Nat} {s : Sto} (h : RSto w gS gL nS nL s) : gS ≠ gL := h.sb.ne_ h.lb (by decide)
/-- a place that it has, if it has the kind -/
structure RHas (nS nL : Nat) (a : PlaceV) : Prop where
  k1 : a.k = 1 → 0 ≤ a.n ∧ a.n < nS
  k2 : a.k = 2 → 0 ≤ a.n ∧ 2 * a.n + 1 < nS
  k3 : a.k = 3 → 0 ≤ a.n ∧ a.n < nL

set_option maxHeartbeats 1000000 in
set_option maxRecDepth 100000 in
theorem rGet_any (gS gL nS nL : Nat) (s : Sto) (a : PlaceV) (w : World) (h : RSto w gS gL nS nL s) (hs : StOk s) (ha : RHas nS nL a) (hn1 : nS ≤ 16) (hn2 : nL ≤ 12) :
    Calls Try.prog 60 #[.agg #[.slice (some ⟨gS, 0, none⟩) nS nS, .slice (some ⟨gL, 0, none⟩) nL nL], a.val] w fun e w' => e = .returned (.int .u64 (getS s a)) ∧ Fr w w' := by
  obtain ⟨h1, h2, h3⟩ := ha
  obtain ⟨k, n⟩ := a
  simp only at h1 h2 h3
  unfold PlaceV.val
  simp only
  have zs := h.sb.lt
  have zl := h.lb.lt
  have F0 := Lib.hid (show Fr w ((w.alloc (.cells #[.slice (some ⟨gS, 0, none⟩) nS nS, .slice (some ⟨gL, 0, none⟩) nL nL] 109)).alloc (.cells #[.int .i64 k, .int .i64 n] 57)) from ((Kept.refl _ w).alloc _).alloc _)
  by_cases e1 : k = 1
  · subst e1
    have hn := h1 rfl
    obtain ⟨m, rfl⟩ : ∃ m : Nat, n = (m : Int) := ⟨n.toNat, by omega⟩
    have c0 := h.sb.vcell (t := m) (by omega)
    have r0 := hs.sg m
    have hg : Hid (getS s ⟨1, m⟩ = s.sg m) := rfl
    clear h1 h2 h3 h hs
    generalize s.sg m = x at *
    go_enter Try.func60, Try.ntmps60
    go_wp2
    go_ret
    refine ⟨?_, F0.out⟩
    rw [hg.out]; rfl
  · by_cases e2 : k = 2
    · subst e2
      have hn := h2 rfl
      obtain ⟨m, rfl⟩ : ∃ m : Nat, n = (m : Int) := ⟨n.toNat, by omega⟩
      have c0 := h.sb.vcell (t := 2 * m) (by omega)
      have c1 := h.sb.vcell (t := 2 * m + 1) (by omega)
      have r0 := hs.sg (2 * m)
      have r1 := hs.sg (2 * m + 1)
      have hg : Hid (getS s ⟨2, m⟩ = s.sg (2 * m + 1) * 4294967296 + s.sg (2 * m)) := rfl
      rw [show ((2 * m : Nat) : Int) = 2 * (m : Int) by omega] at c0
      rw [show ((2 * m + 1 : Nat) : Int) = 2 * (m : Int) + 1 by omega] at c1
      clear h1 h2 h3 h hs
      generalize s.sg (2 * m + 1) = y at *
      generalize s.sg (2 * m) = x at *
      go_enter Try.func60, Try.ntmps60
      go_wp2
      go_quiet (fail)
      go_wp2
      go_ret
      refine ⟨?_, F0.out.drewN nq⟩
      rw [hg.out]; rfl
    · by_cases e3 : k = 3
      · subst e3
        have hn := h3 rfl
        obtain ⟨m, rfl⟩ : ∃ m : Nat, n = (m : Int) := ⟨n.toNat, by omega⟩
        have c0 := h.lb.ucell (t := m) (by omega)
        have r0 := hs.sl m
        have hg : Hid (getS s ⟨3, m⟩ = s.sl m) := rfl
        clear h1 h2 h3 h hs
        generalize s.sl m = x at *
        go_enter Try.func60, Try.ntmps60
        go_wp2
        go_ret
        refine ⟨?_, F0.out⟩
        rw [hg.out]; rfl
      · have hg : Hid (getS s ⟨k, n⟩ = 0) := by show _ = _; unfold getS; rw [if_neg e1, if_neg e2, if_neg e3]
        have e1' : (k == 1) = false := by simpa using e1
        have e2' : (k == 2) = false := by simpa using e2
        have e3' : (k == 3) = false := by simpa using e3
        clear h1 h2 h3 h hs
        go_enter Try.func60, Try.ntmps60
        go_wp2
        go_ret
        refine ⟨?_, F0.out⟩
        rw [hg.out]; rfl

def RS2 (gS gL : Nat) (k : Nat) : Prop := k = gS ∨ k = gL
set_option maxHeartbeats 1000000 in
set_option maxRecDepth 100000 in
theorem rPut_any (gS gL nS nL : Nat) (s : Sto) (a : PlaceV) (v : Int) (w : World) (h : RSto w gS gL nS nL s) (ha : RHas nS nL a) (hv : 0 ≤ v ∧ v < 18446744073709551616) (hn1 : nS ≤ 16) (hn2 : nL ≤ 12) :
    Calls Try.prog 61 #[.agg #[.slice (some ⟨gS, 0, none⟩) nS nS, .slice (some ⟨gL, 0, none⟩) nL nL], a.val, .int .u64 v] w fun e w' => e = .returned (.tuple #[]) ∧ RSto w' gS gL nS nL (putS s a v) ∧ Kept (RS2 gS gL) w w' := by
  have HNE := Lib.hid h.ne
  obtain ⟨h1, h2, h3⟩ := ha
  obtain ⟨k, n⟩ := a
  simp only at h1 h2 h3
  unfold PlaceV.val
  simp only
  have zs := h.sb.lt
  have zl := h.lb.lt
  have HB := Lib.hid h
  have hkS : ∀ (t : Nat) (x : Value), Kept (fun b => b = gS) w (w.setCell ⟨gS, t, none⟩ x) := fun t x => (Kept.refl (fun b => b = gS) w).setCell (p := ⟨gS, t, none⟩) (fun _ => rfl) x
  have hkL : ∀ (t : Nat) (x : Value), Kept (fun b => b = gL) w (w.setCell ⟨gL, t, none⟩ x) := fun t x => (Kept.refl (fun b => b = gL) w).setCell (p := ⟨gL, t, none⟩) (fun _ => rfl) x
  have HKS := Lib.hid hkS
  have HKL := Lib.hid hkL
  clear hkS hkL
  by_cases e1 : k = 1
  · subst e1
    have hn := h1 rfl
    obtain ⟨m, rfl⟩ : ∃ m : Nat, n = (m : Int) := ⟨n.toNat, by omega⟩
    have c0 := h.sb.vcell (t := m) (by omega)
    have y0 := h.sb.frozen m
    have hg : Hid (putS s ⟨1, m⟩ v = { s with sg := upd s.sg m (v % 4294967296) }) := rfl
    clear h1 h2 h3 h
    generalize s.sg m = x at *
    go_enter Try.func61, Try.ntmps61
    go_wp2
    go_end0
    refine ⟨rfl, ?_, ((((HKS.out m _).mono fun i _ e => Or.inl e).alloc _).alloc _)⟩
    rw [hg.out]
    exact ⟨((HB.out.sb.vset m _).alloc _).alloc _, ((HB.out.lb.kept (HKS.out m _) (fun e => HNE.out e.symm)).alloc _).alloc _⟩
  · by_cases e2 : k = 2
    · subst e2
      have hn := h2 rfl
      obtain ⟨m, rfl⟩ : ∃ m : Nat, n = (m : Int) := ⟨n.toNat, by omega⟩
      have c0 := h.sb.vcell (t := 2 * m) (by omega)
      have c1 := h.sb.vcell (t := 2 * m + 1) (by omega)
      have y0 := h.sb.frozen (2 * m)
      have y1 := h.sb.frozen (2 * m + 1)
      have hg : Hid (putS s ⟨2, m⟩ v = { s with sg := upd (upd s.sg (2 * m) (v % 4294967296)) (2 * m + 1) (v / 4294967296) }) := rfl
      clear h1 h2 h3 h
      go_enter Try.func61, Try.ntmps61
      go_wp2
      go_end0
      have hK : Kept (fun b => b = gS) w ((w.setCell ⟨gS, 2 * m, none⟩ (.int .u32 (v % 4294967296))).setCell ⟨gS, 2 * m + 1, none⟩ (.int .u32 (v / 4294967296))) := (HKS.out _ _).setCell (p := ⟨gS, 2 * m + 1, none⟩) (fun _ => rfl) _
      refine ⟨rfl, ?_, (((hK.mono fun i _ e => Or.inl e).alloc _).alloc _)⟩
      rw [hg.out]
      have := (HB.out.sb.vset (2 * m) (v % 4294967296)).vset (2 * m + 1) (v / 4294967296)
      rw [show ((2 * m : Nat) : Int) = 2 * (m : Int) by omega, show ((2 * m + 1 : Nat) : Int) = 2 * (m : Int) + 1 by omega] at this
      exact ⟨(this.alloc _).alloc _, ((HB.out.lb.kept hK (fun e => HNE.out e.symm)).alloc _).alloc _⟩
    · by_cases e3 : k = 3
      · subst e3
        have hn := h3 rfl
        obtain ⟨m, rfl⟩ : ∃ m : Nat, n = (m : Int) := ⟨n.toNat, by omega⟩
        have c0 := h.lb.ucell (t := m) (by omega)
        have y0 := h.lb.frozen m
        have hg : Hid (putS s ⟨3, m⟩ v = { s with sl := upd s.sl m v }) := rfl
        clear h1 h2 h3 h
        generalize s.sl m = x at *
        go_enter Try.func61, Try.ntmps61
        go_wp2
        go_end0
        refine ⟨rfl, ?_, ((((HKL.out m _).mono fun i _ e => Or.inr e).alloc _).alloc _)⟩
        rw [hg.out]
        exact ⟨((HB.out.sb.kept (HKL.out m _) (fun e => HNE.out e)).alloc _).alloc _, ((HB.out.lb.uset m _).alloc _).alloc _⟩
      · have hg : Hid (putS s ⟨k, n⟩ v = s) := by show _ = _; unfold putS; rw [if_neg e1, if_neg e2, if_neg e3]
        have e1' : (k == 1) = false := by simpa using e1
        have e2' : (k == 2) = false := by simpa using e2
        have e3' : (k == 3) = false := by simpa using e3
        clear h1 h2 h3 h
        go_enter Try.func61, Try.ntmps61
        go_wp2
        go_end0
        exact ⟨rfl, by rw [hg.out]; exact ⟨(HB.out.sb.alloc _).alloc _, (HB.out.lb.alloc _).alloc _⟩, ((Kept.refl _ w).alloc _).alloc _⟩

/-- a move that it can do -/
structure RMvHas (nS nL : Nat) (m : Mv) : Prop where
  too : RHas nS nL m.to
  fr : m.c = false → RHas nS nL m.fr
  c : m.c = true → m.fr = ⟨0, 0⟩
  n : m.n < 4294967296
theorem RMvHas.from_ {nS nL : Nat} {m : Mv} (h : RMvHas nS nL m) : RHas nS nL m.fr := by
  cases hc : m.c with
  | false => exact h.fr hc
  | true => rw [h.c hc]; exact ⟨fun e => by simp at e, fun e => by simp at e, fun e => by simp at e⟩

set_option maxHeartbeats 1000000 in
set_option maxRecDepth 100000 in
theorem rMoves_any (R : Nat → Prop) (gS gL nS nL : Nat) (s : Sto) (v : Value) (l : List Mv) (w : World) (h : RSto w gS gL nS nL s) (hs : StOk s) (hr : RdMv w R v l) (hR : ∀ b, R b → b ≠ gS ∧ b ≠ gL) (hl : l.length ≤ 1000) (hm : ∀ m ∈ l, RMvHas nS nL m ∧ MvHas m) (hn1 : nS ≤ 16) (hn2 : nL ≤ 12) :
    Calls Try.prog 59 #[.agg #[.slice (some ⟨gS, 0, none⟩) nS nS, .slice (some ⟨gL, 0, none⟩) nL nL], v] w fun e w' => e = .returned (.tuple #[]) ∧ RSto w' gS gL nS nL (movesS s l) ∧ Kept (RS2 gS gL) w w' := by
  obtain ⟨A, c, rfl, _, hr, _⟩ := hr
  have HR := Lib.hid hr
  have HM := Lib.hid hm
  have HRB := Lib.hid (fun b hb e => show False from by rcases e with e | e; exact (hR b hb).1 e; exact (hR b hb).2 e : ∀ b, R b → ¬ RS2 gS gL b)
  have zs := h.sb.lt
  have zl := h.lb.lt
  have H0 := Lib.hid (show RSto (w.alloc (.cells #[.slice (some ⟨gS, 0, none⟩) nS nS, .slice (some ⟨gL, 0, none⟩) nL nL] 109)) gS gL nS nL s ∧ Kept (RS2 gS gL) w (w.alloc (.cells #[.slice (some ⟨gS, 0, none⟩) nS nS, .slice (some ⟨gL, 0, none⟩) nL nL] 109)) ∧ StOk s ∧
    Blk (w.alloc (.cells #[.slice (some ⟨gS, 0, none⟩) nS nS, .slice (some ⟨gL, 0, none⟩) nL nL] 109)) w.heap.size 109 #[.slice (some ⟨gS, 0, none⟩) nS nS, .slice (some ⟨gL, 0, none⟩) nL nL] from
    ⟨⟨h.sb.alloc _, h.lb.alloc _⟩, (Kept.refl _ w).alloc _, hs, Blk.new w _ _⟩)
  clear hr hm hR h hs
  go_enter Try.func59, Try.ntmps59
  go_wp2
  go_loopw [4] (fun i wr => ∃ k : Nat, k ≤ l.length ∧ i = .int .i64 k ∧ Hid (RSto wr gS gL nS nL (movesS s (l.take k)) ∧ Kept (RS2 gS gL) w wr ∧ StOk (movesS s (l.take k)) ∧ Blk wr w.heap.size 109 #[.slice (some ⟨gS, 0, none⟩) nS nS, .slice (some ⟨gL, 0, none⟩) nL nL])) (fun i _ => l.length - (intOf i).toNat)
  case atStart => exact ⟨0, Nat.zero_le _, rfl, H0.out⟩
  case round =>
    obtain ⟨k, hk, rfl, hx⟩ := hrel
    by_cases hlt : k < l.length
    · have hg : l[k]? = some l[k] := List.getElem?_eq_getElem hlt
      obtain ⟨b, off, rfl, hRb, c0, c1, c2, c3, c4, c5⟩ := (HR.out.kept hx.out.2.1 HRB.out).mv hg
      have hmv := HM.out _ (List.getElem_mem hlt)
      have HT := Lib.hid (moves_take (s := s) hg)
      have HO := Lib.hid (hx.out.2.2.1.move hmv.2)
      have hbl := cell_lt c0
      have hk0 : (0 : Int) ≤ (k : Int) := Int.natCast_nonneg _
      have hk1 : (k : Int) < (l.length : Int) := by omega
      have q0 := hx.out.2.2.2.cell 0
      have q1 := hx.out.2.2.2.cell 1
      have zq := hx.out.2.2.2.lt
      simp only [List.getElem?_toArray, List.getElem?_cons_succ, List.getElem?_cons_zero] at q0 q1
      clear hg
      generalize l[k] = m at *
      obtain ⟨⟨tk, tn⟩, ⟨fk, fn⟩, mc, n⟩ := m
      simp only at c0 c1 c2 c3 c4 c5
      have hn := hmv.2.n
      simp only at hn
      have HTO := Lib.hid hmv.1.too
      have HFR := Lib.hid hmv.1.from_
      have HX := Lib.hid hx.out
      simp only at HTO HFR
      clear hmv hx
      generalize movesS s (l.take k) = s' at *
      obtain ⟨wB, rfl⟩ : ∃ wB : World, wB = wr := ⟨_, rfl⟩
      have hgr := HX.out.2.2.1.get ⟨fk, fn⟩
      have HE : Hid (moveS s' ⟨⟨tk, tn⟩, ⟨fk, fn⟩, mc, n⟩ = putS s' ⟨tk, tn⟩ (if mc then (n : Int) else getS s' ⟨fk, fn⟩)) := rfl
      have HGT := Lib.hid (fun w2 (hf : Fr wB w2) => (rGet_any gS gL nS nL s' ⟨fk, fn⟩ w2 (HX.out.1.kept hf (fun h => h) (fun h => h)) HX.out.2.2.1 HFR.out hn1 hn2).mono (fun e w' (h : _ ∧ Fr w2 w') => And.intro h.1 (hf.trans h.2)))
      generalize getS s' ⟨fk, fn⟩ = gv at *
      clear H0
      go_wp2
      go_region_held3 (fun w' => w'.cell? ⟨w.heap.size, 0, none⟩ = some (.slice (some ⟨gS, 0, none⟩) nS nS) ∧ w'.cell? ⟨w.heap.size, 1, none⟩ = some (.slice (some ⟨gL, 0, none⟩) nL nL) ∧ w'.cell? ⟨b, off + k * 6 + 2, none⟩ = some (.int .i64 fk) ∧ w'.cell? ⟨b, off + k * 6 + 3, none⟩ = some (.int .i64 fn))
        (first
          | go_keep
          | (go_split_ands
             refine ⟨?_, ?_, ?_, ?_⟩
             · exact (fa.cell zq (fun h => h)).trans q0
             · exact (fa.cell zq (fun h => h)).trans q1
             · exact (fa.cell hbl (fun h => h)).trans c2
             · exact (fa.cell hbl (fun h => h)).trans c3))
        (first
          | (go_at_call 60; refine (HGT.out _ ((Kept.refl _ wB).drew)).mono ?_; rintro e wa ⟨rfl, fa⟩))
      have HF := Lib.hid fa
      have d0 := (fa.cell hbl (fun h => h)).trans c0
      have d1 := (fa.cell hbl (fun h => h)).trans c1
      have d4 := (fa.cell hbl (fun h => h)).trans c4
      have d5 := (fa.cell hbl (fun h => h)).trans c5
      have p0 := (fa.cell zq (fun h => h)).trans q0
      have p1 := (fa.cell zq (fun h => h)).trans q1
      have hbl2 := Nat.lt_of_lt_of_le hbl fa.size
      have zq2 := Nat.lt_of_lt_of_le zq fa.size
      have HPT := Lib.hid (fun w2 (hf : Fr wa w2) x (hx : 0 ≤ x ∧ x < 18446744073709551616) => rPut_any gS gL nS nL s' ⟨tk, tn⟩ x w2 (HX.out.1.kept (HF.out.trans hf) (fun h => h) (fun h => h)) HTO.out hx hn1 hn2)
      clear fa c0 c1 c2 c3 c4 c5 q0 q1 hbl zq HGT
      rename_i hHeld
      clear hHeld
      have HNE := Lib.hid (show ¬ RS2 gS gL w.heap.size from by rintro (e | e) <;> omega)
      cases mc with
      | true =>
        go_wp2
        go_region_held3 (fun w' => w'.cell? ⟨w.heap.size, 0, none⟩ = some (.slice (some ⟨gS, 0, none⟩) nS nS) ∧ w'.cell? ⟨w.heap.size, 1, none⟩ = some (.slice (some ⟨gL, 0, none⟩) nL nL) ∧ w'.cell? ⟨b, off + k * 6, none⟩ = some (.int .i64 tk) ∧ w'.cell? ⟨b, off + k * 6 + 1, none⟩ = some (.int .i64 tn))
          (first
            | go_keep
            | (go_split_ands
               have kk := ((Kept.refl (RS2 gS gL) wa).drew).trans kp
               exact ⟨(kk.cell zq2 HNE.out).trans p0, (kk.cell zq2 HNE.out).trans p1, (kk.cell hbl2 (HRB.out b hRb)).trans d0, (kk.cell hbl2 (HRB.out b hRb)).trans d1⟩))
          (first
            | (go_at_call 61; refine (HPT.out _ ((Kept.refl _ wa).drew) (n : Int) (by omega)).mono ?_; rintro e wp ⟨rfl, hp, kp⟩))
        have hk9 := ((HX.out.2.1.trans (HF.out.mono (fun i _ h => h.elim))).trans ((Kept.refl (RS2 gS gL) wa).drew)).trans kp
        have HN := Lib.hid (And.intro hp (And.intro hk9 (And.intro HO.out ((HX.out.2.2.2.kept HF.out (fun h => h)).kept (((Kept.refl (RS2 gS gL) wa).drew).trans kp) HNE.out))))
        clear hp kp hk9
        go_wp2
        go_roundw
        case rel => exact ⟨k + 1, by omega, by go_num, by show _ ∧ _; rw [HT.out]; exact ⟨by rw [HE.out]; exact HN.out.1, HN.out.2⟩⟩
        case measure => simp [intOf]; omega
      | false =>
        go_wp2
        go_region_held3 (fun w' => w'.cell? ⟨w.heap.size, 0, none⟩ = some (.slice (some ⟨gS, 0, none⟩) nS nS) ∧ w'.cell? ⟨w.heap.size, 1, none⟩ = some (.slice (some ⟨gL, 0, none⟩) nL nL) ∧ w'.cell? ⟨b, off + k * 6, none⟩ = some (.int .i64 tk) ∧ w'.cell? ⟨b, off + k * 6 + 1, none⟩ = some (.int .i64 tn))
          (first
            | go_keep
            | (go_split_ands
               have kk := ((Kept.refl (RS2 gS gL) wa).drew).trans kp
               exact ⟨(kk.cell zq2 HNE.out).trans p0, (kk.cell zq2 HNE.out).trans p1, (kk.cell hbl2 (HRB.out b hRb)).trans d0, (kk.cell hbl2 (HRB.out b hRb)).trans d1⟩))
          (first
            | (go_at_call 61; refine (HPT.out _ ((Kept.refl _ wa).drew) gv hgr).mono ?_; rintro e wp ⟨rfl, hp, kp⟩))
        have hk9 := ((HX.out.2.1.trans (HF.out.mono (fun i _ h => h.elim))).trans ((Kept.refl (RS2 gS gL) wa).drew)).trans kp
        have HN := Lib.hid (And.intro hp (And.intro hk9 (And.intro HO.out ((HX.out.2.2.2.kept HF.out (fun h => h)).kept (((Kept.refl (RS2 gS gL) wa).drew).trans kp) HNE.out))))
        clear hp kp hk9
        go_wp2
        go_roundw
        case rel => exact ⟨k + 1, by omega, by go_num, by show _ ∧ _; rw [HT.out]; exact ⟨by rw [HE.out]; exact HN.out.1, HN.out.2⟩⟩
        case measure => simp [intOf]; omega
    · obtain rfl : k = l.length := by omega
      have HN := Lib.hid hx.out
      rw [List.take_length] at HN
      have q1 := hx.out.2.2.2.cell 0
      go_wp2
      go_end0
      exact ⟨rfl, HN.out.1, HN.out.2.1⟩
end Go.Proofs.Ytodmkjeankbieab
