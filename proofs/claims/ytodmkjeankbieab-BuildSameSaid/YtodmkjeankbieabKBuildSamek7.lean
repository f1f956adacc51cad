/- RefSto, Sto, Sto2, Done1: texts of this claim, packed into one file. -/
import Derived.Test.YtodmkjeankbieabKBuildSamek6
import Derived.Test.YtodmkjeankbieabKBuildSamek0
import Derived.Test.YtodmkjeankbieabKBuildSamek4
import Derived.Test.YtodmkjeankbieabKBuildSamek5
import Derived.Deep.RegionHeld3
import Derived.Deep.Cut
import Derived.Deep.CutRange
/- The walks of the reference's store, of chapter 7: get, put, moves. -/
namespace Go.Proofs.Ytodmkjeankbieab
open Go.RowKit Go.Sort

/-- the cells of n single registers -/
def mkV (n : Nat) (f : Int → Int) : Array Value := ((List.range n).map fun (t : Nat) => Value.int .u32 (f (t : Int))).toArray
theorem mkV_at {n : Nat} {f : Int → Int} {t : Nat} (h : t < n) : (mkV n f)[t]? = some (.int .u32 (f t)) := by
  unfold mkV
  simp [List.getElem?_range h]
theorem mkV_set {n : Nat} {f : Int → Int} {t : Nat} {x : Int} : (mkV n f).setIfInBounds t (.int .u32 x) = mkV n (upd f t x) := by
  unfold mkV upd
  rw [List.setIfInBounds_toArray]
  congr 1
  apply List.ext_getElem
  · simp
  · intro i h1 h2
    simp at h1
    rw [List.getElem_set]
    by_cases h : t = i
    · subst h; simp
    · rw [if_neg h]
      simp
      intro e; exact absurd (by omega) h
theorem Blk.vcell {w : World} {g : Nat} {e : TypeId} {n : Nat} {f : Int → Int} (h : Blk w g e (mkV n f)) {t : Nat} (ht : t < n) : w.cell? ⟨g, t, none⟩ = some (.int .u32 (f t)) := by
  rw [h.cell, mkV_at ht]
theorem Blk.vset {w : World} {g : Nat} {e : TypeId} {n : Nat} {f : Int → Int} (h : Blk w g e (mkV n f)) (t : Nat) (x : Int) : Blk (w.setCell ⟨g, t, none⟩ (.int .u32 x)) g e (mkV n (upd f t x)) := by
  have := h.set_ t (.int .u32 x)
  rwa [mkV_set] at this

/-- a store in memory -/
structure RSto (w : World) (gS gL nS nL : Nat) (s : Sto) : Prop where
  sb : Blk w gS 36 (mkV nS s.sg)
  lb : Blk w gL 81 (mkU nL s.sl)
theorem RSto.kept {w w' : World} {S : Nat → Prop} {gS gL nS nL : Nat} {s : Sto} (h : RSto w gS gL nS nL s) (hk : Kept S w w') (h1 : ¬ S gS) (h2 : ¬ S gL) : RSto w' gS gL nS nL s := ⟨h.sb.kept hk h1, h.lb.kept hk h2⟩
theorem RSto.ne {w : World} {gS gL nS nL : Nat} {s : Sto} (h : RSto w gS gL nS nL s) : gS ≠ gL := h.sb.ne_ h.lb (by decide)
/-- a place that it has, if it has the kind -/
structure RHas (nS nL : Nat) (a : PlaceV) : Prop where
  k1 : a.k = 1 → 0 ≤ a.n ∧ a.n < nS
  k2 : a.k = 2 → 0 ≤ a.n ∧ 2 * a.n + 1 < nS
  k3 : a.k = 3 → 0 ≤ a.n ∧ a.n < nL

set_option maxHeartbeats 1000000 in
set_option maxRecDepth 100000 in
theorem rGet_any (gS gL nS nL : Nat) (s : Sto) (a : PlaceV) (w : World) (h : RSto w gS gL nS nL s) (hs : StOk s) (ha : RHas nS nL a) (hn1 : nS ≤ 16) (hn2 : nL ≤ 12) :
    Calls Try.prog 60 #[.agg #[.slice (some ⟨gS, 0, none⟩) nS nS, .slice (some ⟨gL, 0, none⟩) nL nL], a.val] w fun e w' => e = .returned (.int .u64 (getS s a)) ∧ Fr w w' := by
  obtain ⟨h1, h2, h3⟩ := ha
  obtain ⟨k, n⟩ := a
  simp only at h1 h2 h3
  unfold PlaceV.val
  simp only
  have zs := h.sb.lt
  have zl := h.lb.lt
  have F0 := Lib.hid (show Fr w ((w.alloc (.cells #[.slice (some ⟨gS, 0, none⟩) nS nS, .slice (some ⟨gL, 0, none⟩) nL nL] 109)).alloc (.cells #[.int .i64 k, .int .i64 n] 57)) from ((Kept.refl _ w).alloc _).alloc _)
  by_cases e1 : k = 1
  · subst e1
    have hn := h1 rfl
    obtain ⟨m, rfl⟩ : ∃ m : Nat, n = (m : Int) := ⟨n.toNat, by omega⟩
    have c0 := h.sb.vcell (t := m) (by omega)
    have r0 := hs.sg m
    have hg : Hid (getS s ⟨1, m⟩ = s.sg m) := rfl
    clear h1 h2 h3 h hs
    generalize s.sg m = x at *
    go_enter Try.func60, Try.ntmps60
    go_wp2
    go_ret
    refine ⟨?_, F0.out⟩
    rw [hg.out]; rfl
  · by_cases e2 : k = 2
    · subst e2
      have hn := h2 rfl
      obtain ⟨m, rfl⟩ : ∃ m : Nat, n = (m : Int) := ⟨n.toNat, by omega⟩
      have c0 := h.sb.vcell (t := 2 * m) (by omega)
      have c1 := h.sb.vcell (t := 2 * m + 1) (by omega)
      have r0 := hs.sg (2 * m)
      have r1 := hs.sg (2 * m + 1)
      have hg : Hid (getS s ⟨2, m⟩ = s.sg (2 * m + 1) * 4294967296 + s.sg (2 * m)) := rfl
      rw [show ((2 * m : Nat) : Int) = 2 * (m : Int) by omega] at c0
      rw [show ((2 * m + 1 : Nat) : Int) = 2 * (m : Int) + 1 by omega] at c1
      clear h1 h2 h3 h hs
      generalize s.sg (2 * m + 1) = y at *
      generalize s.sg (2 * m) = x at *
      go_enter Try.func60, Try.ntmps60
      go_wp2
      go_quiet (fail)
      go_wp2
      go_ret
      refine ⟨?_, F0.out.drewN nq⟩
      rw [hg.out]; rfl
    · by_cases e3 : k = 3
      · subst e3
        have hn := h3 rfl
        obtain ⟨m, rfl⟩ : ∃ m : Nat, n = (m : Int) := ⟨n.toNat, by omega⟩
        have c0 := h.lb.ucell (t := m) (by omega)
        have r0 := hs.sl m
        have hg : Hid (getS s ⟨3, m⟩ = s.sl m) := rfl
        clear h1 h2 h3 h hs
        generalize s.sl m = x at *
        go_enter Try.func60, Try.ntmps60
        go_wp2
        go_ret
        refine ⟨?_, F0.out⟩
        rw [hg.out]; rfl
      · have hg : Hid (getS s ⟨k, n⟩ = 0) := by show _ = _; unfold getS; rw [if_neg e1, if_neg e2, if_neg e3]
        have e1' : (k == 1) = false := by simpa using e1
        have e2' : (k == 2) = false := by simpa using e2
        have e3' : (k == 3) = false := by simpa using e3
        clear h1 h2 h3 h hs
        go_enter Try.func60, Try.ntmps60
        go_wp2
        go_ret
        refine ⟨?_, F0.out⟩
        rw [hg.out]; rfl

def RS2 (gS gL : Nat) (k : Nat) : Prop := k = gS ∨ k = gL
set_option maxHeartbeats 1000000 in
set_option maxRecDepth 100000 in
theorem rPut_any (gS gL nS nL : Nat) (s : Sto) (a : PlaceV) (v : Int) (w : World) (h : RSto w gS gL nS nL s) (ha : RHas nS nL a) (hv : 0 ≤ v ∧ v < 18446744073709551616) (hn1 : nS ≤ 16) (hn2 : nL ≤ 12) :
    Calls Try.prog 61 #[.agg #[.slice (some ⟨gS, 0, none⟩) nS nS, .slice (some ⟨gL, 0, none⟩) nL nL], a.val, .int .u64 v] w fun e w' => e = .returned (.tuple #[]) ∧ RSto w' gS gL nS nL (putS s a v) ∧ Kept (RS2 gS gL) w w' := by
  have HNE := Lib.hid h.ne
  obtain ⟨h1, h2, h3⟩ := ha
  obtain ⟨k, n⟩ := a
  simp only at h1 h2 h3
  unfold PlaceV.val
  simp only
  have zs := h.sb.lt
  have zl := h.lb.lt
  have HB := Lib.hid h
  have hkS : ∀ (t : Nat) (x : Value), Kept (fun b => b = gS) w (w.setCell ⟨gS, t, none⟩ x) := fun t x => (Kept.refl (fun b => b = gS) w).setCell (p := ⟨gS, t, none⟩) (fun _ => rfl) x
  have hkL : ∀ (t : Nat) (x : Value), Kept (fun b => b = gL) w (w.setCell ⟨gL, t, none⟩ x) := fun t x => (Kept.refl (fun b => b = gL) w).setCell (p := ⟨gL, t, none⟩) (fun _ => rfl) x
  have HKS := Lib.hid hkS
  have HKL := Lib.hid hkL
  clear hkS hkL
  by_cases e1 : k = 1
  · subst e1
    have hn := h1 rfl
    obtain ⟨m, rfl⟩ : ∃ m : Nat, n = (m : Int) := ⟨n.toNat, by omega⟩
    have c0 := h.sb.vcell (t := m) (by omega)
    have y0 := h.sb.frozen m
    have hg : Hid (putS s ⟨1, m⟩ v = { s with sg := upd s.sg m (v % 4294967296) }) := rfl
    clear h1 h2 h3 h
    generalize s.sg m = x at *
    go_enter Try.func61, Try.ntmps61
    go_wp2
    go_end0
    refine ⟨rfl, ?_, ((((HKS.out m _).mono fun i _ e => Or.inl e).alloc _).alloc _)⟩
    rw [hg.out]
    exact ⟨((HB.out.sb.vset m _).alloc _).alloc _, ((HB.out.lb.kept (HKS.out m _) (fun e => HNE.out e.symm)).alloc _).alloc _⟩
  · by_cases e2 : k = 2
    · subst e2
      have hn := h2 rfl
      obtain ⟨m, rfl⟩ : ∃ m : Nat, n = (m : Int) := ⟨n.toNat, by omega⟩
      have c0 := h.sb.vcell (t := 2 * m) (by omega)
      have c1 := h.sb.vcell (t := 2 * m + 1) (by omega)
      have y0 := h.sb.frozen (2 * m)
      have y1 := h.sb.frozen (2 * m + 1)
      have hg : Hid (putS s ⟨2, m⟩ v = { s with sg := upd (upd s.sg (2 * m) (v % 4294967296)) (2 * m + 1) (v / 4294967296) }) := rfl
      clear h1 h2 h3 h
      go_enter Try.func61, Try.ntmps61
      go_wp2
      go_end0
      have hK : Kept (fun b => b = gS) w ((w.setCell ⟨gS, 2 * m, none⟩ (.int .u32 (v % 4294967296))).setCell ⟨gS, 2 * m + 1, none⟩ (.int .u32 (v / 4294967296))) := (HKS.out _ _).setCell (p := ⟨gS, 2 * m + 1, none⟩) (fun _ => rfl) _
      refine ⟨rfl, ?_, (((hK.mono fun i _ e => Or.inl e).alloc _).alloc _)⟩
      rw [hg.out]
      have := (HB.out.sb.vset (2 * m) (v % 4294967296)).vset (2 * m + 1) (v / 4294967296)
      rw [show ((2 * m : Nat) : Int) = 2 * (m : Int) by omega, show ((2 * m + 1 : Nat) : Int) = 2 * (m : Int) + 1 by omega] at this
      exact ⟨(this.alloc _).alloc _, ((HB.out.lb.kept hK (fun e => HNE.out e.symm)).alloc _).alloc _⟩
    · by_cases e3 : k = 3
      · subst e3
        have hn := h3 rfl
        obtain ⟨m, rfl⟩ : ∃ m : Nat, n = (m : Int) := ⟨n.toNat, by omega⟩
        have c0 := h.lb.ucell (t := m) (by omega)
        have y0 := h.lb.frozen m
        have hg : Hid (putS s ⟨3, m⟩ v = { s with sl := upd s.sl m v }) := rfl
        clear h1 h2 h3 h
        generalize s.sl m = x at *
        go_enter Try.func61, Try.ntmps61
        go_wp2
        go_end0
        refine ⟨rfl, ?_, ((((HKL.out m _).mono fun i _ e => Or.inr e).alloc _).alloc _)⟩
        rw [hg.out]
        exact ⟨((HB.out.sb.kept (HKL.out m _) (fun e => HNE.out e)).alloc _).alloc _, ((HB.out.lb.uset m _).alloc _).alloc _⟩
      · have hg : Hid (putS s ⟨k, n⟩ v = s) := by show _ = _; unfold putS; rw [if_neg e1, if_neg e2, if_neg e3]
        have e1' : (k == 1) = false := by simpa using e1
        have e2' : (k == 2) = false := by simpa using e2
        have e3' : (k == 3) = false := by simpa using e3
        clear h1 h2 h3 h
        go_enter Try.func61, Try.ntmps61
        go_wp2
        go_end0
        exact ⟨rfl, by rw [hg.out]; exact ⟨(HB.out.sb.alloc _).alloc _, (HB.out.lb.alloc _).alloc _⟩, ((Kept.refl _ w).alloc _).alloc _⟩

/-- a move that it can do -/
structure RMvHas (nS nL : Nat) (m : Mv) : Prop where
  too : RHas nS nL m.to
  fr : m.c = false → RHas nS nL m.fr
  c : m.c = true → m.fr = ⟨0, 0⟩
  n : m.n < 4294967296
theorem RMvHas.from_ {nS nL : Nat} {m : Mv} (h : RMvHas nS nL m) : RHas nS nL m.fr := by
  cases hc : m.c with
  | false => exact h.fr hc
  | true => rw [h.c hc]; exact ⟨fun e => by simp at e, fun e => by simp at e, fun e => by simp at e⟩

set_option maxHeartbeats 1000000 in
set_option maxRecDepth 100000 in
theorem rMoves_any (R : Nat → Prop) (gS gL nS nL : Nat) (s : Sto) (v : Value) (l : List Mv) (w : World) (h : RSto w gS gL nS nL s) (hs : StOk s) (hr : RdMv w R v l) (hR : ∀ b, R b → b ≠ gS ∧ b ≠ gL) (hl : l.length ≤ 1000) (hm : ∀ m ∈ l, RMvHas nS nL m ∧ MvHas m) (hn1 : nS ≤ 16) (hn2 : nL ≤ 12) :
    Calls Try.prog 59 #[.agg #[.slice (some ⟨gS, 0, none⟩) nS nS, .slice (some ⟨gL, 0, none⟩) nL nL], v] w fun e w' => e = .returned (.tuple #[]) ∧ RSto w' gS gL nS nL (movesS s l) ∧ Kept (RS2 gS gL) w w' := by
  obtain ⟨A, c, rfl, _, hr, _⟩ := hr
  have HR := Lib.hid hr
  have HM := Lib.hid hm
  have HRB := Lib.hid (fun b hb e => show False from by rcases e with e | e; exact (hR b hb).1 e; exact (hR b hb).2 e : ∀ b, R b → ¬ RS2 gS gL b)
  have zs := h.sb.lt
  have zl := h.lb.lt
  have H0 := Lib.hid (show RSto (w.alloc (.cells #[.slice (some ⟨gS, 0, none⟩) nS nS, .slice (some ⟨gL, 0, none⟩) nL nL] 109)) gS gL nS nL s ∧ Kept (RS2 gS gL) w (w.alloc (.cells #[.slice (some ⟨gS, 0, none⟩) nS nS, .slice (some ⟨gL, 0, none⟩) nL nL] 109)) ∧ StOk s ∧
    Blk (w.alloc (.cells #[.slice (some ⟨gS, 0, none⟩) nS nS, .slice (some ⟨gL, 0, none⟩) nL nL] 109)) w.heap.size 109 #[.slice (some ⟨gS, 0, none⟩) nS nS, .slice (some ⟨gL, 0, none⟩) nL nL] from
    ⟨⟨h.sb.alloc _, h.lb.alloc _⟩, (Kept.refl _ w).alloc _, hs, Blk.new w _ _⟩)
  clear hr hm hR h hs
  go_enter Try.func59, Try.ntmps59
  go_wp2
  go_loopw [4] (fun i wr => ∃ k : Nat, k ≤ l.length ∧ i = .int .i64 k ∧ Hid (RSto wr gS gL nS nL (movesS s (l.take k)) ∧ Kept (RS2 gS gL) w wr ∧ StOk (movesS s (l.take k)) ∧ Blk wr w.heap.size 109 #[.slice (some ⟨gS, 0, none⟩) nS nS, .slice (some ⟨gL, 0, none⟩) nL nL])) (fun i _ => l.length - (intOf i).toNat)
  case atStart => exact ⟨0, Nat.zero_le _, rfl, H0.out⟩
  case round =>
    obtain ⟨k, hk, rfl, hx⟩ := hrel
    by_cases hlt : k < l.length
    · have hg : l[k]? = some l[k] := List.getElem?_eq_getElem hlt
      obtain ⟨b, off, rfl, hRb, c0, c1, c2, c3, c4, c5⟩ := (HR.out.kept hx.out.2.1 HRB.out).mv hg
      have hmv := HM.out _ (List.getElem_mem hlt)
      have HT := Lib.hid (moves_take (s := s) hg)
      have HO := Lib.hid (hx.out.2.2.1.move hmv.2)
      have hbl := cell_lt c0
      have hk0 : (0 : Int) ≤ (k : Int) := Int.natCast_nonneg _
      have hk1 : (k : Int) < (l.length : Int) := by omega
      have q0 := hx.out.2.2.2.cell 0
      have q1 := hx.out.2.2.2.cell 1
      have zq := hx.out.2.2.2.lt
      simp only [List.getElem?_toArray, List.getElem?_cons_succ, List.getElem?_cons_zero] at q0 q1
      clear hg
      generalize l[k] = m at *
      obtain ⟨⟨tk, tn⟩, ⟨fk, fn⟩, mc, n⟩ := m
      simp only at c0 c1 c2 c3 c4 c5
      have hn := hmv.2.n
      simp only at hn
      have HTO := Lib.hid hmv.1.too
      have HFR := Lib.hid hmv.1.from_
      have HX := Lib.hid hx.out
      simp only at HTO HFR
      clear hmv hx
      generalize movesS s (l.take k) = s' at *
      obtain ⟨wB, rfl⟩ : ∃ wB : World, wB = wr := ⟨_, rfl⟩
      have hgr := HX.out.2.2.1.get ⟨fk, fn⟩
      have HE : Hid (moveS s' ⟨⟨tk, tn⟩, ⟨fk, fn⟩, mc, n⟩ = putS s' ⟨tk, tn⟩ (if mc then (n : Int) else getS s' ⟨fk, fn⟩)) := rfl
      have HGT := Lib.hid (fun w2 (hf : Fr wB w2) => (rGet_any gS gL nS nL s' ⟨fk, fn⟩ w2 (HX.out.1.kept hf (fun h => h) (fun h => h)) HX.out.2.2.1 HFR.out hn1 hn2).mono (fun e w' (h : _ ∧ Fr w2 w') => And.intro h.1 (hf.trans h.2)))
      generalize getS s' ⟨fk, fn⟩ = gv at *
      clear H0
      go_wp2
      go_region_held3 (fun w' => w'.cell? ⟨w.heap.size, 0, none⟩ = some (.slice (some ⟨gS, 0, none⟩) nS nS) ∧ w'.cell? ⟨w.heap.size, 1, none⟩ = some (.slice (some ⟨gL, 0, none⟩) nL nL) ∧ w'.cell? ⟨b, off + k * 6 + 2, none⟩ = some (.int .i64 fk) ∧ w'.cell? ⟨b, off + k * 6 + 3, none⟩ = some (.int .i64 fn))
        (first
          | go_keep
          | (go_split_ands
             refine ⟨?_, ?_, ?_, ?_⟩
             · exact (fa.cell zq (fun h => h)).trans q0
             · exact (fa.cell zq (fun h => h)).trans q1
             · exact (fa.cell hbl (fun h => h)).trans c2
             · exact (fa.cell hbl (fun h => h)).trans c3))
        (first
          | (go_at_call 60; refine (HGT.out _ ((Kept.refl _ wB).drew)).mono ?_; rintro e wa ⟨rfl, fa⟩))
      have HF := Lib.hid fa
      have d0 := (fa.cell hbl (fun h => h)).trans c0
      have d1 := (fa.cell hbl (fun h => h)).trans c1
      have d4 := (fa.cell hbl (fun h => h)).trans c4
      have d5 := (fa.cell hbl (fun h => h)).trans c5
      have p0 := (fa.cell zq (fun h => h)).trans q0
      have p1 := (fa.cell zq (fun h => h)).trans q1
      have hbl2 := Nat.lt_of_lt_of_le hbl fa.size
      have zq2 := Nat.lt_of_lt_of_le zq fa.size
      have HPT := Lib.hid (fun w2 (hf : Fr wa w2) x (hx : 0 ≤ x ∧ x < 18446744073709551616) => rPut_any gS gL nS nL s' ⟨tk, tn⟩ x w2 (HX.out.1.kept (HF.out.trans hf) (fun h => h) (fun h => h)) HTO.out hx hn1 hn2)
      clear fa c0 c1 c2 c3 c4 c5 q0 q1 hbl zq HGT
      rename_i hHeld
      clear hHeld
      have HNE := Lib.hid (show ¬ RS2 gS gL w.heap.size from by rintro (e | e) <;> omega)
      cases mc with
      | true =>
        go_wp2
        go_region_held3 (fun w' => w'.cell? ⟨w.heap.size, 0, none⟩ = some (.slice (some ⟨gS, 0, none⟩) nS nS) ∧ w'.cell? ⟨w.heap.size, 1, none⟩ = some (.slice (some ⟨gL, 0, none⟩) nL nL) ∧ w'.cell? ⟨b, off + k * 6, none⟩ = some (.int .i64 tk) ∧ w'.cell? ⟨b, off + k * 6 + 1, none⟩ = some (.int .i64 tn))
          (first
            | go_keep
            | (go_split_ands
               have kk := ((Kept.refl (RS2 gS gL) wa).drew).trans kp
               exact ⟨(kk.cell zq2 HNE.out).trans p0, (kk.cell zq2 HNE.out).trans p1, (kk.cell hbl2 (HRB.out b hRb)).trans d0, (kk.cell hbl2 (HRB.out b hRb)).trans d1⟩))
          (first
            | (go_at_call 61; refine (HPT.out _ ((Kept.refl _ wa).drew) (n : Int) (by omega)).mono ?_; rintro e wp ⟨rfl, hp, kp⟩))
        have hk9 := ((HX.out.2.1.trans (HF.out.mono (fun i _ h => h.elim))).trans ((Kept.refl (RS2 gS gL) wa).drew)).trans kp
        have HN := Lib.hid (And.intro hp (And.intro hk9 (And.intro HO.out ((HX.out.2.2.2.kept HF.out (fun h => h)).kept (((Kept.refl (RS2 gS gL) wa).drew).trans kp) HNE.out))))
        clear hp kp hk9
        go_wp2
        go_roundw
        case rel => exact ⟨k + 1, by omega, by go_num, by show _ ∧ _; rw [HT.out]; exact ⟨by rw [HE.out]; exact HN.out.1, HN.out.2⟩⟩
        case measure => simp [intOf]; omega
      | false =>
        go_wp2
        go_region_held3 (fun w' => w'.cell? ⟨w.heap.size, 0, none⟩ = some (.slice (some ⟨gS, 0, none⟩) nS nS) ∧ w'.cell? ⟨w.heap.size, 1, none⟩ = some (.slice (some ⟨gL, 0, none⟩) nL nL) ∧ w'.cell? ⟨b, off + k * 6, none⟩ = some (.int .i64 tk) ∧ w'.cell? ⟨b, off + k * 6 + 1, none⟩ = some (.int .i64 tn))
          (first
            | go_keep
            | (go_split_ands
               have kk := ((Kept.refl (RS2 gS gL) wa).drew).trans kp
               exact ⟨(kk.cell zq2 HNE.out).trans p0, (kk.cell zq2 HNE.out).trans p1, (kk.cell hbl2 (HRB.out b hRb)).trans d0, (kk.cell hbl2 (HRB.out b hRb)).trans d1⟩))
          (first
            | (go_at_call 61; refine (HPT.out _ ((Kept.refl _ wa).drew) gv hgr).mono ?_; rintro e wp ⟨rfl, hp, kp⟩))
        have hk9 := ((HX.out.2.1.trans (HF.out.mono (fun i _ h => h.elim))).trans ((Kept.refl (RS2 gS gL) wa).drew)).trans kp
        have HN := Lib.hid (And.intro hp (And.intro hk9 (And.intro HO.out ((HX.out.2.2.2.kept HF.out (fun h => h)).kept (((Kept.refl (RS2 gS gL) wa).drew).trans kp) HNE.out))))
        clear hp kp hk9
        go_wp2
        go_roundw
        case rel => exact ⟨k + 1, by omega, by go_num, by show _ ∧ _; rw [HT.out]; exact ⟨by rw [HE.out]; exact HN.out.1, HN.out.2⟩⟩
        case measure => simp [intOf]; omega
    · obtain rfl : k = l.length := by omega
      have HN := Lib.hid hx.out
      rw [List.take_length] at HN
      have q1 := hx.out.2.2.2.cell 0
      go_wp2
      go_end0
      exact ⟨rfl, HN.out.1, HN.out.2.1⟩
end Go.Proofs.Ytodmkjeankbieab

/- The walks of done's store: get, put. -/
namespace Go.Proofs.Ytodmkjeankbieab
open Go.RowKit Go.Sort

set_option maxHeartbeats 1000000 in
set_option maxRecDepth 100000 in
theorem dGet_any (bs : Nat) (s : Sto) (a : PlaceV) (w : World) (h : Blk w bs 104 (stC s)) (hs : StOk s) (ha : Has a) :
    Calls Try.prog 57 #[.pointer (some ⟨bs, 0, none⟩), a.val] w fun e w' => e = .returned (.int .u64 (getS s a)) ∧ Fr w w' := by
  obtain ⟨h1, h2, h3⟩ := ha
  obtain ⟨k, n⟩ := a
  simp only at h1 h2 h3
  unfold PlaceV.val
  simp only
  have zb := h.lt
  have F0 := Lib.hid (show Fr w (w.alloc (.cells #[.int .i64 k, .int .i64 n] 57)) from (Kept.refl _ w).alloc _)
  by_cases e1 : k = 1
  · subst e1
    have hn := h1 rfl
    obtain ⟨m, rfl⟩ : ∃ m : Nat, n = (m : Int) := ⟨n.toNat, by omega⟩
    have c0 := (h.cell m).trans (stC_sg (by omega))
    have r0 := hs.sg m
    have hg : Hid (getS s ⟨1, m⟩ = s.sg m) := rfl
    clear h1 h2 h3 h hs
    generalize s.sg m = x at *
    go_enter Try.func57, Try.ntmps57
    go_wp2
    go_quiet (fail)
    go_wp2
    go_ret
    refine ⟨?_, F0.out.drewN nq⟩
    rw [hg.out]; rfl
  · by_cases e2 : k = 2
    · subst e2
      have hn := h2 rfl
      obtain ⟨m, rfl⟩ : ∃ m : Nat, n = (m : Int) := ⟨n.toNat, by omega⟩
      have c0 := (h.cell (2 * m)).trans (stC_sg (by omega))
      have c1 := (h.cell (2 * m + 1)).trans (stC_sg (by omega))
      have r0 := hs.sg (2 * m)
      have r1 := hs.sg (2 * m + 1)
      have hg : Hid (getS s ⟨2, m⟩ = s.sg (2 * m + 1) * 4294967296 + s.sg (2 * m)) := rfl
      rw [show ((2 * m : Nat) : Int) = 2 * (m : Int) by omega] at c0
      rw [show ((2 * m + 1 : Nat) : Int) = 2 * (m : Int) + 1 by omega] at c1
      clear h1 h2 h3 h hs
      generalize s.sg (2 * m + 1) = y at *
      generalize s.sg (2 * m) = x at *
      have hor := or_u64 x y r0.1 r0.2 r1.1 r1.2
      go_enter Try.func57, Try.ntmps57
      go_wp2
      go_quiet (fail)
      go_wp2
      go_ret
      refine ⟨?_, F0.out.drewN nq⟩
      rw [hg.out]; rfl
    · by_cases e3 : k = 3
      · subst e3
        have hn := h3 rfl
        obtain ⟨m, rfl⟩ : ∃ m : Nat, n = (m : Int) := ⟨n.toNat, by omega⟩
        have c0 := (h.cell (16 + m)).trans (stC_sl (by omega))
        have r0 := hs.sl m
        have hg : Hid (getS s ⟨3, m⟩ = s.sl m) := rfl
        clear h1 h2 h3 h hs
        generalize s.sl m = x at *
        go_enter Try.func57, Try.ntmps57
        go_wp2
        go_quiet (fail)
        go_wp2
        go_ret
        refine ⟨?_, F0.out.drewN nq⟩
        rw [hg.out]; rfl
      · have hg : Hid (getS s ⟨k, n⟩ = 0) := by show _ = _; unfold getS; rw [if_neg e1, if_neg e2, if_neg e3]
        have e1' : (k == 1) = false := by simpa using e1
        have e2' : (k == 2) = false := by simpa using e2
        have e3' : (k == 3) = false := by simpa using e3
        clear h1 h2 h3 h hs
        go_enter Try.func57, Try.ntmps57
        go_wp2
        go_ret
        refine ⟨?_, F0.out⟩
        rw [hg.out]; rfl

set_option maxHeartbeats 1000000 in
set_option maxRecDepth 100000 in
theorem dPut_any (bs : Nat) (s : Sto) (a : PlaceV) (v : Int) (w : World) (h : Blk w bs 104 (stC s)) (ha : Has a) (hv : 0 ≤ v ∧ v < 18446744073709551616) :
    Calls Try.prog 58 #[.pointer (some ⟨bs, 0, none⟩), a.val, .int .u64 v] w fun e w' => e = .returned (.tuple #[]) ∧ Blk w' bs 104 (stC (putS s a v)) ∧ Kept (fun b => b = bs) w w' := by
  obtain ⟨h1, h2, h3⟩ := ha
  obtain ⟨k, n⟩ := a
  simp only at h1 h2 h3
  unfold PlaceV.val
  simp only
  have zb := h.lt
  have F0 := Lib.hid (show Kept (fun b => b = bs) w (w.alloc (.cells #[.int .i64 k, .int .i64 n] 57)) from (Kept.refl _ w).alloc _)
  have HB := Lib.hid h
  have HK := Lib.hid (fun p x (hp : p.block = bs) => (Kept.refl (fun b => b = bs) w).setCell (p := p) (fun _ => hp) x)
  by_cases e1 : k = 1
  · subst e1
    have hn := h1 rfl
    obtain ⟨m, rfl⟩ : ∃ m : Nat, n = (m : Int) := ⟨n.toNat, by omega⟩
    have c0 := (h.cell m).trans (stC_sg (by omega))
    have y0 := h.frozen m
    have hg : Hid (putS s ⟨1, m⟩ v = { s with sg := upd s.sg m (v % 4294967296) }) := rfl
    have HS := Lib.hid (stC_setg (s := s) (t := m) (by omega) (v % 4294967296))
    clear h1 h2 h3 h
    generalize s.sg m = x at *
    go_enter Try.func58, Try.ntmps58
    go_wp2
    go_region
    go_wp2
    go_end0
    refine ⟨rfl, ?_, ((HK.out ⟨bs, m, none⟩ _ rfl).alloc _).drew⟩
    have := HB.out.set_ m (.int .u32 (v % 4294967296))
    rw [HS.out] at this
    rw [hg.out]; exact this.alloc _
  · by_cases e2 : k = 2
    · subst e2
      have hn := h2 rfl
      obtain ⟨m, rfl⟩ : ∃ m : Nat, n = (m : Int) := ⟨n.toNat, by omega⟩
      have c0 := (h.cell (2 * m)).trans (stC_sg (by omega))
      have c1 := (h.cell (2 * m + 1)).trans (stC_sg (by omega))
      have y0 := h.frozen (2 * m)
      have y1 := h.frozen (2 * m + 1)
      have hg : Hid (putS s ⟨2, m⟩ v = { s with sg := upd (upd s.sg (2 * m) (v % 4294967296)) (2 * m + 1) (v / 4294967296) }) := rfl
      clear h1 h2 h3 h
      go_enter Try.func58, Try.ntmps58
      go_wp2
      go_region
      go_wp2
      go_end0
      refine ⟨rfl, ?_, (((HK.out ⟨bs, 2 * m, none⟩ _ rfl).setCell (p := ⟨bs, 2 * m + 1, none⟩) (fun _ => rfl) _).alloc _).drew⟩
      have := HB.out.set_ (2 * m) (.int .u32 (v % 4294967296))
      rw [stC_setg (by omega)] at this
      have := this.set_ (2 * m + 1) (.int .u32 (v / 4294967296))
      rw [stC_setg (by omega), show ((2 * m : Nat) : Int) = 2 * (m : Int) by omega, show ((2 * m + 1 : Nat) : Int) = 2 * (m : Int) + 1 by omega] at this
      rw [hg.out]; exact this.alloc _
    · by_cases e3 : k = 3
      · subst e3
        have hn := h3 rfl
        obtain ⟨m, rfl⟩ : ∃ m : Nat, n = (m : Int) := ⟨n.toNat, by omega⟩
        have c0 := (h.cell (16 + m)).trans (stC_sl (by omega))
        have y0 := h.frozen (16 + m)
        have hg : Hid (putS s ⟨3, m⟩ v = { s with sl := upd s.sl m v }) := rfl
        have HS := Lib.hid (stC_setl (s := s) (t := m) v)
        clear h1 h2 h3 h
        generalize s.sl m = x at *
        go_enter Try.func58, Try.ntmps58
        go_wp2
        go_region
        go_wp2
        go_end0
        refine ⟨rfl, ?_, ((HK.out ⟨bs, 16 + m, none⟩ _ rfl).alloc _).drew⟩
        have := HB.out.set_ (16 + m) (.int .u64 v)
        rw [HS.out] at this
        rw [hg.out]; exact this.alloc _
      · have hg : Hid (putS s ⟨k, n⟩ v = s) := by show _ = _; unfold putS; rw [if_neg e1, if_neg e2, if_neg e3]
        have e1' : (k == 1) = false := by simpa using e1
        have e2' : (k == 2) = false := by simpa using e2
        have e3' : (k == 3) = false := by simpa using e3
        clear h1 h2 h3 h
        go_enter Try.func58, Try.ntmps58
        go_wp2
        go_end0
        exact ⟨rfl, by rw [hg.out]; exact HB.out.alloc _, F0.out⟩
end Go.Proofs.Ytodmkjeankbieab

/- The walk of done's store: moves. -/
namespace Go.Proofs.Ytodmkjeankbieab
open Go.RowKit Go.Sort

set_option maxHeartbeats 1000000 in
set_option maxRecDepth 100000 in
theorem dMoves_any (R : Nat → Prop) (bs : Nat) (s : Sto) (v : Value) (l : List Mv) (w : World) (h : Blk w bs 104 (stC s)) (hs : StOk s) (hr : RdMv w R v l) (hR : ∀ b, R b → b ≠ bs) (hl : l.length ≤ 1000) (hm : ∀ m ∈ l, MvHas m) :
    Calls Try.prog 56 #[.pointer (some ⟨bs, 0, none⟩), v] w fun e w' => e = .returned (.tuple #[]) ∧ Blk w' bs 104 (stC (movesS s l)) ∧ Kept (fun b => b = bs) w w' ∧ StOk (movesS s l) := by
  obtain ⟨A, c, rfl, _, hr, _⟩ := hr
  have HR := Lib.hid hr
  have HM := Lib.hid hm
  have HRB := Lib.hid hR
  have H0 := Lib.hid h
  have HS := Lib.hid hs
  clear hr hm hR h hs
  go_enter Try.func56, Try.ntmps56
  go_wp2
  go_loopw [8] (fun i wr => ∃ k : Nat, k ≤ l.length ∧ i = .int .i64 k ∧ Hid (Blk wr bs 104 (stC (movesS s (l.take k))) ∧ Kept (fun b => b = bs) w wr ∧ StOk (movesS s (l.take k)))) (fun i _ => l.length - (intOf i).toNat)
  case atStart => exact ⟨0, Nat.zero_le _, rfl, H0.out, Kept.refl _ w, HS.out⟩
  case round =>
    obtain ⟨k, hk, rfl, hx⟩ := hrel
    by_cases hlt : k < l.length
    · have hg : l[k]? = some l[k] := List.getElem?_eq_getElem hlt
      obtain ⟨b, off, rfl, hRb, c0, c1, c2, c3, c4, c5⟩ := (HR.out.kept hx.out.2.1 (fun b hb e => HRB.out b hb e)).mv hg
      have hmv := HM.out _ (List.getElem_mem hlt)
      have HT := Lib.hid (moves_take (s := s) hg)
      have HO := Lib.hid (hx.out.2.2.move hmv)
      have hbl := cell_lt c0
      have hk0 : (0 : Int) ≤ (k : Int) := Int.natCast_nonneg _
      have hk1 : (k : Int) < (l.length : Int) := by omega
      clear hg
      generalize l[k] = m at *
      obtain ⟨⟨tk, tn⟩, ⟨fk, fn⟩, mc, n⟩ := m
      simp only at c0 c1 c2 c3 c4 c5
      have hto := hmv.to
      have hfr := hmv.fr
      have hn := hmv.n
      simp only at hto hfr hn
      have HTO := Lib.hid hto
      have HFR := Lib.hid hfr
      have HX := Lib.hid hx.out
      clear hmv hto hfr hx
      generalize movesS s (l.take k) = s' at *
      obtain ⟨wB, rfl⟩ : ∃ wB : World, wB = wr := ⟨_, rfl⟩
      cases mc with
      | true =>
        have hwB : Hid (Blk (wB.alloc (.cells #[.int .i64 tk, .int .i64 tn, .int .i64 fk, .int .i64 fn, .bool true, .int .u32 n] 74)) bs 104 (stC s')) := HX.out.1.alloc _
        have hkB : Hid (Kept (fun b => b = bs) w (wB.alloc (.cells #[.int .i64 tk, .int .i64 tn, .int .i64 fk, .int .i64 fn, .bool true, .int .u32 n] 74))) := HX.out.2.1.alloc _
        go_wp2_with fail
        refine (dPut_any bs s' ⟨tk, tn⟩ (n : Int) _ hwB.out HTO.out (by omega)).mono ?_
        rintro e w1 ⟨rfl, hb1, k1⟩
        have HN := Lib.hid (And.intro hb1 (And.intro (hkB.out.trans k1) HO.out))
        clear hb1 k1
        go_wp2
        go_roundw
        case rel => exact ⟨k + 1, by omega, by go_num, by show _ ∧ _; rw [HT.out]; exact HN.out⟩
        case measure => simp [intOf]; omega
      | false =>
        go_wp2
        have HBm := Lib.hid (Blk.new wB 74 #[.int .i64 tk, .int .i64 tn, .int .i64 fk, .int .i64 fn, .bool false, .int .u32 n])
        have hwB : Hid (Blk (wB.alloc (.cells #[.int .i64 tk, .int .i64 tn, .int .i64 fk, .int .i64 fn, .bool false, .int .u32 n] 74)) bs 104 (stC s')) := HX.out.1.alloc _
        have hkB : Hid (Kept (fun b => b = bs) w (wB.alloc (.cells #[.int .i64 tk, .int .i64 tn, .int .i64 fk, .int .i64 fn, .bool false, .int .u32 n] 74))) := HX.out.2.1.alloc _
        have hne : wB.heap.size ≠ bs := by have := HX.out.1.lt; omega
        generalize wB.alloc (.cells #[.int .i64 tk, .int .i64 tn, .int .i64 fk, .int .i64 fn, .bool false, .int .u32 n] 74) = W at *
        clear c0 c1 c2 c3 c4 c5 hbl
        have e0 := HBm.out.cell 0
        have e1 := HBm.out.cell 1
        have e2 := HBm.out.cell 2
        have e3 := HBm.out.cell 3
        have zm := HBm.out.lt
        simp only [List.getElem?_toArray, List.getElem?_cons_succ, List.getElem?_cons_zero] at e0 e1 e2 e3
        have HGT := Lib.hid (HX.out.2.2.get ⟨fk, fn⟩)
        go_region_held3 (fun w' => w'.cell? ⟨wB.heap.size, 0, none⟩ = some (.int .i64 tk) ∧ w'.cell? ⟨wB.heap.size, 1, none⟩ = some (.int .i64 tn) ∧ w'.cell? ⟨wB.heap.size, 2, none⟩ = some (.int .i64 fk) ∧ w'.cell? ⟨wB.heap.size, 3, none⟩ = some (.int .i64 fn))
          (first
            | go_keep
            | (go_split_ands
               have hB3 := HBm.out.kept ((Kept.refl (fun _ => False) W).drew.trans f1) (fun h => h)
               refine ⟨?_, ?_, ?_, ?_⟩
               · exact hB3.cell 0
               · exact hB3.cell 1
               · exact hB3.cell 2
               · exact hB3.cell 3)
            | (go_split_ands
               have hB3 := (HBm.out.kept ((Kept.refl (fun _ => False) W).drew.trans f1) (fun h => h)).kept k2 hne
               refine ⟨?_, ?_, ?_, ?_⟩
               · exact hB3.cell 0
               · exact hB3.cell 1
               · exact hB3.cell 2
               · exact hB3.cell 3))
          (first
            | (go_at_call 57; refine (dGet_any bs s' ⟨fk, fn⟩ _ (hwB.out.kept ((Kept.refl (fun _ => False) W).drew) (fun h => h)) HX.out.2.2 (HFR.out (by trivial))).mono ?_; rintro e w1 ⟨rfl, f1⟩)
            | (go_at_call 58; refine (dPut_any bs s' ⟨tk, tn⟩ (getS s' ⟨fk, fn⟩) _ (hwB.out.kept (((Kept.refl (fun _ => False) W).drew).trans f1) (fun h => h)) HTO.out HGT.out).mono ?_; rintro e w2 ⟨rfl, hb2, k2⟩))
        have HN := Lib.hid (And.intro hb2 (And.intro ((hkB.out.trans ((((Kept.refl (fun _ => False) W).drew).trans f1).mono (fun _ _ h => h.elim))).trans k2) HO.out))
        clear hb2 k2 f1
        go_wp2
        go_roundw
        case rel => exact ⟨k + 1, by omega, by go_num, by show _ ∧ _; rw [HT.out]; exact HN.out⟩
        case measure => simp [intOf]; omega
    · obtain rfl : k = l.length := by omega
      have HN := Lib.hid hx.out
      rw [List.take_length] at HN
      go_wp2
      go_end0
      exact ⟨rfl, HN.out.1, HN.out.2.1, HN.out.2.2⟩
end Go.Proofs.Ytodmkjeankbieab

/- The walk of the closure of done.Run: one instruction, in its places. -/
namespace Go.Proofs.Ytodmkjeankbieab
open Go.RowKit Go.Sort

/-- what the closure captures: the program's variable, the places', the store's, the machine's -/
structure DClo (w : World) (bp bl bv bm bs g B : Nat) (p : Pg) (A1 : Option Addr) (c1 : Nat) (A : Option Addr) (c : Nat) (sl : Int) (Al : Option Addr) (cl : Nat) (lv : List RwV) (s : Sto) : Prop where
  pb : Blk w bp 25 #[.slice A1 p.wide.length c1, .slice A p.code.length c]
  lb : Blk w bl 50 #[.int .i64 sl, .slice Al lv.length cl]
  vb : Blk w bv 101 #[.pointer (some ⟨bs, 0, none⟩)]
  mb : Blk w bm 83 #[.pointer (some ⟨g, 0, none⟩)]
  sb : Blk w bs 104 (stC s)
  rd : Reads w (fun b => b < B) 6 A p.code.length (p.code.flatMap In.cells)
  rl : Reads w (fun b => b < B) 8 Al lv.length (lv.flatMap RwV.cells)
  ro : ∀ x ∈ lv, x.ok w (fun b => b < B)
section
variable {w w' : World} {bp bl bv bm bs g B : Nat} {p : Pg} {A1 : Option Addr} {c1 : Nat} {A : Option Addr} {c : Nat} {sl : Int} {Al : Option Addr} {cl : Nat} {lv : List RwV} {s s' : Sto}
theorem DClo.fr_ (h : DClo w bp bl bv bm bs g B p A1 c1 A c sl Al cl lv s) (hk : Fr w w') : DClo w' bp bl bv bm bs g B p A1 c1 A c sl Al cl lv s :=
  ⟨h.pb.kept hk (fun h => h), h.lb.kept hk (fun h => h), h.vb.kept hk (fun h => h), h.mb.kept hk (fun h => h), h.sb.kept hk (fun h => h), h.rd.kept hk (fun _ _ h => h), h.rl.kept hk (fun _ _ h => h), fun x hx => (h.ro x hx).kept hk (fun _ _ h => h)⟩
theorem DClo.put (h : DClo w bp bl bv bm bs g B p A1 c1 A c sl Al cl lv s) (hk : Kept (fun b => b = bs) w w') (hb : Blk w' bs 104 (stC s')) (hbs : B ≤ bs) : DClo w' bp bl bv bm bs g B p A1 c1 A c sl Al cl lv s' :=
  ⟨h.pb.kept hk (h.pb.ne_ h.sb (by decide)), h.lb.kept hk (h.lb.ne_ h.sb (by decide)), h.vb.kept hk (h.vb.ne_ h.sb (by decide)), h.mb.kept hk (h.mb.ne_ h.sb (by decide)), hb,
    h.rd.kept hk (fun b hb e => by omega), h.rl.kept hk (fun b hb e => by omega), fun x hx => (h.ro x hx).kept hk (fun b hb e => by omega)⟩
theorem DClo.keep {r : Sh} {vo : Value} (h : DClo w bp bl bv bm bs g B p A1 c1 A c sl Al cl lv s) (hm : Mc w g B r vo) (hg : B ≤ g) (hk : Kept (McS g vo) w w') : DClo w' bp bl bv bm bs g B p A1 c1 A c sl Al cl lv s := by
  have hB : ∀ b, b < B → ¬ McS g vo b := fun b hb e => by
    rcases e with e | e
    · omega
    · have := (own_lt hm.ow e).1; omega
  exact ⟨hm.blk hk h.pb (by decide) (by decide), hm.blk hk h.lb (by decide) (by decide), hm.blk hk h.vb (by decide) (by decide), hm.blk hk h.mb (by decide) (by decide), hm.blk hk h.sb (by decide) (by decide),
    h.rd.kept hk hB, h.rl.kept hk hB, fun x hx => (h.ro x hx).kept hk hB⟩
theorem DClo.mc {r : Sh} {vo : Value} (h : DClo w bp bl bv bm bs g B p A1 c1 A c sl Al cl lv s) (hm : Mc w g B r vo) (hbs : B ≤ bs) (hk : Kept (fun b => b = bs) w w') : Mc w' g B r vo := by
  obtain ⟨_, _, hb, _⟩ := hm.ex
  exact hm.kept hk (fun e => hb.ne_ h.sb (by decide) e) (fun k hk e => own_blk_ne hm.ow h.sb (by decide) (e ▸ hk)) (fun b hb e => by omega)
end

set_option maxHeartbeats 4000000 in
set_option maxRecDepth 100000 in
theorem Done1_any (bp bl bv bm bs g B : Nat) (p : Pg) (A1 : Option Addr) (c1 : Nat) (A : Option Addr) (c : Nat) (sl : Int) (Al : Option Addr) (cl : Nat) (lv : List RwV) (s : Sto) (r : Sh) (vo : Value) (w : World)
    (hC : DClo w bp bl bv bm bs g B p A1 c1 A c sl Al cl lv s) (hS : StOk s) (hM : Mc w g B r vo) (hg : B ≤ g) (hbs : B ≤ bs) (hpc : r.pc < p.code.length) (hlv : lv.length = p.code.length) (hcl : p.code.length ≤ 40)
    (hk : known (inAt p.code r.pc).op = true) (hn : (inAt p.code r.pc).n < 4294967296) (hc0 : 0 ≤ (inAt p.code r.pc).c) (y : RwV) (hy : lv[r.pc]? = some y) (hh : RwHas y.r)
    (h5 : (inAt p.code r.pc).op = 5 → getS (movesS s y.r.before) y.r.a < 4294967296 ∧ getS (movesS s y.r.before) y.r.b < 4294967296)
    (hs : r.steps ≤ 100000) (ho : r.out.length ≤ 100000) (hi : ∀ n ∈ r.ins, 0 ≤ n ∧ n < 4294967296) :
    Calls Try.prog 55 #[.int .i64 (r.pc : Int), .pointer (some ⟨bp, 0, none⟩), .pointer (some ⟨bl, 0, none⟩), .pointer (some ⟨bv, 0, none⟩), .pointer (some ⟨bm, 0, none⟩)] w fun e w' => e = .returned (.tuple #[]) ∧
      (∃ vo', Mc w' g B (rawStep r (inAt p.code r.pc) (getS (movesS s y.r.before) y.r.a)) vo') ∧
      DClo w' bp bl bv bm bs g B p A1 c1 A c sl Al cl lv (movesS (if gvs (inAt p.code r.pc).op then putS (movesS s y.r.before) y.r.d (giveV (inAt p.code r.pc) (getS (movesS s y.r.before) y.r.a) (getS (movesS s y.r.before) y.r.b) (r.ins.headD 0)) else movesS s y.r.before) y.r.after) ∧ Kept (RunS bs g vo) w w' := by
  have hx : p.code[r.pc]? = some (inAt p.code r.pc) := by rw [inAt_get hpc]; exact List.getElem?_eq_getElem hpc
  obtain ⟨b, off, rfl, hbB, d0, d1, d2, d3, d4, d5⟩ := hC.rd.ins hx
  obtain ⟨b2, off2, rfl, hbB2, k0, k1, k2, k3, k4, k5, k6, k7⟩ := hC.rl.rw hy
  obtain ⟨hyd, hya, hyb, rbf, raf⟩ := hC.ro y (List.mem_of_getElem? hy)
  clear hx hy
  generalize inAt p.code r.pc = i at *
  obtain ⟨op, d, a, b1, cc, n⟩ := i
  obtain ⟨⟨⟨dk, dn⟩, ⟨ak, an⟩, ⟨bk, bn⟩, bef, aft⟩, vb, va⟩ := y
  simp only at *
  obtain ⟨hhd, hha, hhb, hhf, hht, hlf, hlt⟩ := hh
  simp only at hhd hha hhb hhf hht hlf hlt
  obtain ⟨Ab, cb, rfl, _⟩ := id rbf
  obtain ⟨Aa, ca, rfl, _⟩ := id raf
  have p0 := hC.pb.cell 1
  have l0 := hC.lb.cell 1
  have v0 := hC.vb.cell 0
  simp only [List.getElem?_toArray, List.getElem?_cons_succ, List.getElem?_cons_zero] at p0 l0 v0
  have zb := cell_lt d0
  have zb2 := cell_lt k0
  have zp := hC.pb.lt
  have zl := hC.lb.lt
  have zv := hC.vb.lt
  have hp0 : (0 : Int) ≤ (r.pc : Int) := Int.natCast_nonneg _
  have hp1 : (r.pc : Int) < (p.code.length : Int) := by omega
  have hp2 : (r.pc : Int) < (lv.length : Int) := by omega
  have HC := Lib.hid hC
  have HM := Lib.hid hM
  have H5 := Lib.hid h5
  have HK := Lib.hid hk
  have HI := Lib.hid hi
  have HS := Lib.hid hS
  have HBF := Lib.hid rbf
  have HAF := Lib.hid raf
  have HHD := Lib.hid hhd
  have HHA := Lib.hid hha
  have HHB := Lib.hid hhb
  have HHF := Lib.hid hhf
  have HHT := Lib.hid hht
  have HS1 := Lib.hid (hS.moves hhf)
  clear hC hM h5 hk hi hS rbf raf hhd hha hhb hhf hht hyd hya hyb
  have hga := HS1.out.get ⟨ak, an⟩
  have hgb := HS1.out.get ⟨bk, bn⟩
  have HD := Lib.hid (fun w (hm : Mc w g B r vo) => Do_any g B r vo ⟨op, d, a, b1, cc, n⟩ (getS (movesS s bef) ⟨ak, an⟩) (getS (movesS s bef) ⟨bk, bn⟩) w hm hg HK.out hn hga hgb H5.out hs ho (by omega) (fun _ => hc0) HI.out)
  have HG := Lib.hid (fun w => Gives_any ⟨op, d, a, b1, cc, n⟩ w HK.out)
  unfold In.val at HD HG
  simp only at HD HG
  obtain ⟨pc, ins, out, steps, state⟩ := r
  simp only at *
  have hxr := head_num HI.out
  generalize ins.headD 0 = xh at *
  generalize hs1 : movesS s bef = s1 at *
  have H1 := Lib.hid hs1
  clear hs1
  go_enter Try.func55, Try.ntmps55
  go_upto_region 0 with (fail)
  go_cut [6, 7] from 9 to 18 (fun p6 p7 wx => ∃ gi gr : Nat, p6 = .pointer (some ⟨gi, 0, none⟩) ∧ p7 = .pointer (some ⟨gr, 0, none⟩) ∧ Hid (Blk wx gi 45 #[.int .i64 op, .int .i64 d, .int .i64 a, .int .i64 b1, .int .i64 cc, .int .u32 n]) ∧
    Hid (Blk wx gr 60 #[.int .i64 dk, .int .i64 dn, .int .i64 ak, .int .i64 an, .int .i64 bk, .int .i64 bn, .slice Ab bef.length cb, .slice Aa aft.length ca]) ∧ Hid (Fr w wx))
  case first =>
    go_region
    · go_wp2
      go_meet
      refine ⟨_, _, rfl, rfl, ?_, ?_, (((Kept.refl _ w).alloc _).alloc _).drew⟩
      · show Blk ((w.alloc (.cells #[.int .i64 op, .int .i64 d, .int .i64 a, .int .i64 b1, .int .i64 cc, .int .u32 n] 45)).alloc (.cells #[.int .i64 dk, .int .i64 dn, .int .i64 ak, .int .i64 an, .int .i64 bk, .int .i64 bn, .slice Ab bef.length cb, .slice Aa aft.length ca] 60)) _ _ _
        exact (Blk.new w _ _).alloc _
      · have := Blk.new (w.alloc (.cells #[.int .i64 op, .int .i64 d, .int .i64 a, .int .i64 b1, .int .i64 cc, .int .u32 n] 45)) 60 #[.int .i64 dk, .int .i64 dn, .int .i64 ak, .int .i64 an, .int .i64 bk, .int .i64 bn, .slice Ab bef.length cb, .slice Aa aft.length ca]
        show Blk ((w.alloc (.cells #[.int .i64 op, .int .i64 d, .int .i64 a, .int .i64 b1, .int .i64 cc, .int .u32 n] 45)).alloc (.cells #[.int .i64 dk, .int .i64 dn, .int .i64 ak, .int .i64 an, .int .i64 bk, .int .i64 bn, .slice Ab bef.length cb, .slice Aa aft.length ca] 60)) _ _ _
        simpa using this
    · go_wp2
      go_meet
      refine ⟨_, _, rfl, rfl, ?_, ?_, (((Kept.refl _ w).alloc _).alloc _).drew⟩
      · have := Blk.new (w.alloc (.cells #[.int .i64 dk, .int .i64 dn, .int .i64 ak, .int .i64 an, .int .i64 bk, .int .i64 bn, .slice Ab bef.length cb, .slice Aa aft.length ca] 60)) 45 #[.int .i64 op, .int .i64 d, .int .i64 a, .int .i64 b1, .int .i64 cc, .int .u32 n]
        show Blk ((w.alloc (.cells #[.int .i64 dk, .int .i64 dn, .int .i64 ak, .int .i64 an, .int .i64 bk, .int .i64 bn, .slice Ab bef.length cb, .slice Aa aft.length ca] 60)).alloc (.cells #[.int .i64 op, .int .i64 d, .int .i64 a, .int .i64 b1, .int .i64 cc, .int .u32 n] 45)) _ _ _
        simpa using this
      · show Blk ((w.alloc (.cells #[.int .i64 dk, .int .i64 dn, .int .i64 ak, .int .i64 an, .int .i64 bk, .int .i64 bn, .slice Ab bef.length cb, .slice Aa aft.length ca] 60)).alloc (.cells #[.int .i64 op, .int .i64 d, .int .i64 a, .int .i64 b1, .int .i64 cc, .int .u32 n] 45)) _ _ _
        exact (Blk.new w _ _).alloc _
  case rest =>
    obtain ⟨gi, gr, rfl, rfl, HBi, HBr, HF⟩ := hcut
    have HC1 := Lib.hid (HC.out.fr_ HF.out)
    have HM1 := Lib.hid (HM.out.fr_ HF.out)
    have HBF1 := Lib.hid (HBF.out.kept HF.out (fun _ _ h => h))
    have HAF1 := Lib.hid (HAF.out.kept HF.out (fun _ _ h => h))
    have v0 := HC1.out.vb.cell 0
    have r6 := HBr.out.cell 6
    simp only [List.getElem?_toArray, List.getElem?_cons_succ, List.getElem?_cons_zero] at v0 r6
    have zv := HC1.out.vb.lt
    have zr := HBr.out.lt
    go_wp2_with fail
    refine (dMoves_any (fun b => b < B) bs s _ bef wc HC1.out.sb HS.out HBF1.out (fun b hb e => by omega) (by omega) HHF.out).mono ?_
    rintro e w1 ⟨rfl, hb1, k1, _⟩
    rw [H1.out] at hb1
    have HC2 := Lib.hid (HC1.out.put k1 hb1 hbs)
    have HM2 := Lib.hid (HC1.out.mc HM1.out hbs k1)
    have HBi2 := Lib.hid (HBi.out.kept k1 (HBi.out.ne_ HC1.out.sb (by decide)))
    have HBr2 := Lib.hid (HBr.out.kept k1 (HBr.out.ne_ HC1.out.sb (by decide)))
    have HAF2 := Lib.hid (HAF1.out.kept k1 (fun b hb e => by omega))
    have HKp : Hid (Kept (RunS bs g vo) w w1) := (HF.out.mono (fun i _ h => h.elim)).trans (k1.mono (fun i _ h => Or.inl h))
    clear v0 r6 zv zr HC HM HC1 HM1 HBi HBr HBF HBF1 HAF HAF1 HF k1 hb1 HS HHF
    have m0 := HC2.out.mb.cell 0
    have v0 := HC2.out.vb.cell 0
    have e0 := HBi2.out.cell 0
    have e1 := HBi2.out.cell 1
    have e2 := HBi2.out.cell 2
    have e3 := HBi2.out.cell 3
    have e4 := HBi2.out.cell 4
    have e5 := HBi2.out.cell 5
    have r2 := HBr2.out.cell 2
    have r3 := HBr2.out.cell 3
    have r4 := HBr2.out.cell 4
    have r5 := HBr2.out.cell 5
    simp only [List.getElem?_toArray, List.getElem?_cons_succ, List.getElem?_cons_zero] at m0 v0 e0 e1 e2 e3 e4 e5 r2 r3 r4 r5
    have HGT := Lib.hid (fun k n w2 (hf : Fr w1 w2) (hh : Has ⟨k, n⟩) => (dGet_any bs s1 ⟨k, n⟩ w2 (HC2.out.sb.kept hf (fun h => h)) HS1.out hh).mono (fun e w' (h : _ ∧ Fr w2 w') => And.intro h.1 (hf.trans h.2)))
    unfold PlaceV.val at HGT
    simp only at HGT
    have HDW := Lib.hid (fun w2 (hf : Fr w1 w2) => HD.out w2 (HM2.out.fr_ hf))
    have HCells : Hid (∀ w2, Fr w1 w2 → _) := fun w2 (hf : Fr w1 w2) => And.intro ((HC2.out.mb.kept hf (fun h => h)).cell 0) (And.intro ((HC2.out.vb.kept hf (fun h => h)).cell 0) (And.intro (HBi2.out.kept hf (fun h => h)) (HBr2.out.kept hf (fun h => h))))
    go_wp2
    go_region_held3 (fun w' => w'.cell? ⟨bm, 0, none⟩ = some (.pointer (some ⟨g, 0, none⟩)) ∧ w'.cell? ⟨bv, 0, none⟩ = some (.pointer (some ⟨bs, 0, none⟩)) ∧ w'.cell? ⟨gi, 0, none⟩ = some (.int .i64 op) ∧ w'.cell? ⟨gi, 1, none⟩ = some (.int .i64 d) ∧ w'.cell? ⟨gi, 2, none⟩ = some (.int .i64 a) ∧
        w'.cell? ⟨gi, 3, none⟩ = some (.int .i64 b1) ∧ w'.cell? ⟨gi, 4, none⟩ = some (.int .i64 cc) ∧ w'.cell? ⟨gi, 5, none⟩ = some (.int .u32 n) ∧
        w'.cell? ⟨gr, 2, none⟩ = some (.int .i64 ak) ∧ w'.cell? ⟨gr, 3, none⟩ = some (.int .i64 an) ∧ w'.cell? ⟨gr, 4, none⟩ = some (.int .i64 bk) ∧ w'.cell? ⟨gr, 5, none⟩ = some (.int .i64 bn))
      (first
        | go_keep
        | (go_split_ands
           have hc := HCells.out _ fa
           exact ⟨hc.1, hc.2.1, hc.2.2.1.cell 0, hc.2.2.1.cell 1, hc.2.2.1.cell 2, hc.2.2.1.cell 3, hc.2.2.1.cell 4, hc.2.2.1.cell 5, hc.2.2.2.cell 2, hc.2.2.2.cell 3, hc.2.2.2.cell 4, hc.2.2.2.cell 5⟩)
        | (go_split_ands
           have hC3 := HC2.out.keep HM2.out hg hk3
           have hI3 := HM2.out.blk hk3 HBi2.out (by decide) (by decide)
           have hR3 := HM2.out.blk hk3 HBr2.out (by decide) (by decide)
           exact ⟨hC3.mb.cell 0, hC3.vb.cell 0, hI3.cell 0, hI3.cell 1, hI3.cell 2, hI3.cell 3, hI3.cell 4, hI3.cell 5, hR3.cell 2, hR3.cell 3, hR3.cell 4, hR3.cell 5⟩))
      (first
        | (go_at_call 57; refine (HGT.out _ _ _ (by first | exact (Kept.refl _ w1).drew | exact fa) (by first | exact HHA.out | exact HHB.out)).mono ?_; rintro e wa ⟨rfl, fa⟩)
        | (go_at_call 42; refine (HDW.out _ fa).mono ?_; rintro e w3 ⟨v, rfl, hv, ⟨vo3, hm3⟩, hk9⟩; have hk3 : Kept (McS g vo) w1 w3 := (fa.mono (fun i _ h => h.elim)).trans hk9))
    all_goals
      rename_i hHeld
      obtain ⟨-, -, e0, e1, e2, e3, e4, e5, -, -, -, -⟩ := hHeld
      have hBB : ∀ b, b < B → ¬ McS g vo b := fun b hb e => by
        rcases e with e | e
        · omega
        · have := (own_lt HM2.out.ow e).1; omega
      have HC3 := Lib.hid (HC2.out.keep HM2.out hg hk3)
      have HI3 := Lib.hid (HM2.out.blk hk3 HBi2.out (by decide) (by decide))
      have HR3 := Lib.hid (HM2.out.blk hk3 HBr2.out (by decide) (by decide))
      have HAF3 := Lib.hid (HAF2.out.kept hk3 hBB)
      have HM3 := Lib.hid hm3
      have HV := Lib.hid hv
      have HK3 := Lib.hid (HKp.out.trans (hk3.mono (fun i _ h => (Or.inr h : RunS bs g vo i))))
      have z3 := HI3.out.lt
      clear hm3 hv hk3 hk9 fa hBB HDW HCells HGT HC2 HM2 HBi2 HBr2 HAF2 HKp HD m0 v0 r2 r3 r4 r5
      have HVR := Lib.hid (fun hgv => giveV_num (i := ⟨op, d, a, b1, cc, n⟩) HK.out hgv hga hgb H5.out hn hxr)
      cases hgv : gvs op with
      | false =>
        rw [hgv] at HG
        clear HV HVR
        go_wp2_with fail
        refine (HG.out _).mono ?_
        rintro e w4 ⟨rfl, f4⟩
        have HC4 := Lib.hid (HC3.out.fr_ f4)
        have HM4 := Lib.hid (HM3.out.fr_ f4)
        have HR4 := Lib.hid (HR3.out.kept f4 (fun h => h))
        have HAF4 := Lib.hid (HAF3.out.kept f4 (fun _ _ h => h))
        have HK4 := Lib.hid (HK3.out.trans (f4.mono (fun i _ h => h.elim)))
        have v0 := HC4.out.vb.cell 0
        have r7 := HR4.out.cell 7
        simp only [List.getElem?_toArray, List.getElem?_cons_succ, List.getElem?_cons_zero] at v0 r7
        clear f4 HC3 HM3 HI3 HR3 HAF3 HK3 e0 e1 e2 e3 e4 e5 z3
        go_wp2_with fail
        refine (dMoves_any (fun b => b < B) bs s1 _ aft w4 HC4.out.sb HS1.out HAF4.out (fun b hb e => by omega) (by omega) HHT.out).mono ?_
        rintro e w5 ⟨rfl, hb5, k5, _⟩
        have HN := Lib.hid (And.intro (show (∃ vo', Mc w5 g B _ vo') from ⟨vo3, HC4.out.mc HM4.out hbs k5⟩) (And.intro (HC4.out.put k5 hb5 hbs) (HK4.out.trans (k5.mono (fun i _ h => (Or.inl h : RunS bs g vo i))))))
        clear hb5 k5 HC4 HM4 HR4 HAF4 HK4 v0 r7
        go_wp2
        all_goals
          go_end0
          exact ⟨rfl, HN.out.1, HN.out.2.1, HN.out.2.2⟩
      | true =>
        have hV := HV.out hgv
        have hVR := HVR.out hgv
        rw [hgv] at HG
        rw [← hV] at hVR
        have HVE := Lib.hid hV
        clear HV HVR hV
        go_wp2_with fail
        refine (HG.out _).mono ?_
        rintro e w4 ⟨rfl, f4⟩
        have HC4 := Lib.hid (HC3.out.fr_ f4)
        have HM4 := Lib.hid (HM3.out.fr_ f4)
        have HR4 := Lib.hid (HR3.out.kept f4 (fun h => h))
        have HAF4 := Lib.hid (HAF3.out.kept f4 (fun _ _ h => h))
        have HK4 := Lib.hid (HK3.out.trans (f4.mono (fun i _ h => h.elim)))
        have v0 := HC4.out.vb.cell 0
        have r0 := HR4.out.cell 0
        have r1 := HR4.out.cell 1
        simp only [List.getElem?_toArray, List.getElem?_cons_succ, List.getElem?_cons_zero] at v0 r0 r1
        clear f4 HC3 HM3 HI3 HR3 HAF3 HK3 e0 e1 e2 e3 e4 e5 z3
        go_wp2_with fail
        refine (dPut_any bs s1 ⟨dk, dn⟩ v w4 HC4.out.sb HHD.out hVR).mono ?_
        rintro e w5 ⟨rfl, hb5, k5⟩
        have HC5 := Lib.hid (HC4.out.put k5 hb5 hbs)
        have HM5 := Lib.hid (HC4.out.mc HM4.out hbs k5)
        have HR5 := Lib.hid (HR4.out.kept k5 (HR4.out.ne_ HC4.out.sb (by decide)))
        have HAF5 := Lib.hid (HAF4.out.kept k5 (fun b hb e => by omega))
        have HK5 := Lib.hid (HK4.out.trans (k5.mono (fun i _ h => (Or.inl h : RunS bs g vo i))))
        have v0 := HC5.out.vb.cell 0
        have r7 := HR5.out.cell 7
        simp only [List.getElem?_toArray, List.getElem?_cons_succ, List.getElem?_cons_zero] at v0 r7
        clear hb5 k5 HC4 HM4 HR4 HAF4 HK4
        go_wp2_with fail
        refine (dMoves_any (fun b => b < B) bs (putS s1 ⟨dk, dn⟩ v) _ aft w5 HC5.out.sb (HS1.out.put _ hVR) HAF5.out (fun b hb e => by omega) (by omega) HHT.out).mono ?_
        rintro e w6 ⟨rfl, hb6, k6, _⟩
        have HN := Lib.hid (And.intro (show (∃ vo', Mc w6 g B _ vo') from ⟨vo3, HC5.out.mc HM5.out hbs k6⟩) (And.intro (HC5.out.put k6 hb6 hbs) (HK5.out.trans (k6.mono (fun i _ h => (Or.inl h : RunS bs g vo i))))))
        clear hb6 k6 HC5 HM5 HR5 HAF5 HK5 v0 r7
        go_wp2
        go_end0
        refine ⟨rfl, HN.out.1, ?_, HN.out.2.2⟩
        rw [← HVE.out]
        exact HN.out.2.1
end Go.Proofs.Ytodmkjeankbieab
