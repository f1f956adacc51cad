/- The walks of done's store: get, put. -/
import Derived.Test.YtodmkjeankbieabRun1
import Derived.Test.YtodmkjeankbieabHasPlain
namespace Go.Proofs.Ytodmkjeankbieab
open Go.RowKit Go.Sort

set_option maxHeartbeats 1000000 in
set_option maxRecDepth 100000 in
theorem dGet_any (bs : Nat) (s : Sto) (a : PlaceV) (w : World) (h : Blk w bs 104 (stC s)) (hs : StOk s) (ha : Has a) :
    Calls Try.prog 57 #[.pointer (some ⟨bs, 0, none⟩), a.val] w fun e w' => e = .returned (.int .u64 (getS s a)) ∧ Fr w w' := by
  obtain ⟨h1, h2, h3⟩ := ha
  obtain ⟨k, n⟩ := a
  simp only at h1 h2 h3
  unfold PlaceV.val
  simp only
  have zb := h.lt
  have F0 := Lib.hid (show Fr w (w.alloc (.cells #[.int .i64 k, .int .i64 n] 57)) from (Kept.refl _ w).alloc _)
  by_cases e1 : k = 1
  · subst e1
    have hn := h1 rfl
    obtain ⟨m, rfl⟩ : ∃ m : Nat, n = (m : Int) := ⟨n.toNat, by omega⟩
    have c0 := (h.cell m).trans (stC_sg (by omega))
    have r0 := hs.sg m
    have hg : Hid (getS s ⟨1, m⟩ = s.sg m) := rfl
    clear h1 h2 h3 h hs
    generalize s.sg m = x at *
    go_enter Try.func57, Try.ntmps57
    go_wp2
    go_quiet (fail)
    go_wp2
    go_ret
    refine ⟨?_, F0.out.drewN nq⟩
    rw [hg.out]; rfl
  · by_cases e2 : k = 2
    · subst e2
      have hn := h2 rfl
      obtain ⟨m, rfl⟩ : ∃ m : Nat, n = (m : Int) := ⟨n.toNat, by omega⟩
      have c0 := (h.cell (2 * m)).trans (stC_sg (by omega))
      have c1 := (h.cell (2 * m + 1)).trans (stC_sg (by omega))
      have r0 := hs.sg (2 * m)
      have r1 := hs.sg (2 * m + 1)
      have hg : Hid (getS s ⟨2, m⟩ = s.sg (2 * m + 1) * 4294967296 + s.sg (2 * m)) := rfl
      rw [show ((2 * m : Nat) : Int) = 2 * (m : Int) by omega] at c0
      rw [show ((2 * m + 1 : Nat) : Int) = 2 * (m : Int) + 1 by omega] at c1
      clear h1 h2 h3 h hs
      generalize s.sg (2 * m + 1) = y at *
      generalize s.sg (2 * m) = x at *
      have hor := or_u64 x y r0.1 r0.2 r1.1 r1.2
      go_enter Try.func57, Try.ntmps57
      go_wp2
      go_quiet (fail)
      go_wp2
      go_ret
      refine ⟨?_, F0.out.drewN nq⟩
      rw [hg.out]; rfl
    · by_cases e3 : k = 3
      · subst e3
        have hn := h3 rfl
        obtain ⟨m, rfl⟩ : ∃ m : Nat, n = (m : Int) := ⟨n.toNat, by omega⟩
        have c0 := (h.cell (16 + m)).trans (stC_sl (by omega))
        have r0 := hs.sl m
        have hg : Hid (getS s ⟨3, m⟩ = s.sl m) := rfl
        clear h1 h2 h3 h hs
        generalize s.sl m = x at *
        go_enter Try.func57, Try.ntmps57
        go_wp2
        go_quiet (fail)
        go_wp2
        go_ret
        refine ⟨?_, F0.out.drewN nq⟩
        rw [hg.out]; rfl
      · have hg : Hid (getS s ⟨k, n⟩ = 0) := by show _ = _; unfold getS; rw [if_neg e1, if_neg e2, if_neg e3]
        have e1' : (k == 1) = false := by simpa using e1
        have e2' : (k == 2) = false := by simpa using e2
        have e3' : (k == 3) = false := by simpa using e3
        clear h1 h2 h3 h hs
        go_enter Try.func57, Try.ntmps57
        go_wp2
        go_ret
        refine ⟨?_, F0.out⟩
        rw [hg.out]; rfl

set_option maxHeartbeats 1000000 in
set_option maxRecDepth 100000 in
theorem dPut_any (bs : Nat) (s : Sto) (a : PlaceV) (v : Int) (w : World) (h : Blk w bs 104 (stC s)) (ha : Has a) (hv : 0 ≤ v ∧ v < 18446744073709551616) :
    Calls Try.prog 58 #[.pointer (some ⟨bs, 0, none⟩), a.val, .int .u64 v] w fun e w' => e = .returned (.tuple #[]) ∧ Blk w' bs 104 (stC (putS s a v)) ∧ Kept (fun b => b = bs) w w' := by
  obtain ⟨h1, h2, h3⟩ := ha
  obtain ⟨k, n⟩ := a
  simp only at h1 h2 h3
  unfold PlaceV.val
  simp only
  have zb := h.lt
  have F0 := Lib.hid (show Kept (fun b => b = bs) w (w.alloc (.cells #[.int .i64 k, .int .i64 n] 57)) from (Kept.refl _ w).alloc _)
  have HB := Lib.hid h
  have HK := Lib.hid (fun p x (hp : p.block = bs) => (Kept.refl (fun b => b = bs) w).setCell (p := p) (fun _ => hp) x)
  by_cases e1 : k = 1
  · subst e1
    have hn := h1 rfl
    obtain ⟨m, rfl⟩ : ∃ m : Nat, n = (m : Int) := ⟨n.toNat, by omega⟩
    have c0 := (h.cell m).trans (stC_sg (by omega))
    have y0 := h.frozen m
    have hg : Hid (putS s ⟨1, m⟩ v = { s with sg := upd s.sg m (v % 4294967296) }) := rfl
    have HS := Lib.hid (stC_setg (s := s) (t := m) (by omega) (v % 4294967296))
    clear h1 h2 h3 h
    generalize s.sg m = x at *
    go_enter Try.func58, Try.ntmps58
    go_wp2
    go_region
    go_wp2
    go_end0
    refine ⟨rfl, ?_, ((HK.out ⟨bs, m, none⟩ _ rfl).alloc _).drew⟩
    have := HB.out.set_ m (.int .u32 (v % 4294967296))
    rw [HS.out] at this
    rw [hg.out]; exact this.alloc _
  · by_cases e2 : k = 2
    · subst e2
      have hn := h2 rfl
      obtain ⟨m, rfl⟩ : ∃ m : Nat, n = (m : Int) := ⟨n.toNat, by omega⟩
      have c0 := (h.cell (2 * m)).trans (stC_sg (by omega))
      have c1 := (h.cell (2 * m + 1)).trans (stC_sg (by omega))
      have y0 := h.frozen (2 * m)
      have y1 := h.frozen (2 * m + 1)
      have hg : Hid (putS s ⟨2, m⟩ v = { s with sg := upd (upd s.sg (2 * m) (v % 4294967296)) (2 * m + 1) (v / 4294967296) }) := rfl
      clear h1 h2 h3 h
      go_enter Try.func58, Try.ntmps58
      go_wp2
      go_region
      go_wp2
      go_end0
      refine ⟨rfl, ?_, (((HK.out ⟨bs, 2 * m, none⟩ _ rfl).setCell (p := ⟨bs, 2 * m + 1, none⟩) (fun _ => rfl) _).alloc _).drew⟩
      have := HB.out.set_ (2 * m) (.int .u32 (v % 4294967296))
      rw [stC_setg (by omega)] at this
      have := this.set_ (2 * m + 1) (.int .u32 (v / 4294967296))
      rw [stC_setg (by omega), show ((2 * m : Nat) : Int) = 2 * (m : Int) by omega, show ((2 * m + 1 : Nat) : Int) = 2 * (m : Int) + 1 by omega] at this
      rw [hg.out]; exact this.alloc _
    · by_cases e3 : k = 3
      · subst e3
        have hn := h3 rfl
        obtain ⟨m, rfl⟩ : ∃ m : Nat, n = (m : Int) := ⟨n.toNat, by omega⟩
        have c0 := (h.cell (16 + m)).trans (stC_sl (by omega))
        have y0 := h.frozen (16 + m)
        have hg : Hid (putS s ⟨3, m⟩ v = { s with sl := upd s.sl m v }) := rfl
        have HS := Lib.hid (stC_setl (s := s) (t := m) v)
        clear h1 h2 h3 h
        generalize s.sl m = x at *
        go_enter Try.func58, Try.ntmps58
        go_wp2
        go_region
        go_wp2
        go_end0
        refine ⟨rfl, ?_, ((HK.out ⟨bs, 16 + m, none⟩ _ rfl).alloc _).drew⟩
        have := HB.out.set_ (16 + m) (.int .u64 v)
        rw [HS.out] at this
        rw [hg.out]; exact this.alloc _
      · have hg : Hid (putS s ⟨k, n⟩ v = s) := by show _ = _; unfold putS; rw [if_neg e1, if_neg e2, if_neg e3]
        have e1' : (k == 1) = false := by simpa using e1
        have e2' : (k == 2) = false := by simpa using e2
        have e3' : (k == 3) = false := by simpa using e3
        clear h1 h2 h3 h
        go_enter Try.func58, Try.ntmps58
        go_wp2
        go_end0
        exact ⟨rfl, by rw [hg.out]; exact HB.out.alloc _, F0.out⟩
end Go.Proofs.Ytodmkjeankbieab
