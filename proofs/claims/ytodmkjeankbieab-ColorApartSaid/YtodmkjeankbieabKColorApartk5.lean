/- Near, RefNear: texts of this claim, packed into one file. -/
import Derived.Test.YtodmkjeankbieabKColorApartk3
import Derived.Test.YtodmkjeankbieabKColorApartk0
import Derived.Test.YtodmkjeankbieabKColorApartk4
/- The walks of package near: the closure of Of. -/
namespace Go.Proofs.Ytodmkjeankbieab
open Go.RowKit Go.Sort

/-- rows of truths, one block each, from block rb on; the variable that leads to them is block nv -/
structure NrMem (wr : World) (nv g0 rb W j : Nat) (f : Nat → Nat → Bool) : Prop where
  nb : Blk wr nv 38 #[.slice (some ⟨g0, 0, none⟩) W W]
  ob : Blk wr g0 22 (mkS W (fun k => if k < j then .slice (some ⟨rb + k, 0, none⟩) W W else .slice none 0 0))
  row : ∀ k, k < j → Blk wr (rb + k) 4 (mkB W (f k))
section
variable {wr w2 : World} {nv g0 rb W j : Nat} {f : Nat → Nat → Bool}
theorem NrMem.keep {S : Nat → Prop} (h : NrMem wr nv g0 rb W j f) (hk : Kept S wr w2) (h1 : ¬ S nv) (h2 : ¬ S g0) (h3 : ∀ k, k < j → ¬ S (rb + k)) : NrMem w2 nv g0 rb W j f :=
  ⟨h.nb.kept hk h1, h.ob.kept hk h2, fun k hkj => (h.row k hkj).kept hk (h3 k hkj)⟩
theorem NrMem.fr (h : NrMem wr nv g0 rb W j f) (hk : Fr wr w2) : NrMem w2 nv g0 rb W j f := h.keep hk (fun h => h) (fun h => h) (fun _ _ h => h)
theorem NrMem.set (h : NrMem wr nv g0 rb W W f) {a b : Nat} (ha : a < W) : NrMem (wr.setCell ⟨rb + a, b, none⟩ (.bool true)) nv g0 rb W W (fun x y => if x = a ∧ y = b then true else f x y) := by
  have hr := h.row a ha
  have hK : Kept (fun k => k = rb + a) wr (wr.setCell ⟨rb + a, b, none⟩ (.bool true)) := (Kept.refl (fun k => k = rb + a) wr).setCell (p := ⟨rb + a, b, none⟩) (fun _ => rfl) _
  refine ⟨h.nb.kept hK (h.nb.ne_ hr (by decide)), h.ob.kept hK (h.ob.ne_ hr (by decide)), fun k hk => ?_⟩
  by_cases e : k = a
  · subst e
    have := hr.bset b true
    rw [show (fun y => if k = k ∧ y = b then true else f k y) = (fun y => if y = b then true else f k y) from funext fun y => by simp]
    exact this
  · rw [show (fun y => if k = a ∧ y = b then true else f k y) = f k from funext fun y => by rw [if_neg (fun h => e h.1)]]
    exact (h.row k hk).kept hK (by omega)
theorem NrMem.congr {f' : Nat → Nat → Bool} (h : NrMem wr nv g0 rb W j f) (hf : ∀ x y, f x y = f' x y) : NrMem wr nv g0 rb W j f' := by
  rwa [show f' = f from funext fun x => funext fun y => (hf x y).symm]
end

set_option maxHeartbeats 2000000 in
set_option maxRecDepth 100000 in
theorem near1_any (nv g0 rb W a b : Nat) (f : Nat → Nat → Bool) (w : World) (h : NrMem w nv g0 rb W W f) (ha : a < W) (hb : b < W) (hW : W ≤ 100) :
    Calls Try.prog 47 #[.int .i64 (a : Int), .int .i64 (b : Int), .pointer (some ⟨nv, 0, none⟩)] w fun e w' => e = .returned (.tuple #[]) ∧ NrMem w' nv g0 rb W W (putN f a b) ∧ Kept (fun k => rb ≤ k ∧ k < rb + W) w w' := by
  have H := Lib.hid h
  have n0 := h.nb.cell 0
  have o0 := h.ob.cell a
  have o1 := h.ob.cell b
  rw [mkS_at ha, if_pos ha] at o0
  rw [mkS_at hb, if_pos hb] at o1
  simp only [List.getElem?_toArray, List.getElem?_cons_succ, List.getElem?_cons_zero] at n0
  have r0 := (h.row a ha).bcell hb
  have r1 := (h.row b hb).bcell ha
  have y0 := (h.row a ha).frozen b
  have y1 := (h.row b hb).frozen a
  have z0 := (h.row a ha).lt
  have z1 := (h.row b hb).lt
  have zn := h.nb.lt
  have zo := h.ob.lt
  have a0 : (0 : Int) ≤ (a : Int) := Int.natCast_nonneg _
  have b0 : (0 : Int) ≤ (b : Int) := Int.natCast_nonneg _
  have a1 : (a : Int) < (W : Int) := by omega
  have b1 : (b : Int) < (W : Int) := by omega
  have hn1 := h.nb.ne_ (h.row a ha) (by decide)
  have hn2 := h.nb.ne_ (h.row b hb) (by decide)
  have ho1 := h.ob.ne_ (h.row a ha) (by decide)
  have ho2 := h.ob.ne_ (h.row b hb) (by decide)
  clear h
  by_cases hab : a = b
  · subst hab
    go_enter Try.func47, Try.ntmps47
    go_wp2
    go_end0
    exact ⟨rfl, H.out.congr (fun x y => by unfold putN; simp), Kept.refl _ w⟩
  · have hne : ((a : Int) != (b : Int)) = true := by simpa using fun h => hab (by omega)
    have hne2 : rb + a ≠ rb + b := by omega
    go_enter Try.func47, Try.ntmps47
    go_wp2
    go_region
    go_wp2
    go_end0
    refine ⟨rfl, (((H.out.set (b := b) ha).set (b := a) hb).congr (f' := putN f a b) (fun x y => by unfold putN; rw [if_neg hab])).fr (Kept.refl _ _).drew, ?_⟩
    exact (((Kept.refl (fun k => rb ≤ k ∧ k < rb + W) w).setCell (p := ⟨rb + a, b, none⟩) (fun _ => by simp only; omega) _).setCell (p := ⟨rb + b, a, none⟩) (fun _ => by simp only; omega) _).drew

theorem Reads.old' {w : World} {R : Nat → Prop} {size n : Nat} {A : Option Addr} {xs : List Value} (h : Reads w R size A n xs) (hs : 0 < size) : Reads w (fun b => R b ∧ b < w.heap.size) size A n xs := by
  refine ⟨h.1, fun hn => ?_⟩
  obtain ⟨b, off, e, hR, hc⟩ := h.2 hn
  have hl : 0 < xs.length := by rw [h.1]; exact Nat.mul_pos hn hs
  exact ⟨b, off, e, ⟨hR, cell_lt (hc 0 xs[0] (List.getElem?_eq_getElem hl))⟩, hc⟩
theorem RdM.old {w : World} {R : Nat → Prop} {v : Value} {M : List (List Bool)} (h : RdM w R v M) : RdM w (fun b => R b ∧ b < w.heap.size) v M := by
  obtain ⟨A, c, vs, e, hl, hr, hrow⟩ := h
  refine ⟨A, c, vs, e, hl, hr.old' (by decide), fun k row hk => ?_⟩
  obtain ⟨v, hv, A2, c2, e2, hl2, hr2⟩ := hrow k row hk
  exact ⟨v, hv, A2, c2, e2, hl2, hr2.old' (by decide)⟩
theorem NrMem.rdm {wr : World} {nv g0 rb W : Nat} {f : Nat → Nat → Bool} {R : Nat → Prop} (h : NrMem wr nv g0 rb W W f) (h0 : R g0) (hR : ∀ k, R (rb + k)) (hW : W ≤ 100) : RdM wr R (.slice (some ⟨g0, 0, none⟩) W W) (matL W W f) := by
  have hm : (matL W W f).length = W := by unfold matL; simp
  refine ⟨some ⟨g0, 0, none⟩, W, (List.range W).map (fun k => if k < W then .slice (some ⟨rb + k, 0, none⟩) W W else .slice none 0 0), by rw [hm], by rw [hm]; unfold maxLen; omega, ?_, ?_⟩
  · rw [hm]
    refine ⟨by simp, fun _ => ⟨g0, 0, rfl, h0, fun i u hu => ?_⟩⟩
    rw [Nat.zero_add, h.ob.cell, ← hu]
    unfold mkS
    simp
  · intro k r hk
    have hkL : k < W := by rw [← hm]; exact (List.getElem?_eq_some_iff.1 hk).1
    rw [matL_at hkL] at hk
    simp at hk
    subst hk
    exact ⟨_, by simp [List.getElem?_range hkL, hkL]; rfl, RdBo.of_blk (h.row k hkL) (hR k) (by unfold maxLen; omega)⟩

theorem NrMem.more {wr : World} {nv g0 rb W j : Nat} (h : NrMem wr nv g0 rb W j (fun _ _ => false)) (hs : wr.heap.size = rb + j) (hj : j < W) :
    NrMem ((wr.setCell ⟨g0, j, none⟩ (.slice (some ⟨wr.heap.size, 0, none⟩) W W)).alloc (.cells (mkB W fun _ => false) 4)).drew nv g0 rb W (j + 1) (fun _ _ => false) := by
  have hK : Kept (fun k => k = g0) wr (wr.setCell ⟨g0, j, none⟩ (.slice (some ⟨wr.heap.size, 0, none⟩) W W)) := (Kept.refl (fun k => k = g0) wr).setCell (p := ⟨g0, j, none⟩) (fun _ => rfl) _
  have hsz : (wr.setCell ⟨g0, j, none⟩ (.slice (some ⟨wr.heap.size, 0, none⟩) W W)).heap.size = wr.heap.size := by simp [World.setCell]
  refine ⟨((h.nb.kept hK (h.nb.ne_ h.ob (by decide))).alloc _).drew, ?_, fun k hk => ?_⟩
  · have := ((h.ob.set_ j (.slice (some ⟨wr.heap.size, 0, none⟩) W W)).alloc (.cells (mkB W fun _ => false) 4)).drew
    rw [mkS_set] at this
    rw [show (fun k => if k < j + 1 then Value.slice (some ⟨rb + k, 0, none⟩) W W else .slice none 0 0) = (fun s => if s = j then Value.slice (some ⟨wr.heap.size, 0, none⟩) W W else if s < j then .slice (some ⟨rb + s, 0, none⟩) W W else .slice none 0 0) from funext fun k => by
      by_cases e : k = j
      · subst e; rw [if_pos (by omega), if_pos rfl, hs]
      · rw [if_neg e]
        by_cases e2 : k < j
        · rw [if_pos (by omega), if_pos e2]
        · rw [if_neg (by omega), if_neg e2]]
    exact this
  · by_cases e : k = j
    · subst e
      have := (Blk.new (wr.setCell ⟨g0, k, none⟩ (.slice (some ⟨wr.heap.size, 0, none⟩) W W)) 4 (mkB W fun _ => false)).drew
      rw [hsz] at this
      rw [show rb + k = wr.heap.size from hs.symm]
      exact this
    · have hr := h.row k (by omega)
      exact ((hr.kept hK (hr.ne_ h.ob (by decide))).alloc _).drew
structure NoMem (w wr : World) (vw vc : Value) (g0 W gl : Nat) (p : Pg) (f : Nat → Nat → Bool) : Prop where
  bp : Blk wr w.heap.size 25 #[vw, vc]
  nr : NrMem wr (g0 + 1) g0 (g0 + 2) W W f
  nd : RdM wr (fun b => w.heap.size < b ∧ b < g0) (.slice (some ⟨gl, 0, none⟩) p.code.length p.code.length) (needM p)
  fr : Fr w wr
  o1 : w.heap.size < g0
section
variable {w wr w2 : World} {vw vc : Value} {g0 W gl : Nat} {p : Pg} {f f' : Nat → Nat → Bool}
theorem NoMem.keep (h : NoMem w wr vw vc g0 W gl p f) (hk : Fr wr w2) : NoMem w w2 vw vc g0 W gl p f :=
  ⟨h.bp.kept hk (fun h => h), h.nr.fr hk, h.nd.kept hk (fun _ _ h => h), h.fr.trans hk, h.o1⟩
theorem NoMem.put (h : NoMem w wr vw vc g0 W gl p f) (hn : NrMem w2 (g0 + 1) g0 (g0 + 2) W W f') (hk : Kept (fun k => g0 + 2 ≤ k ∧ k < g0 + 2 + W) wr w2) : NoMem w w2 vw vc g0 W gl p f' :=
  ⟨h.bp.kept hk (by have := h.o1; omega), hn, h.nd.kept hk (fun b hb => by omega), h.fr.then hk (fun i hi e => by have := h.o1; omega), h.o1⟩
end
theorem needM_at {p : Pg} {k t : Nat} (hk : k < p.code.length) (ht : t < p.wide.length) : mfn (needM p) k t = needB p.code k t := matL_fn (M := needB p.code) hk ht

theorem nearM_eq {p : Pg} {f : Nat → Nat → Bool} (h : ∀ a b, a < p.wide.length → b < p.wide.length → f a b = nearB p.code a b) : matL p.wide.length p.wide.length f = nearM p := by
  unfold matL nearM
  apply List.map_congr_left
  intro k hk
  apply List.map_congr_left
  intro t ht
  exact h k t (List.mem_range.1 hk) (List.mem_range.1 ht)
/-- the row of what is needed ahead of the first instruction -/
structure Row0 (wr : World) (gl g0 bb ob W c : Nat) (m : Nat → Bool) : Prop where
  ptr : wr.cell? ⟨gl, 0, none⟩ = some (.slice (some ⟨bb, ob, none⟩) W c)
  cell : ∀ j, j < W → wr.cell? ⟨bb, ob + j, none⟩ = some (.bool (m j))
  l1 : gl < g0
  l2 : bb < g0
  h1 : gl < wr.heap.size
  h2 : bb < wr.heap.size
theorem Row0.keep {wr w2 : World} {gl g0 bb ob W c : Nat} {m : Nat → Bool} (h : Row0 wr gl g0 bb ob W c m) {S : Nat → Prop} (hk : Kept S wr w2) (hS : ∀ k, S k → g0 ≤ k) : Row0 w2 gl g0 bb ob W c m :=
  ⟨(hk.cell (p := ⟨gl, 0, none⟩) h.h1 (fun hs => by have := hS _ hs; have := h.l1; simp only at *; omega)).trans h.ptr, fun j hj => (hk.cell (p := ⟨bb, ob + j, none⟩) h.h2 (fun hs => by have := hS _ hs; have := h.l2; simp only at *; omega)).trans (h.cell j hj), h.l1, h.l2,
    Nat.lt_of_lt_of_le h.h1 hk.size, Nat.lt_of_lt_of_le h.h2 hk.size⟩

def NearPost (w : World) (p : Pg) (e : Ending) (w' : World) : Prop :=
  Fr w w' ∧ ((mayB p = false ∧ e = .returned (.tuple #[.slice none 0 0, .int .i64 2])) ∨
    (mayB p = true ∧ ∃ g0, e = .returned (.tuple #[.slice (some ⟨g0, 0, none⟩) p.wide.length p.wide.length, .int .i64 0]) ∧ RdM w' (fun b => w.heap.size < b) (.slice (some ⟨g0, 0, none⟩) p.wide.length p.wide.length) (nearM p)))

set_option maxHeartbeats 8000000 in
set_option maxRecDepth 100000 in
theorem nearOf_any (R : Nat → Prop) (v : Value) (p : Pg) (w : World) (h : RdPg w R v p) : Calls Try.prog 19 #[v] w (NearPost w p) := by
  have H := Lib.hid h
  obtain ⟨vw, vc, rfl, ⟨A, c, rfl, hl, hr⟩, ⟨A', c', rfl, hl', hr', ho'⟩⟩ := h
  unfold maxLen at hl hl'
  clear hr hr' ho'
  have B0 := Lib.hid (Blk.new w 25 #[.slice A p.wide.length c, .slice A' p.code.length c'])
  have F0 := Lib.hid (show Fr w (w.alloc (.cells #[.slice A p.wide.length c, .slice A' p.code.length c'] 25)) from (Kept.refl _ w).alloc _)
  go_enter Try.func19, Try.ntmps19
  go_wp2_with fail
  refine (liveOf_any R _ p _ (H.out.kept F0.out (fun _ _ h => h))).mono ?_
  rintro e w1 ⟨f1, he⟩
  have HF1 := Lib.hid (F0.out.trans f1)
  have HB1 := Lib.hid (B0.out.kept f1 (fun h => h))
  have z1 := HB1.out.lt
  have c0 := HB1.out.cell 0
  have c1 := HB1.out.cell 1
  simp only [List.getElem?_toArray, List.getElem?_cons_succ, List.getElem?_cons_zero] at c0 c1
  clear f1
  rcases he with ⟨hm, rfl⟩ | ⟨hm, gl, rfl, hnd⟩
  · have HMay := Lib.hid hm
    clear hm
    go_wp2
    go_ret2
    exact ⟨HF1.out, Or.inl ⟨HMay.out, rfl⟩⟩
  · have HMay := Lib.hid hm
    obtain ⟨l1, l2, l3, l4⟩ := mayB_len hm
    have HND := Lib.hid (show RdM w1 (fun b => w.heap.size < b ∧ b < w1.heap.size) (.slice (some ⟨gl, 0, none⟩) p.code.length p.code.length) (needM p) from by
      obtain ⟨A5, c5, vs5, e5, hl5, hr5, hrow5⟩ := hnd.old
      exact ⟨A5, c5, vs5, e5, hl5, hr5.more (fun b hb => ⟨by have := hb.1; simp at this; omega, hb.2⟩), fun k row hk => let ⟨v5, h5, A6, c6, e6, hl6, hr6⟩ := hrow5 k row hk; ⟨v5, h5, A6, c6, e6, hl6, hr6.more (fun b hb => ⟨by have := hb.1; simp at this; omega, hb.2⟩)⟩⟩)
    clear hm hnd
    have hmr := run_make_rows p.wide.length (by omega)
    have hmk := run_make_bools p.wide.length (by omega)
    have hN0 : NrMem ((w1.alloc (.cells (mkS p.wide.length fun _ => .slice none 0 0) 22)).alloc (.cells #[.slice (some ⟨w1.heap.size, 0, none⟩) p.wide.length p.wide.length] 38)) (w1.heap.size + 1) w1.heap.size (w1.heap.size + 2) p.wide.length 0 (fun _ _ => false) := by
      refine ⟨?_, (Blk.new w1 _ _).alloc _, fun k hk => by omega⟩
      have := Blk.new (w1.alloc (.cells (mkS p.wide.length fun _ => .slice none 0 0) 22)) 38 #[.slice (some ⟨w1.heap.size, 0, none⟩) p.wide.length p.wide.length]
      simpa using this
    have HN0 := Lib.hid hN0
    have HF2 := Lib.hid (show Fr w1 ((w1.alloc (.cells (mkS p.wide.length fun _ => .slice none 0 0) 22)).alloc (.cells #[.slice (some ⟨w1.heap.size, 0, none⟩) p.wide.length p.wide.length] 38)) from ((Kept.refl _ w1).alloc _).alloc _)
    clear hN0
    go_wp2
    go_loopw [31] (fun i wr => ∃ j : Nat, j ≤ p.wide.length ∧ i = .int .i64 j ∧ Hid (NrMem wr (w1.heap.size + 1) w1.heap.size (w1.heap.size + 2) p.wide.length j (fun _ _ => false)) ∧ Hid (Fr w1 wr) ∧ Hid (wr.heap.size = w1.heap.size + 2 + j)) (fun i _ => p.wide.length - (intOf i).toNat)
    case atStart => exact ⟨0, Nat.zero_le _, rfl, HN0, HF2, by show _ = _; simp⟩
    case round =>
      obtain ⟨j, hj, rfl, hn, hf, hsz⟩ := hrel
      clear HN0 HF2 c0 c1
      have hB := HB1.out.kept hf.out (fun h => h)
      have c0 := hB.cell 0
      have c1 := hB.cell 1
      have zb := hB.lt
      have n0 := hn.out.nb.cell 0
      have zn := hn.out.nb.lt
      have zo := hn.out.ob.lt
      simp only [List.getElem?_toArray, List.getElem?_cons_succ, List.getElem?_cons_zero] at c0 c1 n0
      by_cases hlt : j < p.wide.length
      · have o0 := hn.out.ob.cell j
        rw [mkS_at hlt, if_neg (by omega)] at o0
        have y0 := hn.out.ob.frozen j
        have hj0 : (0 : Int) ≤ (j : Int) := Int.natCast_nonneg _
        have hj1 : (j : Int) < (p.wide.length : Int) := by omega
        clear hB
        go_wp2
        go_region
        have HN1 := Lib.hid (hn.out.more hsz.out hlt)
        have HF3 : Hid (Fr w1 ((wr.setCell ⟨w1.heap.size, j, none⟩ (.slice (some ⟨wr.heap.size, 0, none⟩) p.wide.length p.wide.length)).alloc (.cells (mkB p.wide.length fun _ => false) 4)).drew) :=
          ((hf.out.setCell (fun e => by simp only at e; omega) _).alloc _).drew
        have HS3 : Hid (((wr.setCell ⟨w1.heap.size, j, none⟩ (.slice (some ⟨wr.heap.size, 0, none⟩) p.wide.length p.wide.length)).alloc (.cells (mkB p.wide.length fun _ => false) 4)).drew.heap.size = w1.heap.size + 2 + (j + 1)) := by
          have := hsz.out
          show _ = _
          simp [World.drew, World.setCell]
          omega
        go_wp2
        go_roundw
        case rel => exact ⟨j + 1, by omega, by go_num, HN1, HF3, HS3⟩
        case measure => simp [intOf]; omega
      · obtain rfl : j = p.wide.length := by omega
        have HM0 := Lib.hid (show NoMem w wr (.slice A p.wide.length c) (.slice A' p.code.length c') w1.heap.size p.wide.length gl p (fun _ _ => false) from
          ⟨hB, hn.out, HND.out.kept hf.out (fun _ _ h => h), HF1.out.trans hf.out, z1⟩)
        have HK0 := Lib.hid (NearK.zero (code := p.code) (M := needB p.code) (W := p.wide.length))
        have hmf : ∀ (fn : Fn) (first cap : Array Value) (w : World), (Instr.makeFunc fn first cap).run Try.prog w = .ok (.func fn first cap) w := fun _ _ _ _ => rfl
        clear hn hf hsz hB
        clear hmr hmk
        obtain ⟨wo, rfl⟩ : ∃ wo : World, wo = wr := ⟨_, rfl⟩
        go_wp2
        go_loopw [46] (fun i wr => ∃ (k : Nat) (f : Nat → Nat → Bool), k ≤ p.code.length ∧ i = .int .i64 k ∧ Hid (NearK p.code (needB p.code) p.wide.length k f) ∧ Hid (NoMem w wr (.slice A p.wide.length c) (.slice A' p.code.length c') w1.heap.size p.wide.length gl p f)) (fun i _ => p.code.length - (intOf i).toNat)
        case atStart => exact ⟨0, _, Nat.zero_le _, rfl, HK0, HM0⟩
        case round =>
          obtain ⟨k, f, hk, rfl, hnk, hm⟩ := hrel
          clear HM0 HK0 c0 c1 n0 zb zn zo
          have c0 := hm.out.bp.cell 0
          have c1 := hm.out.bp.cell 1
          have zb := hm.out.bp.lt
          simp only [List.getElem?_toArray, List.getElem?_cons_succ, List.getElem?_cons_zero] at c0 c1
          by_cases hlt : k < p.code.length
          · have hx : p.code[k]? = some (inAt p.code k) := by rw [inAt_get hlt]; exact List.getElem?_eq_getElem hlt
            obtain ⟨b3, o3, hA3, _, d0, d1, d2, d3, d4, d5⟩ := ((pg_code H.out).kept hm.out.fr (fun _ _ h => h)).ins hx
            subst hA3
            have hI := mayB_ins HMay.out (inAt_mem hlt)
            obtain ⟨⟨ha0, ha1⟩, ⟨hb0, hb1⟩, ⟨hd0, hd1⟩, hc0⟩ := ins_fields hI l1
            have hkn := (insOk hI).kn
            have hb3 := cell_lt d0
            have hk0 : (0 : Int) ≤ (k : Int) := Int.natCast_nonneg _
            have hk1 : (k : Int) < (p.code.length : Int) := by omega
            have HNO := Lib.hid (fun (h : gvs (inAt p.code k).op = false) => hnk.out.none h)
            have HYES := Lib.hid (fun (t d : Nat) (f : Nat → Nat → Bool) (h : NearT p.code (needB p.code) p.wide.length k t f) (hg : gvs (inAt p.code k).op = true) (hd : (inAt p.code k).d = (d : Int)) (hb : behindM p.code (needB p.code) k t = true) (hm : ¬ ((inAt p.code k).op = 2 ∧ (inAt p.code k).a = (t : Int))) => h.yes hg hd hb hm)
            have HNT := Lib.hid (fun (t : Nat) (f : Nat → Nat → Bool) (h : NearT p.code (needB p.code) p.wide.length k t f) (hn : ¬ (behindM p.code (needB p.code) k t = true ∧ ¬ ((inAt p.code k).op = 2 ∧ (inAt p.code k).a = (t : Int)))) => h.no hn)
            clear hx hI
            generalize hii : inAt p.code k = i at *
            clear hii
            obtain ⟨op, d, a, bb, cc, n⟩ := i
            simp only at *
            obtain ⟨dn, rfl⟩ : ∃ dn : Nat, d = (dn : Int) := ⟨d.toNat, by omega⟩
            have HGv := Lib.hid (fun w => Gives_any (⟨op, dn, a, bb, cc, n⟩ : In) w hkn)
            unfold In.val at HGv
            simp only at HGv
            obtain ⟨wB, rfl⟩ : ∃ wB : World, wB = wr := ⟨_, rfl⟩
            have HBe := Lib.hid (fun w2 (hf : Fr wB w2) => Behind_any R _ _ _ p (needM p) k w2 (H.out.kept (hm.out.fr.trans hf) (fun _ _ h => h)) (hm.out.keep hf).nd (matL_ok (M := needB p.code)) HMay.out hlt)
            have BI := Lib.hid (Blk.new wB 45 #[.int .i64 op, .int .i64 dn, .int .i64 a, .int .i64 bb, .int .i64 cc, .int .u32 n])
            have HMA := Lib.hid (hm.out.keep ((Kept.refl _ wB).alloc (.cells #[.int .i64 op, .int .i64 dn, .int .i64 a, .int .i64 bb, .int .i64 cc, .int .u32 n] 45)))
            have hbig : w1.heap.size + 2 + p.wide.length ≤ wB.heap.size := by
              have := (hm.out.nr.row (p.wide.length - 1) (by omega)).lt
              omega
            go_wp2_with fail
            refine (HGv.out _).mono ?_
            rintro e w3 ⟨rfl, f3⟩
            have HM3 := Lib.hid (HMA.out.keep f3)
            have BI3 := Lib.hid (BI.out.kept f3 (fun h => h))
            have HF3 := Lib.hid (((Kept.refl _ wB).alloc (.cells #[.int .i64 op, .int .i64 dn, .int .i64 a, .int .i64 bb, .int .i64 cc, .int .u32 n] 45)).trans f3)
            clear f3 HGv
            cases hg : gvs op with
            | false =>
              have HN1 := Lib.hid (HNO.out hg)
              clear hg
              go_wp2
              go_roundw
              case rel => exact ⟨k + 1, f, by omega, by go_num, HN1, HM3⟩
              case measure => simp [intOf]; omega
            | true =>
              have HG := Lib.hid hg
              clear hg HNO
              have c0 := HM3.out.bp.cell 0
              have c1 := HM3.out.bp.cell 1
              have zb := HM3.out.bp.lt
              simp only [List.getElem?_toArray, List.getElem?_cons_succ, List.getElem?_cons_zero] at c0 c1
              go_wp2_with fail
              refine (HBe.out _ HF3.out).mono ?_
              rintro e w4 ⟨g, rfl, hge, hbR, f4⟩
              have HM4 := Lib.hid (HM3.out.keep f4)
              have BI4 := Lib.hid (BI3.out.kept f4 (fun h => h))
              have hbR' : Blk w4 g 4 (mkB p.wide.length (behindM p.code (needB p.code) k)) := by
                have e : mkB p.wide.length (behindM p.code (mfn (needM p)) k) = mkB p.wide.length (behindM p.code (needB p.code) k) := mkB_congr (fun t ht => behind_matL (code := p.code) (W := p.wide.length) (k := k) (M := needB p.code) ht)
                rw [e] at hbR
                exact hbR
              have HR4 := Lib.hid hbR'
              have hgB : wB.heap.size ≤ g := by have := HF3.out.size; omega
              have HT0 := Lib.hid hnk.out.toT
              clear f4 hbR hbR' HBe
              go_wp2
              obtain ⟨wq, rfl⟩ : ∃ wq : World, wq = w4 := ⟨_, rfl⟩
              go_loopw [59] (fun i wr => ∃ (t : Nat) (f : Nat → Nat → Bool), t ≤ p.wide.length ∧ i = .int .i64 t ∧ Hid (NearT p.code (needB p.code) p.wide.length k t f) ∧ Hid (NoMem w wr (.slice A p.wide.length c) (.slice (some ⟨b3, o3, none⟩) p.code.length c') w1.heap.size p.wide.length gl p f) ∧ Hid (Blk wr wB.heap.size 45 #[.int .i64 op, .int .i64 dn, .int .i64 a, .int .i64 bb, .int .i64 cc, .int .u32 n]) ∧
                Hid (Blk wr g 4 (mkB p.wide.length (behindM p.code (needB p.code) k)))) (fun i _ => p.wide.length - (intOf i).toNat)
              case atStart => exact ⟨0, f, Nat.zero_le _, rfl, HT0, HM4, BI4, HR4⟩
              case round =>
                obtain ⟨t, f2, ht, rfl, hnt, hm2, hi2, hr2⟩ := hrel
                clear HT0 HM4 BI4 HR4 c0 c1 zb
                by_cases htl : t < p.wide.length
                · have r0 := hr2.out.bcell htl
                  have zr := hr2.out.lt
                  have e0 := hi2.out.cell 0
                  have e1 := hi2.out.cell 1
                  have e2 := hi2.out.cell 2
                  have zi := hi2.out.lt
                  have ht0 : (0 : Int) ≤ (t : Int) := Int.natCast_nonneg _
                  have ht1 : (t : Int) < (p.wide.length : Int) := by omega
                  simp only [List.getElem?_toArray, List.getElem?_cons_succ, List.getElem?_cons_zero] at e0 e1 e2
                  have HN2 := Lib.hid (HNT.out t f2 hnt.out)
                  have HY2 := Lib.hid (HYES.out t dn f2 hnt.out HG.out rfl)
                  cases hb : behindM p.code (needB p.code) k t with
                  | false =>
                    have HX := Lib.hid (HN2.out (fun h => by rw [hb] at h; cases h.1))
                    rw [hb] at r0
                    clear hb HN2 HY2
                    go_wp2
                    go_roundw
                    case rel => exact ⟨t + 1, f2, by omega, by go_num, HX, hm2, hi2, hr2⟩
                    case measure => simp [intOf]; omega
                  | true =>
                    by_cases hoa : op = 2 ∧ a = (t : Int)
                    · have HX := Lib.hid (HN2.out (fun h => h.2 hoa))
                      obtain ⟨eo, ea⟩ := hoa
                      have eo' : (op != 2) = false := by simpa using eo
                      have ea' : ((t : Int) != a) = false := by simpa using ea.symm
                      rw [hb] at r0
                      clear hb HN2 HY2 eo ea
                      go_wp2
                      go_roundw
                      case rel => exact ⟨t + 1, f2, by omega, by go_num, HX, hm2, hi2, hr2⟩
                      case measure => simp [intOf]; omega
                    · have HX := Lib.hid (HY2.out hb hoa)
                      have HC := Lib.hid (near1_any _ _ _ _ dn t f2 _ hm2.out.nr (by omega) htl (by omega))
                      rw [hb] at r0
                      have hcs : (op != 2) = true ∨ ((op != 2) = false ∧ ((t : Int) != a) = true) := by
                        by_cases eo : op = 2
                        · exact Or.inr ⟨by simpa using eo, by simpa using fun h => hoa ⟨eo, h.symm⟩⟩
                        · exact Or.inl (by simpa using eo)
                      clear hb HN2 HY2 hoa
                      rcases hcs with eo | ⟨eo, ea⟩
                      all_goals
                        go_wp2_with fail
                        refine HC.out.mono ?_
                        rintro e w5 ⟨rfl, hn5, hk5⟩
                        have HM5 := Lib.hid (hm2.out.put hn5 hk5)
                        have HI5 := Lib.hid (hi2.out.kept hk5 (by omega))
                        have HR5 := Lib.hid (hr2.out.kept hk5 (by omega))
                        go_wp2
                      · go_roundw
                        case rel => exact ⟨t + 1, _, by omega, by go_num, HX, HM5, HI5, HR5⟩
                        case measure => simp [intOf]; omega
                      · go_roundw
                        case rel => exact ⟨t + 1, _, by omega, by go_num, HX, HM5, HI5, HR5⟩
                        case measure => simp [intOf]; omega
                · obtain rfl : t = p.wide.length := by omega
                  have HX := Lib.hid hnt.out.toK
                  go_wp2
                  go_roundw
                  case rel => exact ⟨k + 1, f2, by omega, by go_num, HX, hm2⟩
                  case measure => simp [intOf]; omega
          · obtain rfl : k = p.code.length := by omega
            have HA0 := Lib.hid hnk.out.toA
            obtain ⟨bg, og, cg, u, hv, hR0, hl0, hcell, hbo⟩ := hm.out.nd.row (k := 0) (row := (List.range p.wide.length).map (needB p.code 0)) (matL_at (M := needB p.code) (by omega))
            obtain ⟨A0, cz, ru, _, hrz⟩ := hbo
            simp only [Value.slice.injEq, Option.some.injEq, Addr.mk.injEq, and_true] at hv
            obtain ⟨⟨hv1, hv2⟩, hv3⟩ := hv
            clear hv3
            subst hv1; subst hv2
            rw [show ((List.range p.wide.length).map (needB p.code 0)).length = p.wide.length by simp] at ru hrz
            obtain ⟨bb, ob, rfl, hRb, hcb⟩ := hrz.2 (by omega)
            subst ru
            have hcb' : ∀ j, j < p.wide.length → wr.cell? ⟨bb, ob + j, none⟩ = some (.bool (needB p.code 0 j)) := fun j hj => hcb j _ (by simp [List.getElem?_range hj])
            have HR0 := Lib.hid (show Row0 wr gl w1.heap.size bb ob p.wide.length cz (needB p.code 0) from ⟨hcell, hcb', hR0.2, hRb.2, hl0, cell_lt (hcb' 0 (by omega))⟩)
            clear hcell hcb hcb' hrz hR0 hRb hl0
            have g0' := HR0.out.ptr
            have zg := HR0.out.h1
            obtain ⟨wq, rfl⟩ : ∃ wq : World, wq = wr := ⟨_, rfl⟩
            go_wp2
            go_loopw [87] (fun i wr => ∃ (x : Nat) (f : Nat → Nat → Bool), x ≤ p.wide.length ∧ i = .int .i64 x ∧ Hid (NearA p.code (needB p.code) p.wide.length x 0 f) ∧ Hid (NoMem w wr (.slice A p.wide.length c) (.slice A' p.code.length c') w1.heap.size p.wide.length gl p f) ∧ Hid (Row0 wr gl w1.heap.size bb ob p.wide.length cz (needB p.code 0))) (fun i _ => p.wide.length - (intOf i).toNat)
            case atStart => exact ⟨0, f, Nat.zero_le _, rfl, HA0, hm, HR0⟩
            case round =>
              obtain ⟨x, f2, hx, rfl, hna, hm2, hr0⟩ := hrel
              clear HA0 HR0 g0' zg c0 c1 zb
              have g0' := hr0.out.ptr
              have zg := hr0.out.h1
              have zb := hr0.out.h2
              by_cases hxl : x < p.wide.length
              · have x0 := hr0.out.cell x hxl
                have hx0 : (0 : Int) ≤ (x : Int) := Int.natCast_nonneg _
                have hx1 : (x : Int) < (p.wide.length : Int) := by omega
                obtain ⟨wq2, rfl⟩ : ∃ wq2 : World, wq2 = wr := ⟨_, rfl⟩
                go_wp2
                go_loopw [96] (fun i wr => ∃ (y : Nat) (f : Nat → Nat → Bool), y ≤ p.wide.length ∧ i = .int .i64 y ∧ Hid (NearA p.code (needB p.code) p.wide.length x y f) ∧ Hid (NoMem w wr (.slice A p.wide.length c) (.slice A' p.code.length c') w1.heap.size p.wide.length gl p f) ∧ Hid (Row0 wr gl w1.heap.size bb ob p.wide.length cz (needB p.code 0))) (fun i _ => p.wide.length - (intOf i).toNat)
                case atStart => exact ⟨0, f2, Nat.zero_le _, rfl, hna, hm2, hr0⟩
                case round =>
                  obtain ⟨y, f3, hy, rfl, hna2, hm3, hr3⟩ := hrel
                  clear x0 g0' zg zb
                  have zb := hr3.out.h2
                  by_cases hyl : y < p.wide.length
                  · have y0 := hr3.out.cell y hyl
                    have hy0 : (0 : Int) ≤ (y : Int) := Int.natCast_nonneg _
                    have hy1 : (y : Int) < (p.wide.length : Int) := by omega
                    cases hbx : needB p.code 0 x with
                    | false =>
                      have HX := Lib.hid (hna2.out.no (fun h => by rw [hbx] at h; cases h.1))
                      clear hbx
                      go_wp2
                      go_roundw
                      case rel => exact ⟨y + 1, f3, by omega, by go_num, HX, hm3, hr3⟩
                      case measure => simp [intOf]; omega
                    | true =>
                      cases hby : needB p.code 0 y with
                      | false =>
                        have HX := Lib.hid (hna2.out.no (fun h => by rw [hby] at h; cases h.2))
                        rw [hby] at y0
                        clear hbx hby
                        go_wp2
                        go_roundw
                        case rel => exact ⟨y + 1, f3, by omega, by go_num, HX, hm3, hr3⟩
                        case measure => simp [intOf]; omega
                      | true =>
                        have HX := Lib.hid (hna2.out.yes hbx hby)
                        have HC := Lib.hid (near1_any _ _ _ _ x y f3 _ hm3.out.nr hxl hyl (by omega))
                        rw [hby] at y0
                        clear hbx hby
                        go_wp2_with fail
                        refine HC.out.mono ?_
                        rintro e w5 ⟨rfl, hn5, hk5⟩
                        have HM5 := Lib.hid (hm3.out.put hn5 hk5)
                        have HR5 := Lib.hid (hr3.out.keep hk5 (fun k hk => by omega))
                        go_wp2
                        go_roundw
                        case rel => exact ⟨y + 1, _, by omega, by go_num, HX, HM5, HR5⟩
                        case measure => simp [intOf]; omega
                  · obtain rfl : y = p.wide.length := by omega
                    have HX := Lib.hid hna2.out.next
                    go_wp2
                    go_roundw
                    case rel => exact ⟨x + 1, f3, by omega, by go_num, HX, hm3, hr3⟩
                    case measure => simp [intOf]; omega
              · obtain rfl : x = p.wide.length := by omega
                have HE := Lib.hid (nearM_eq (p := p) (f := f2) (fun a b ha hb => hna.out.all ha hb))
                have HQ := Lib.hid (hm2.out.nr.rdm (R := fun b => w.heap.size < b) hm2.out.o1 (fun k => by have := hm2.out.o1; omega) (by omega))
                rw [HE.out] at HQ
                have n0 := hm2.out.nr.nb.cell 0
                have zn := hm2.out.nr.nb.lt
                simp only [List.getElem?_toArray, List.getElem?_cons_succ, List.getElem?_cons_zero] at n0
                go_wp2
                go_ret2
                exact ⟨hm2.out.fr, Or.inr ⟨HMay.out, _, rfl, HQ.out⟩⟩
end Go.Proofs.Ytodmkjeankbieab

/- The walks of the reference of chapter 5: gives, Of. -/
namespace Go.Proofs.Ytodmkjeankbieab
open Go.RowKit Go.Sort

theorem behTo_need {p : Pg} {k t : Nat} (ht : t < p.wide.length) : behTo p.code.length (needM p) (nexts (inAt p.code k) k) (nexts (inAt p.code k) k).length t = behindM p.code (needB p.code) k t := by
  rw [behTo_all]
  exact behind_matL (code := p.code) (W := p.wide.length) (M := needB p.code) ht
theorem behTo_yes {len : Nat} {M : List (List Bool)} {ns : List Int} {j t : Nat} {n : Int} (h : ns[j]? = some n) (hn : n.toNat < len) (hm : mfn M n.toNat t = true) : behTo len M ns ns.length t = true := by
  unfold behTo
  rw [List.any_eq_true]
  exact ⟨n.toNat, List.mem_map.2 ⟨n, by rw [List.take_length]; exact List.mem_of_getElem? h, rfl⟩, by simp [hn, hm]⟩

set_option maxHeartbeats 4000000 in
set_option maxRecDepth 100000 in
theorem refGives5_any (R R' : Nat → Prop) (v vn : Value) (p : Pg) (k a b : Nat) (w : World) (h : RdPg w R v p) (hM : RdM w R' vn (needM p)) (hm : mayB p = true) (hk : k < p.code.length) (ha : a < p.wide.length) (hb : b < p.wide.length) :
    Calls Try.prog 51 #[v, vn, .int .i64 (k : Int), .int .i64 (a : Int), .int .i64 (b : Int)] w fun e w' => e = .returned (.bool (nearAt p.code (needB p.code) k a b)) ∧ Fr w w' := by
  obtain ⟨l1, l2, l3, l4⟩ := mayB_len hm
  have hI := mayB_ins hm (inAt_mem hk)
  have hok := insOk hI
  have HMD := Lib.hid hM
  obtain ⟨An, cn, rfl⟩ := hM.val
  obtain ⟨vw, vc, rfl, ⟨A, c, rfl, hl, hr⟩, ⟨A', c', rfl, hl', hr', ho'⟩⟩ := h
  have hx : p.code[k]? = some (inAt p.code k) := by rw [inAt_get hk]; exact List.getElem?_eq_getElem hk
  obtain ⟨b3, o3, rfl, _, d0, d1, d2, d3, d4, d5⟩ := hr'.ins hx
  have hb3 := cell_lt d0
  have hk0 : (0 : Int) ≤ (k : Int) := Int.natCast_nonneg _
  have hk1 : (k : Int) < (p.code.length : Int) := by omega
  have HBN := Lib.hid (behTo_need (p := p) (k := k) hb)
  have HPOS := Lib.hid (fun n (hn : n ∈ nexts (inAt p.code k) k) => nexts_pos hok hn)
  have HNA : Hid (nearAt p.code (needB p.code) k a b = (gvs (inAt p.code k).op && decide ((inAt p.code k).d = (a : Int)) && !(decide ((inAt p.code k).op = 2) && decide ((inAt p.code k).a = (b : Int))) && behindM p.code (needB p.code) k b)) := rfl
  have hlen : (needM p).length = p.code.length := by unfold needM; simp
  rw [hlen]
  unfold maxLen at hl hl'
  clear hr hr' ho' hx hI hm hok
  generalize nearAt p.code (needB p.code) k a b = res at *
  generalize behindM p.code (needB p.code) k b = bh at *
  generalize hii : inAt p.code k = i at *
  clear hii
  have HNX := Lib.hid (fun w2 => refNexts_any i (k : Int) w2 hk0 (by omega))
  have hnl := nexts_len i (k : Int)
  have HG := Lib.hid (fun w => refGives_any i.op w)
  obtain ⟨op, d, a1, bb, cc, n⟩ := i
  unfold In.val at HNX
  simp only at *
  generalize nexts ⟨op, d, a1, bb, cc, n⟩ (k : Int) = ns at *
  have HF0 := Lib.hid (show Fr w ((w.alloc (.cells #[.slice A p.wide.length c, .slice (some ⟨b3, o3, none⟩) p.code.length c'] 25)).alloc (.cells #[.int .i64 op, .int .i64 d, .int .i64 a1, .int .i64 bb, .int .i64 cc, .int .u32 n] 45)) from ((Kept.refl _ w).alloc _).alloc _)
  have HBP := Lib.hid ((Blk.new w 25 #[.slice A p.wide.length c, .slice (some ⟨b3, o3, none⟩) p.code.length c']).alloc (.cells #[.int .i64 op, .int .i64 d, .int .i64 a1, .int .i64 bb, .int .i64 cc, .int .u32 n] 45))
  have no : ∀ (h : (gvs op && decide (d = (a : Int)) && !(decide (op = 2) && decide (a1 = (b : Int)))) = false), res = false := fun h => by rw [HNA.out, h]; rfl
  have HNO := Lib.hid no
  clear no
  rcases Bool.eq_false_or_eq_true (gvs op) with hg | hg
  · by_cases hda : d = (a : Int)
    · by_cases hoa : op = 2 ∧ a1 = (b : Int)
      · have HV := Lib.hid (HNO.out (by simp [hoa]))
        obtain ⟨eo, ea⟩ := hoa
        have eo' : (op == 2) = true := by simpa using eo
        have ea' : (a1 == (b : Int)) = true := by simpa using ea
        have ed' : (d != (a : Int)) = false := by simpa using hda
        rw [hg] at HG
        clear eo ea hda hg HNO HNA
        go_enter Try.func51, Try.ntmps51
        go_wp2_with fail
        refine (HG.out _).mono ?_
        rintro e w1 ⟨rfl, rfl⟩
        go_wp2
        go_ret
        exact ⟨ret_b HV.out.symm, HF0.out⟩
      · have HV : Hid (res = bh) := by
          show _ = _
          rw [HNA.out, hg, decide_eq_true hda]
          by_cases eo : op = 2
          · rw [decide_eq_false (fun h => hoa ⟨eo, h⟩ : ¬ a1 = (b : Int))]; simp
          · rw [decide_eq_false eo]; simp
        have ed' : (d != (a : Int)) = false := by simpa using hda
        have hcs : (op == 2) = false ∨ ((op == 2) = true ∧ (a1 == (b : Int)) = false) := by
          by_cases eo : op = 2
          · exact Or.inr ⟨by simpa using eo, by simpa using fun h => hoa ⟨eo, h⟩⟩
          · exact Or.inl (by simpa using eo)
        rw [hg] at HG
        clear hda hg HNO HNA hoa
        go_enter Try.func51, Try.ntmps51
        rcases hcs with eo' | ⟨eo', ea'⟩
        · go_wp2_with fail
          refine (HG.out _).mono ?_
          rintro e w1 ⟨rfl, rfl⟩
          go_wp2_with fail
          refine (HNX.out _).mono ?_
          rintro e w2 ⟨vv, rfl, hns, f2⟩
          have HF2 := Lib.hid (HF0.out.trans f2)
          have HB2 := Lib.hid (HBP.out.kept f2 (fun h => h))
          obtain ⟨Ax, cx, evv, hrx⟩ := hns
          subst evv
          have HNS := Lib.hid hrx
          clear f2 hrx
          go_wp2
          go_loopw [13] (fun i wr => ∃ j : Nat, j ≤ ns.length ∧ i = .int .i64 j ∧ Hid (behTo p.code.length (needM p) ns j b = false) ∧ Hid (Fr w2 wr)) (fun i _ => ns.length - (intOf i).toNat)
          case atStart => exact ⟨0, Nat.zero_le _, rfl, by show _ = _; unfold behTo; simp, Kept.refl _ w2⟩
          case round =>
            obtain ⟨j, hj, rfl, hbt, hf⟩ := hrel
            have hB := HB2.out.kept hf.out (fun h => h)
            have c1 := hB.cell 1
            have zb := hB.lt
            simp only [List.getElem?_toArray, List.getElem?_cons_succ, List.getElem?_cons_zero] at c1
            by_cases hjl : j < ns.length
            · have hx : ns[j]? = some ns[j] := List.getElem?_eq_getElem hjl
              obtain ⟨bx, ox, rfl, _, hcx⟩ := (HNS.out.kept hf.out (fun _ _ h => h)).2 (by omega)
              have n0 := hcx j (.int .i64 ns[j]) (by rw [List.getElem?_map, hx]; rfl)
              have hpos := HPOS.out _ (List.getElem_mem hjl)
              have hj0 : (0 : Int) ≤ (j : Int) := Int.natCast_nonneg _
              have hj1 : (j : Int) < (ns.length : Int) := by omega
              have HX := Lib.hid hx
              clear hcx hx hB
              generalize ns[j] = nn at *
              obtain ⟨m, rfl⟩ : ∃ m : Nat, nn = (m : Int) := ⟨nn.toNat, by omega⟩
              by_cases hml : m < p.code.length
              · obtain ⟨bg, og, cg, u, hv, _, hlg, hcell, hbo⟩ := ((HMD.out.kept HF2.out (fun _ _ h => h)).kept hf.out (fun _ _ h => h)).row (k := m) (row := (List.range p.wide.length).map (needB p.code m)) (matL_at (M := needB p.code) hml)
                obtain ⟨bh2, oh2, ch2, hu, _, hlh, hcb⟩ := hbo.at_ (k := b) (x := needB p.code m b) (by simp [List.getElem?_range hb])
                rw [show ((List.range p.wide.length).map (needB p.code m)).length = p.wide.length by simp] at hu
                subst hu
                simp only [Value.slice.injEq] at hv
                obtain ⟨hv1, _, hv3⟩ := hv
                subst hv1
                have hml' : (m : Int) < (p.code.length : Int) := by omega
                have hm0 : (0 : Int) ≤ (m : Int) := Int.natCast_nonneg _
                have hb0 : (0 : Int) ≤ (b : Int) := Int.natCast_nonneg _
                have hb1 : (b : Int) < (p.wide.length : Int) := by omega
                have hxl : decide ((m : Int) < (p.code.length : Int)) = true := decide_eq_true hml'
                clear hv3 hbo
                cases hnb : needB p.code m b with
                | true =>
                  have HT : Hid (res = true) := by
                    show _ = _
                    rw [HV.out, ← HBN.out]
                    exact behTo_yes HX.out (by simpa using hml) (by rw [show ((m : Int)).toNat = m by simp, needM_at hml hb]; exact hnb)
                  rw [hnb] at hcb
                  clear hnb
                  go_wp2
                  go_quiet (fail)
                  go_wp2
                  go_ret
                  exact ⟨ret_b HT.out.symm, (HF2.out.trans hf.out).drewN nq⟩
                | false =>
                  have HN := Lib.hid (show behTo p.code.length (needM p) ns (j + 1) b = false from by
                    rw [behTo_s HX.out, hbt.out, show ((m : Int)).toNat = m by simp, needM_at hml hb, hnb]; simp)
                  rw [hnb] at hcb
                  clear hnb
                  go_wp2
                  go_quiet (fail)
                  go_wp2
                  go_roundw
                  case rel => exact ⟨j + 1, by omega, by go_num, HN, Lib.hid (hf.out.drewN nq)⟩
                  case measure => simp [intOf]; omega
              · have HN := Lib.hid (show behTo p.code.length (needM p) ns (j + 1) b = false from by
                  rw [behTo_s HX.out, hbt.out, show ((m : Int)).toNat = m by simp, decide_eq_false hml]; simp)
                have hml' : ¬ (m : Int) < (p.code.length : Int) := by omega
                have hxl : decide ((m : Int) < (p.code.length : Int)) = false := decide_eq_false hml'
                go_wp2
                go_quiet (fail)
                go_wp2
                go_roundw
                case rel => exact ⟨j + 1, by omega, by go_num, HN, Lib.hid (hf.out.drewN nq)⟩
                case measure => simp [intOf]; omega
            · obtain rfl : j = ns.length := by omega
              have HT : Hid (res = false) := by show _ = _; rw [HV.out, ← HBN.out]; exact hbt.out
              go_wp2
              go_ret
              exact ⟨ret_b HT.out.symm, HF2.out.trans hf.out⟩
        · go_wp2_with fail
          refine (HG.out _).mono ?_
          rintro e w1 ⟨rfl, rfl⟩
          go_wp2_with fail
          refine (HNX.out _).mono ?_
          rintro e w2 ⟨vv, rfl, hns, f2⟩
          have HF2 := Lib.hid (HF0.out.trans f2)
          have HB2 := Lib.hid (HBP.out.kept f2 (fun h => h))
          obtain ⟨Ax, cx, evv, hrx⟩ := hns
          subst evv
          have HNS := Lib.hid hrx
          clear f2 hrx
          go_wp2
          go_loopw [13] (fun i wr => ∃ j : Nat, j ≤ ns.length ∧ i = .int .i64 j ∧ Hid (behTo p.code.length (needM p) ns j b = false) ∧ Hid (Fr w2 wr)) (fun i _ => ns.length - (intOf i).toNat)
          case atStart => exact ⟨0, Nat.zero_le _, rfl, by show _ = _; unfold behTo; simp, Kept.refl _ w2⟩
          case round =>
            obtain ⟨j, hj, rfl, hbt, hf⟩ := hrel
            have hB := HB2.out.kept hf.out (fun h => h)
            have c1 := hB.cell 1
            have zb := hB.lt
            simp only [List.getElem?_toArray, List.getElem?_cons_succ, List.getElem?_cons_zero] at c1
            by_cases hjl : j < ns.length
            · have hx : ns[j]? = some ns[j] := List.getElem?_eq_getElem hjl
              obtain ⟨bx, ox, rfl, _, hcx⟩ := (HNS.out.kept hf.out (fun _ _ h => h)).2 (by omega)
              have n0 := hcx j (.int .i64 ns[j]) (by rw [List.getElem?_map, hx]; rfl)
              have hpos := HPOS.out _ (List.getElem_mem hjl)
              have hj0 : (0 : Int) ≤ (j : Int) := Int.natCast_nonneg _
              have hj1 : (j : Int) < (ns.length : Int) := by omega
              have HX := Lib.hid hx
              clear hcx hx hB
              generalize ns[j] = nn at *
              obtain ⟨m, rfl⟩ : ∃ m : Nat, nn = (m : Int) := ⟨nn.toNat, by omega⟩
              by_cases hml : m < p.code.length
              · obtain ⟨bg, og, cg, u, hv, _, hlg, hcell, hbo⟩ := ((HMD.out.kept HF2.out (fun _ _ h => h)).kept hf.out (fun _ _ h => h)).row (k := m) (row := (List.range p.wide.length).map (needB p.code m)) (matL_at (M := needB p.code) hml)
                obtain ⟨bh2, oh2, ch2, hu, _, hlh, hcb⟩ := hbo.at_ (k := b) (x := needB p.code m b) (by simp [List.getElem?_range hb])
                rw [show ((List.range p.wide.length).map (needB p.code m)).length = p.wide.length by simp] at hu
                subst hu
                simp only [Value.slice.injEq] at hv
                obtain ⟨hv1, _, hv3⟩ := hv
                subst hv1
                have hml' : (m : Int) < (p.code.length : Int) := by omega
                have hm0 : (0 : Int) ≤ (m : Int) := Int.natCast_nonneg _
                have hb0 : (0 : Int) ≤ (b : Int) := Int.natCast_nonneg _
                have hb1 : (b : Int) < (p.wide.length : Int) := by omega
                have hxl : decide ((m : Int) < (p.code.length : Int)) = true := decide_eq_true hml'
                clear hv3 hbo
                cases hnb : needB p.code m b with
                | true =>
                  have HT : Hid (res = true) := by
                    show _ = _
                    rw [HV.out, ← HBN.out]
                    exact behTo_yes HX.out (by simpa using hml) (by rw [show ((m : Int)).toNat = m by simp, needM_at hml hb]; exact hnb)
                  rw [hnb] at hcb
                  clear hnb
                  go_wp2
                  go_quiet (fail)
                  go_wp2
                  go_ret
                  exact ⟨ret_b HT.out.symm, (HF2.out.trans hf.out).drewN nq⟩
                | false =>
                  have HN := Lib.hid (show behTo p.code.length (needM p) ns (j + 1) b = false from by
                    rw [behTo_s HX.out, hbt.out, show ((m : Int)).toNat = m by simp, needM_at hml hb, hnb]; simp)
                  rw [hnb] at hcb
                  clear hnb
                  go_wp2
                  go_quiet (fail)
                  go_wp2
                  go_roundw
                  case rel => exact ⟨j + 1, by omega, by go_num, HN, Lib.hid (hf.out.drewN nq)⟩
                  case measure => simp [intOf]; omega
              · have HN := Lib.hid (show behTo p.code.length (needM p) ns (j + 1) b = false from by
                  rw [behTo_s HX.out, hbt.out, show ((m : Int)).toNat = m by simp, decide_eq_false hml]; simp)
                have hml' : ¬ (m : Int) < (p.code.length : Int) := by omega
                have hxl : decide ((m : Int) < (p.code.length : Int)) = false := decide_eq_false hml'
                go_wp2
                go_quiet (fail)
                go_wp2
                go_roundw
                case rel => exact ⟨j + 1, by omega, by go_num, HN, Lib.hid (hf.out.drewN nq)⟩
                case measure => simp [intOf]; omega
            · obtain rfl : j = ns.length := by omega
              have HT : Hid (res = false) := by show _ = _; rw [HV.out, ← HBN.out]; exact hbt.out
              go_wp2
              go_ret
              exact ⟨ret_b HT.out.symm, HF2.out.trans hf.out⟩
    · have HV := Lib.hid (HNO.out (by simp [hda]))
      have ed' : (d != (a : Int)) = true := by simpa using hda
      rw [hg] at HG
      clear hda hg HNO HNA
      go_enter Try.func51, Try.ntmps51
      go_wp2_with fail
      refine (HG.out _).mono ?_
      rintro e w1 ⟨rfl, rfl⟩
      go_wp2
      go_ret
      exact ⟨ret_b HV.out.symm, HF0.out⟩
  · have HV := Lib.hid (HNO.out (by simp [hg]))
    rw [hg] at HG
    clear hg HNO HNA
    go_enter Try.func51, Try.ntmps51
    go_wp2_with fail
    refine (HG.out _).mono ?_
    rintro e w1 ⟨rfl, rfl⟩
    go_wp2
    go_ret
    exact ⟨ret_b HV.out.symm, HF0.out⟩
end Go.Proofs.Ytodmkjeankbieab
