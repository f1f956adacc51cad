/- Texts of this claim, packed. -/
import Derived.Test.YtodmkjeankbieaaGreatDoorKAllk5
set_option linter.all false
namespace Go.Proofs.YtodmkjeankbieaaGreatDoor
open Go.RowKit Go.Sort

structure NrMem (wr : World) (nv g0 rb W j : Nat) (f : Nat → Nat → Bool) : Prop where
 nb : Blk wr nv 39 #[.slice (some ⟨g0, 0, none⟩) W W]
 ob : Blk wr g0 25 (mkS W (fun k => if k < j then .slice (some ⟨rb + k, 0, none⟩) W W else .slice none 0 0))
 row : ∀ k, k < j → Blk wr (rb + k) 4 (mkB W (f k))
section
variable {wr w2 : World} {nv g0 rb W j : Nat} {f : Nat → Nat → Bool}
theorem NrMem.keep {S : Nat → Prop} (h : NrMem wr nv g0 rb W j f) (hk : Kept S wr w2) (h1 : ¬ S nv) (h2 : ¬ S g0) (h3 : ∀ k, k < j → ¬ S (rb + k)) : NrMem w2 nv g0 rb W j f :=
 ⟨h.nb.kept hk h1, h.ob.kept hk h2, fun k hkj => (h.row k hkj).kept hk (h3 k hkj)⟩
theorem NrMem.fr (h : NrMem wr nv g0 rb W j f) (hk : Fr wr w2) : NrMem w2 nv g0 rb W j f := h.keep hk (fun h => h) (fun h => h) (fun _ _ h => h)
theorem NrMem.set (h : NrMem wr nv g0 rb W W f) {a b : Nat} (ha : a < W) : NrMem (wr.setCell ⟨rb + a, b, none⟩ (.bool true)) nv g0 rb W W (fun x y => if x = a ∧ y = b then true else f x y) := by
 have hr := h.row a ha
 have hK : Kept (fun k => k = rb + a) wr (wr.setCell ⟨rb + a, b, none⟩ (.bool true)) := (Kept.refl (fun k => k = rb + a) wr).setCell (p := ⟨rb + a, b, none⟩) (fun _ => rfl) _
 refine ⟨h.nb.kept hK (h.nb.ne_ hr (by decide)), h.ob.kept hK (h.ob.ne_ hr (by decide)), fun k hk => ?_⟩
 by_cases e : k = a
 · subst e
   have := hr.bset b true
   rw [show (fun y => if k = k ∧ y = b then true else f k y) = (fun y => if y = b then true else f k y) from funext fun y => by simp]
   exact this
 · rw [show (fun y => if k = a ∧ y = b then true else f k y) = f k from funext fun y => by rw [if_neg (fun h => e h.1)]]
   exact (h.row k hk).kept hK (by omega)
theorem NrMem.congr {f' : Nat → Nat → Bool} (h : NrMem wr nv g0 rb W j f) (hf : ∀ x y, f x y = f' x y) : NrMem wr nv g0 rb W j f' := by
 rwa [show f' = f from funext fun x => funext fun y => (hf x y).symm]
end

set_option maxHeartbeats 2000000 in
set_option maxRecDepth 100000 in
theorem near1_any (nv g0 rb W a b : Nat) (f : Nat → Nat → Bool) (w : World) (h : NrMem w nv g0 rb W W f) (ha : a < W) (hb : b < W) (hW : W ≤ 100) :
   Calls Tryz.prog 20 #[.int .i64 (a : Int), .int .i64 (b : Int), .pointer (some ⟨nv, 0, none⟩)] w fun e w' => e = .returned (.tuple #[]) ∧ NrMem w' nv g0 rb W W (putN f a b) ∧ Kept (fun k => rb ≤ k ∧ k < rb + W) w w' := by
 have H := Lib.hid h
 have n0 := h.nb.cell 0
 have o0 := h.ob.cell a
 have o1 := h.ob.cell b
 rw [mkS_at ha, if_pos ha] at o0
 rw [mkS_at hb, if_pos hb] at o1
 simp only [List.getElem?_toArray, List.getElem?_cons_succ, List.getElem?_cons_zero] at n0
 have r0 := (h.row a ha).bcell hb
 have r1 := (h.row b hb).bcell ha
 have y0 := (h.row a ha).frozen b
 have y1 := (h.row b hb).frozen a
 have z0 := (h.row a ha).lt
 have z1 := (h.row b hb).lt
 have zn := h.nb.lt
 have zo := h.ob.lt
 have a0 : (0 : Int) ≤ (a : Int) := Int.natCast_nonneg _
 have b0 : (0 : Int) ≤ (b : Int) := Int.natCast_nonneg _
 have a1 : (a : Int) < (W : Int) := by omega
 have b1 : (b : Int) < (W : Int) := by omega
 have hn1 := h.nb.ne_ (h.row a ha) (by decide)
 have hn2 := h.nb.ne_ (h.row b hb) (by decide)
 have ho1 := h.ob.ne_ (h.row a ha) (by decide)
 have ho2 := h.ob.ne_ (h.row b hb) (by decide)
 clear h
 by_cases hab : a = b
 · subst hab
   go_enter Tryz.func20, Tryz.ntmps20
   go_wp2
   go_end0
   exact ⟨rfl, H.out.congr (fun x y => by unfold putN; simp), Kept.refl _ w⟩
 · have hne : ((a : Int) != (b : Int)) = true := by simpa using fun h => hab (by omega)
   have hne2 : rb + a ≠ rb + b := by omega
   go_enter Tryz.func20, Tryz.ntmps20
   go_wp2
   go_region
   go_wp2
   go_end0
   refine ⟨rfl, (((H.out.set (b := b) ha).set (b := a) hb).congr (f' := putN f a b) (fun x y => by unfold putN; rw [if_neg hab])).fr (Kept.refl _ _).drew, ?_⟩
   exact (((Kept.refl (fun k => rb ≤ k ∧ k < rb + W) w).setCell (p := ⟨rb + a, b, none⟩) (fun _ => by simp only; omega) _).setCell (p := ⟨rb + b, a, none⟩) (fun _ => by simp only; omega) _).drew

theorem Reads.old' {w : World} {R : Nat → Prop} {size n : Nat} {A : Option Addr} {xs : List Value} (h : Reads w R size A n xs) (hs : 0 < size) : Reads w (fun b => R b ∧ b < w.heap.size) size A n xs := by
 refine ⟨h.1, fun hn => ?_⟩
 obtain ⟨b, off, e, hR, hc⟩ := h.2 hn
 have hl : 0 < xs.length := by rw [h.1]; exact Nat.mul_pos hn hs
 exact ⟨b, off, e, ⟨hR, cell_lt (hc 0 xs[0] (List.getElem?_eq_getElem hl))⟩, hc⟩
theorem RdM.old {w : World} {R : Nat → Prop} {v : Value} {M : List (List Bool)} (h : RdM w R v M) : RdM w (fun b => R b ∧ b < w.heap.size) v M := by
 obtain ⟨A, c, vs, e, hl, hr, hrow⟩ := h
 refine ⟨A, c, vs, e, hl, hr.old' (by decide), fun k row hk => ?_⟩
 obtain ⟨v, hv, A2, c2, e2, hl2, hr2⟩ := hrow k row hk
 exact ⟨v, hv, A2, c2, e2, hl2, hr2.old' (by decide)⟩
theorem NrMem.rdm {wr : World} {nv g0 rb W : Nat} {f : Nat → Nat → Bool} {R : Nat → Prop} (h : NrMem wr nv g0 rb W W f) (h0 : R g0) (hR : ∀ k, R (rb + k)) (hW : W ≤ 100) : RdM wr R (.slice (some ⟨g0, 0, none⟩) W W) (matL W W f) := by
 have hm : (matL W W f).length = W := by unfold matL; simp
 refine ⟨some ⟨g0, 0, none⟩, W, (List.range W).map (fun k => if k < W then .slice (some ⟨rb + k, 0, none⟩) W W else .slice none 0 0), by rw [hm], by rw [hm]; unfold maxLen; omega, ?_, ?_⟩
 · rw [hm]
   refine ⟨by simp, fun _ => ⟨g0, 0, rfl, h0, fun i u hu => ?_⟩⟩
   rw [Nat.zero_add, h.ob.cell, ← hu]
   unfold mkS
   simp
 · intro k r hk
   have hkL : k < W := by rw [← hm]; exact (List.getElem?_eq_some_iff.1 hk).1
   rw [matL_at hkL] at hk
   simp at hk
   subst hk
   exact ⟨_, by simp [List.getElem?_range hkL, hkL]; rfl, RdBo.of_blk (h.row k hkL) (hR k) (by unfold maxLen; omega)⟩

theorem NrMem.more {wr : World} {nv g0 rb W j : Nat} (h : NrMem wr nv g0 rb W j (fun _ _ => false)) (hs : wr.heap.size = rb + j) (hj : j < W) :
   NrMem ((wr.setCell ⟨g0, j, none⟩ (.slice (some ⟨wr.heap.size, 0, none⟩) W W)).alloc (.cells (mkB W fun _ => false) 4)).drew nv g0 rb W (j + 1) (fun _ _ => false) := by
 have hK : Kept (fun k => k = g0) wr (wr.setCell ⟨g0, j, none⟩ (.slice (some ⟨wr.heap.size, 0, none⟩) W W)) := (Kept.refl (fun k => k = g0) wr).setCell (p := ⟨g0, j, none⟩) (fun _ => rfl) _
 have hsz : (wr.setCell ⟨g0, j, none⟩ (.slice (some ⟨wr.heap.size, 0, none⟩) W W)).heap.size = wr.heap.size := by simp [World.setCell]
 refine ⟨((h.nb.kept hK (h.nb.ne_ h.ob (by decide))).alloc _).drew, ?_, fun k hk => ?_⟩
 · have := ((h.ob.set_ j (.slice (some ⟨wr.heap.size, 0, none⟩) W W)).alloc (.cells (mkB W fun _ => false) 4)).drew
   rw [mkS_set] at this
   rw [show (fun k => if k < j + 1 then Value.slice (some ⟨rb + k, 0, none⟩) W W else .slice none 0 0) = (fun s => if s = j then Value.slice (some ⟨wr.heap.size, 0, none⟩) W W else if s < j then .slice (some ⟨rb + s, 0, none⟩) W W else .slice none 0 0) from funext fun k => by
     by_cases e : k = j
     · subst e; rw [if_pos (by omega), if_pos rfl, hs]
     · rw [if_neg e]
       by_cases e2 : k < j
       · rw [if_pos (by omega), if_pos e2]
       · rw [if_neg (by omega), if_neg e2]]
   exact this
 · by_cases e : k = j
   · subst e
     have := (Blk.new (wr.setCell ⟨g0, k, none⟩ (.slice (some ⟨wr.heap.size, 0, none⟩) W W)) 4 (mkB W fun _ => false)).drew
     rw [hsz] at this
     rw [show rb + k = wr.heap.size from hs.symm]
     exact this
   · have hr := h.row k (by omega)
     exact ((hr.kept hK (hr.ne_ h.ob (by decide))).alloc _).drew
structure NoMem (w wr : World) (vw vc : Value) (g0 W gl : Nat) (p : Pg) (f : Nat → Nat → Bool) : Prop where
 bp : Blk wr w.heap.size 28 #[vw, vc]
 nr : NrMem wr (g0 + 1) g0 (g0 + 2) W W f
 nd : RdM wr (fun b => w.heap.size < b ∧ b < g0) (.slice (some ⟨gl, 0, none⟩) p.code.length p.code.length) (needM p)
 fr : Fr w wr
 o1 : w.heap.size < g0
section
variable {w wr w2 : World} {vw vc : Value} {g0 W gl : Nat} {p : Pg} {f f' : Nat → Nat → Bool}
theorem NoMem.keep (h : NoMem w wr vw vc g0 W gl p f) (hk : Fr wr w2) : NoMem w w2 vw vc g0 W gl p f :=
 ⟨h.bp.kept hk (fun h => h), h.nr.fr hk, h.nd.kept hk (fun _ _ h => h), h.fr.trans hk, h.o1⟩
theorem NoMem.put (h : NoMem w wr vw vc g0 W gl p f) (hn : NrMem w2 (g0 + 1) g0 (g0 + 2) W W f') (hk : Kept (fun k => g0 + 2 ≤ k ∧ k < g0 + 2 + W) wr w2) : NoMem w w2 vw vc g0 W gl p f' :=
 ⟨h.bp.kept hk (by have := h.o1; omega), hn, h.nd.kept hk (fun b hb => by omega), h.fr.then hk (fun i hi e => by have := h.o1; omega), h.o1⟩
end
theorem nearM_eq {p : Pg} {f : Nat → Nat → Bool} (h : ∀ a b, a < p.wide.length → b < p.wide.length → f a b = nearB p.code a b) : matL p.wide.length p.wide.length f = nearM p := by
 unfold matL nearM
 apply List.map_congr_left
 intro k hk
 apply List.map_congr_left
 intro t ht
 exact h k t (List.mem_range.1 hk) (List.mem_range.1 ht)
structure Row0 (wr : World) (gl g0 bb ob W c : Nat) (m : Nat → Bool) : Prop where
 ptr : wr.cell? ⟨gl, 0, none⟩ = some (.slice (some ⟨bb, ob, none⟩) W c)
 cell : ∀ j, j < W → wr.cell? ⟨bb, ob + j, none⟩ = some (.bool (m j))
 l1 : gl < g0
 l2 : bb < g0
 h1 : gl < wr.heap.size
 h2 : bb < wr.heap.size
theorem Row0.keep {wr w2 : World} {gl g0 bb ob W c : Nat} {m : Nat → Bool} (h : Row0 wr gl g0 bb ob W c m) {S : Nat → Prop} (hk : Kept S wr w2) (hS : ∀ k, S k → g0 ≤ k) : Row0 w2 gl g0 bb ob W c m :=
 ⟨(hk.cell (p := ⟨gl, 0, none⟩) h.h1 (fun hs => by have := hS _ hs; have := h.l1; simp only at *; omega)).trans h.ptr, fun j hj => (hk.cell (p := ⟨bb, ob + j, none⟩) h.h2 (fun hs => by have := hS _ hs; have := h.l2; simp only at *; omega)).trans (h.cell j hj), h.l1, h.l2,
   Nat.lt_of_lt_of_le h.h1 hk.size, Nat.lt_of_lt_of_le h.h2 hk.size⟩

def NearPost (w : World) (p : Pg) (e : Ending) (w' : World) : Prop :=
 Fr w w' ∧ ((mayB p = false ∧ e = .returned (.tuple #[.slice none 0 0, .int .i64 2])) ∨
   (mayB p = true ∧ ∃ g0, e = .returned (.tuple #[.slice (some ⟨g0, 0, none⟩) p.wide.length p.wide.length, .int .i64 0]) ∧ RdM w' (fun b => w.heap.size < b) (.slice (some ⟨g0, 0, none⟩) p.wide.length p.wide.length) (nearM p)))

set_option maxHeartbeats 8000000 in
set_option maxRecDepth 100000 in
theorem nearOf_any (R : Nat → Prop) (v : Value) (p : Pg) (w : World) (h : RdPg w R v p) : Calls Tryz.prog 10 #[v] w (NearPost w p) := by
 have H := Lib.hid h
 obtain ⟨vw, vc, rfl, ⟨A, c, rfl, hl, hr⟩, ⟨A', c', rfl, hl', hr', ho'⟩⟩ := h
 unfold maxLen at hl hl'
 clear hr hr' ho'
 have B0 := Lib.hid (Blk.new w 28 #[.slice A p.wide.length c, .slice A' p.code.length c'])
 have F0 := Lib.hid (show Fr w (w.alloc (.cells #[.slice A p.wide.length c, .slice A' p.code.length c'] 28)) from (Kept.refl _ w).alloc _)
 go_enter Tryz.func10, Tryz.ntmps10
 go_wp2_with fail
 refine (liveOf_any R _ p _ (H.out.kept F0.out (fun _ _ h => h))).mono ?_
 rintro e w1 ⟨f1, he⟩
 have HF1 := Lib.hid (F0.out.trans f1)
 have HB1 := Lib.hid (B0.out.kept f1 (fun h => h))
 have z1 := HB1.out.lt
 have c0 := HB1.out.cell 0
 have c1 := HB1.out.cell 1
 simp only [List.getElem?_toArray, List.getElem?_cons_succ, List.getElem?_cons_zero] at c0 c1
 clear f1
 rcases he with ⟨hm, rfl⟩ | ⟨hm, gl, rfl, hnd⟩
 · have HMay := Lib.hid hm
   clear hm
   go_wp2
   go_ret2
   exact ⟨HF1.out, Or.inl ⟨HMay.out, rfl⟩⟩
 · have HMay := Lib.hid hm
   obtain ⟨l1, l2, l3, l4⟩ := mayB_len hm
   have HND := Lib.hid (show RdM w1 (fun b => w.heap.size < b ∧ b < w1.heap.size) (.slice (some ⟨gl, 0, none⟩) p.code.length p.code.length) (needM p) from by
     obtain ⟨A5, c5, vs5, e5, hl5, hr5, hrow5⟩ := hnd.old
     exact ⟨A5, c5, vs5, e5, hl5, hr5.more (fun b hb => ⟨by have := hb.1; simp at this; omega, hb.2⟩), fun k row hk => let ⟨v5, h5, A6, c6, e6, hl6, hr6⟩ := hrow5 k row hk; ⟨v5, h5, A6, c6, e6, hl6, hr6.more (fun b hb => ⟨by have := hb.1; simp at this; omega, hb.2⟩)⟩⟩)
   clear hm hnd
   have hmr := run_make_rows p.wide.length (by omega)
   have hmk := run_make_bools p.wide.length (by omega)
   have hN0 : NrMem ((w1.alloc (.cells (mkS p.wide.length fun _ => .slice none 0 0) 25)).alloc (.cells #[.slice (some ⟨w1.heap.size, 0, none⟩) p.wide.length p.wide.length] 39)) (w1.heap.size + 1) w1.heap.size (w1.heap.size + 2) p.wide.length 0 (fun _ _ => false) := by
     refine ⟨?_, (Blk.new w1 _ _).alloc _, fun k hk => by omega⟩
     have := Blk.new (w1.alloc (.cells (mkS p.wide.length fun _ => .slice none 0 0) 25)) 39 #[.slice (some ⟨w1.heap.size, 0, none⟩) p.wide.length p.wide.length]
     simpa using this
   have HN0 := Lib.hid hN0
   have HF2 := Lib.hid (show Fr w1 ((w1.alloc (.cells (mkS p.wide.length fun _ => .slice none 0 0) 25)).alloc (.cells #[.slice (some ⟨w1.heap.size, 0, none⟩) p.wide.length p.wide.length] 39)) from ((Kept.refl _ w1).alloc _).alloc _)
   clear hN0
   go_wp2
   go_loopw [31] (fun i wr => ∃ j : Nat, j ≤ p.wide.length ∧ i = .int .i64 j ∧ Hid (NrMem wr (w1.heap.size + 1) w1.heap.size (w1.heap.size + 2) p.wide.length j (fun _ _ => false)) ∧ Hid (Fr w1 wr) ∧ Hid (wr.heap.size = w1.heap.size + 2 + j)) (fun i _ => p.wide.length - (intOf i).toNat)
   case atStart => exact ⟨0, Nat.zero_le _, rfl, HN0, HF2, by show _ = _; simp⟩
   case round =>
     obtain ⟨j, hj, rfl, hn, hf, hsz⟩ := hrel
     clear HN0 HF2 c0 c1
     have hB := HB1.out.kept hf.out (fun h => h)
     have c0 := hB.cell 0
     have c1 := hB.cell 1
     have zb := hB.lt
     have n0 := hn.out.nb.cell 0
     have zn := hn.out.nb.lt
     have zo := hn.out.ob.lt
     simp only [List.getElem?_toArray, List.getElem?_cons_succ, List.getElem?_cons_zero] at c0 c1 n0
     by_cases hlt : j < p.wide.length
     · have o0 := hn.out.ob.cell j
       rw [mkS_at hlt, if_neg (by omega)] at o0
       have y0 := hn.out.ob.frozen j
       have hj0 : (0 : Int) ≤ (j : Int) := Int.natCast_nonneg _
       have hj1 : (j : Int) < (p.wide.length : Int) := by omega
       clear hB
       go_wp2
       go_region
       have HN1 := Lib.hid (hn.out.more hsz.out hlt)
       have HF3 : Hid (Fr w1 ((wr.setCell ⟨w1.heap.size, j, none⟩ (.slice (some ⟨wr.heap.size, 0, none⟩) p.wide.length p.wide.length)).alloc (.cells (mkB p.wide.length fun _ => false) 4)).drew) :=
         ((hf.out.setCell (fun e => by simp only at e; omega) _).alloc _).drew
       have HS3 : Hid (((wr.setCell ⟨w1.heap.size, j, none⟩ (.slice (some ⟨wr.heap.size, 0, none⟩) p.wide.length p.wide.length)).alloc (.cells (mkB p.wide.length fun _ => false) 4)).drew.heap.size = w1.heap.size + 2 + (j + 1)) := by
         have := hsz.out
         show _ = _
         simp [World.drew, World.setCell]
         omega
       go_wp2
       go_roundw
       case rel => exact ⟨j + 1, by omega, by go_num, HN1, HF3, HS3⟩
       case measure => simp [intOf]; omega
     · obtain rfl : j = p.wide.length := by omega
       have HM0 := Lib.hid (show NoMem w wr (.slice A p.wide.length c) (.slice A' p.code.length c') w1.heap.size p.wide.length gl p (fun _ _ => false) from
         ⟨hB, hn.out, HND.out.kept hf.out (fun _ _ h => h), HF1.out.trans hf.out, z1⟩)
       have HK0 := Lib.hid (NearK.zero (code := p.code) (M := needB p.code) (W := p.wide.length))
       have hmf : ∀ (fn : Fn) (first cap : Array Value) (w : World), (Instr.makeFunc fn first cap).run Tryz.prog w = .ok (.func fn first cap) w := fun _ _ _ _ => rfl
       clear hn hf hsz hB
       clear hmr hmk
       obtain ⟨wo, rfl⟩ : ∃ wo : World, wo = wr := ⟨_, rfl⟩
       go_wp2
       go_loopw [46] (fun i wr => ∃ (k : Nat) (f : Nat → Nat → Bool), k ≤ p.code.length ∧ i = .int .i64 k ∧ Hid (NearK p.code (needB p.code) p.wide.length k f) ∧ Hid (NoMem w wr (.slice A p.wide.length c) (.slice A' p.code.length c') w1.heap.size p.wide.length gl p f)) (fun i _ => p.code.length - (intOf i).toNat)
       case atStart => exact ⟨0, _, Nat.zero_le _, rfl, HK0, HM0⟩
       case round =>
         obtain ⟨k, f, hk, rfl, hnk, hm⟩ := hrel
         clear HM0 HK0 c0 c1 n0 zb zn zo
         have c0 := hm.out.bp.cell 0
         have c1 := hm.out.bp.cell 1
         have zb := hm.out.bp.lt
         simp only [List.getElem?_toArray, List.getElem?_cons_succ, List.getElem?_cons_zero] at c0 c1
         by_cases hlt : k < p.code.length
         · have hx : p.code[k]? = some (inAt p.code k) := by rw [inAt_get hlt]; exact List.getElem?_eq_getElem hlt
           obtain ⟨b3, o3, hA3, _, d0, d1, d2, d3, d4, d5⟩ := ((pg_code H.out).kept hm.out.fr (fun _ _ h => h)).ins hx
           subst hA3
           have hI := mayB_ins HMay.out (inAt_mem hlt)
           obtain ⟨⟨ha0, ha1⟩, ⟨hb0, hb1⟩, ⟨hd0, hd1⟩, hc0⟩ := ins_fields hI l1
           have hkn := (insOk hI).kn
           have hb3 := cell_lt d0
           have hk0 : (0 : Int) ≤ (k : Int) := Int.natCast_nonneg _
           have hk1 : (k : Int) < (p.code.length : Int) := by omega
           have HNO := Lib.hid (fun (h : gvs (inAt p.code k).op = false) => hnk.out.none h)
           have HYES := Lib.hid (fun (t d : Nat) (f : Nat → Nat → Bool) (h : NearT p.code (needB p.code) p.wide.length k t f) (hg : gvs (inAt p.code k).op = true) (hd : (inAt p.code k).d = (d : Int)) (hb : behindM p.code (needB p.code) k t = true) (hm : ¬ ((inAt p.code k).op = 2 ∧ (inAt p.code k).a = (t : Int))) => h.yes hg hd hb hm)
           have HNT := Lib.hid (fun (t : Nat) (f : Nat → Nat → Bool) (h : NearT p.code (needB p.code) p.wide.length k t f) (hn : ¬ (behindM p.code (needB p.code) k t = true ∧ ¬ ((inAt p.code k).op = 2 ∧ (inAt p.code k).a = (t : Int)))) => h.no hn)
           clear hx hI
           generalize hii : inAt p.code k = i at *
           clear hii
           obtain ⟨op, d, a, bb, cc, n⟩ := i
           simp only at *
           obtain ⟨dn, rfl⟩ : ∃ dn : Nat, d = (dn : Int) := ⟨d.toNat, by omega⟩
           have HGv := Lib.hid (fun w => Gives_any (⟨op, dn, a, bb, cc, n⟩ : In) w hkn)
           unfold In.val at HGv
           simp only at HGv
           obtain ⟨wB, rfl⟩ : ∃ wB : World, wB = wr := ⟨_, rfl⟩
           have HBe := Lib.hid (fun w2 (hf : Fr wB w2) => Behind_any R _ _ _ p (needM p) k w2 (H.out.kept (hm.out.fr.trans hf) (fun _ _ h => h)) (hm.out.keep hf).nd (matL_ok (M := needB p.code)) HMay.out hlt)
           have BI := Lib.hid (Blk.new wB 45 #[.int .i64 op, .int .i64 dn, .int .i64 a, .int .i64 bb, .int .i64 cc, .int .u32 n])
           have HMA := Lib.hid (hm.out.keep ((Kept.refl _ wB).alloc (.cells #[.int .i64 op, .int .i64 dn, .int .i64 a, .int .i64 bb, .int .i64 cc, .int .u32 n] 45)))
           have hbig : w1.heap.size + 2 + p.wide.length ≤ wB.heap.size := by
             have := (hm.out.nr.row (p.wide.length - 1) (by omega)).lt
             omega
           go_wp2_with fail
           refine (HGv.out _).mono ?_
           rintro e w3 ⟨rfl, f3⟩
           have HM3 := Lib.hid (HMA.out.keep f3)
           have BI3 := Lib.hid (BI.out.kept f3 (fun h => h))
           have HF3 := Lib.hid (((Kept.refl _ wB).alloc (.cells #[.int .i64 op, .int .i64 dn, .int .i64 a, .int .i64 bb, .int .i64 cc, .int .u32 n] 45)).trans f3)
           clear f3 HGv
           cases hg : gvs op with
           | false =>
             have HN1 := Lib.hid (HNO.out hg)
             clear hg
             go_wp2
             go_roundw
             case rel => exact ⟨k + 1, f, by omega, by go_num, HN1, HM3⟩
             case measure => simp [intOf]; omega
           | true =>
             have HG := Lib.hid hg
             clear hg HNO
             have c0 := HM3.out.bp.cell 0
             have c1 := HM3.out.bp.cell 1
             have zb := HM3.out.bp.lt
             simp only [List.getElem?_toArray, List.getElem?_cons_succ, List.getElem?_cons_zero] at c0 c1
             go_wp2_with fail
             refine (HBe.out _ HF3.out).mono ?_
             rintro e w4 ⟨g, rfl, hge, hbR, f4⟩
             have HM4 := Lib.hid (HM3.out.keep f4)
             have BI4 := Lib.hid (BI3.out.kept f4 (fun h => h))
             have hbR' : Blk w4 g 4 (mkB p.wide.length (behindM p.code (needB p.code) k)) := by
               have e : mkB p.wide.length (behindM p.code (mfn (needM p)) k) = mkB p.wide.length (behindM p.code (needB p.code) k) := mkB_congr (fun t ht => behind_matL (code := p.code) (W := p.wide.length) (k := k) (M := needB p.code) ht)
               rw [e] at hbR
               exact hbR
             have HR4 := Lib.hid hbR'
             have hgB : wB.heap.size ≤ g := by have := HF3.out.size; omega
             have HT0 := Lib.hid hnk.out.toT
             clear f4 hbR hbR' HBe
             go_wp2
             obtain ⟨wq, rfl⟩ : ∃ wq : World, wq = w4 := ⟨_, rfl⟩
             go_loopw [59] (fun i wr => ∃ (t : Nat) (f : Nat → Nat → Bool), t ≤ p.wide.length ∧ i = .int .i64 t ∧ Hid (NearT p.code (needB p.code) p.wide.length k t f) ∧ Hid (NoMem w wr (.slice A p.wide.length c) (.slice (some ⟨b3, o3, none⟩) p.code.length c') w1.heap.size p.wide.length gl p f) ∧ Hid (Blk wr wB.heap.size 45 #[.int .i64 op, .int .i64 dn, .int .i64 a, .int .i64 bb, .int .i64 cc, .int .u32 n]) ∧
               Hid (Blk wr g 4 (mkB p.wide.length (behindM p.code (needB p.code) k)))) (fun i _ => p.wide.length - (intOf i).toNat)
             case atStart => exact ⟨0, f, Nat.zero_le _, rfl, HT0, HM4, BI4, HR4⟩
             case round =>
               obtain ⟨t, f2, ht, rfl, hnt, hm2, hi2, hr2⟩ := hrel
               clear HT0 HM4 BI4 HR4 c0 c1 zb
               by_cases htl : t < p.wide.length
               · have r0 := hr2.out.bcell htl
                 have zr := hr2.out.lt
                 have e0 := hi2.out.cell 0
                 have e1 := hi2.out.cell 1
                 have e2 := hi2.out.cell 2
                 have zi := hi2.out.lt
                 have ht0 : (0 : Int) ≤ (t : Int) := Int.natCast_nonneg _
                 have ht1 : (t : Int) < (p.wide.length : Int) := by omega
                 simp only [List.getElem?_toArray, List.getElem?_cons_succ, List.getElem?_cons_zero] at e0 e1 e2
                 have HN2 := Lib.hid (HNT.out t f2 hnt.out)
                 have HY2 := Lib.hid (HYES.out t dn f2 hnt.out HG.out rfl)
                 cases hb : behindM p.code (needB p.code) k t with
                 | false =>
                   have HX := Lib.hid (HN2.out (fun h => by rw [hb] at h; cases h.1))
                   rw [hb] at r0
                   clear hb HN2 HY2
                   go_wp2
                   go_roundw
                   case rel => exact ⟨t + 1, f2, by omega, by go_num, HX, hm2, hi2, hr2⟩
                   case measure => simp [intOf]; omega
                 | true =>
                   by_cases hoa : op = 2 ∧ a = (t : Int)
                   · have HX := Lib.hid (HN2.out (fun h => h.2 hoa))
                     obtain ⟨eo, ea⟩ := hoa
                     have eo' : (op != 2) = false := by simpa using eo
                     have ea' : ((t : Int) != a) = false := by simpa using ea.symm
                     rw [hb] at r0
                     clear hb HN2 HY2 eo ea
                     go_wp2
                     go_roundw
                     case rel => exact ⟨t + 1, f2, by omega, by go_num, HX, hm2, hi2, hr2⟩
                     case measure => simp [intOf]; omega
                   · have HX := Lib.hid (HY2.out hb hoa)
                     have HC := Lib.hid (near1_any _ _ _ _ dn t f2 _ hm2.out.nr (by omega) htl (by omega))
                     rw [hb] at r0
                     have hcs : (op != 2) = true ∨ ((op != 2) = false ∧ ((t : Int) != a) = true) := by
                       by_cases eo : op = 2
                       · exact Or.inr ⟨by simpa using eo, by simpa using fun h => hoa ⟨eo, h.symm⟩⟩
                       · exact Or.inl (by simpa using eo)
                     clear hb HN2 HY2 hoa
                     rcases hcs with eo | ⟨eo, ea⟩
                     all_goals
                       go_wp2_with fail
                       refine HC.out.mono ?_
                       rintro e w5 ⟨rfl, hn5, hk5⟩
                       have HM5 := Lib.hid (hm2.out.put hn5 hk5)
                       have HI5 := Lib.hid (hi2.out.kept hk5 (by omega))
                       have HR5 := Lib.hid (hr2.out.kept hk5 (by omega))
                       go_wp2
                     · go_roundw
                       case rel => exact ⟨t + 1, _, by omega, by go_num, HX, HM5, HI5, HR5⟩
                       case measure => simp [intOf]; omega
                     · go_roundw
                       case rel => exact ⟨t + 1, _, by omega, by go_num, HX, HM5, HI5, HR5⟩
                       case measure => simp [intOf]; omega
               · obtain rfl : t = p.wide.length := by omega
                 have HX := Lib.hid hnt.out.toK
                 go_wp2
                 go_roundw
                 case rel => exact ⟨k + 1, f2, by omega, by go_num, HX, hm2⟩
                 case measure => simp [intOf]; omega
         · obtain rfl : k = p.code.length := by omega
           have HA0 := Lib.hid hnk.out.toA
           obtain ⟨bg, og, cg, u, hv, hR0, hl0, hcell, hbo⟩ := hm.out.nd.row (k := 0) (row := (List.range p.wide.length).map (needB p.code 0)) (matL_at (M := needB p.code) (by omega))
           obtain ⟨A0, cz, ru, _, hrz⟩ := hbo
           simp only [Value.slice.injEq, Option.some.injEq, Addr.mk.injEq, and_true] at hv
           obtain ⟨⟨hv1, hv2⟩, hv3⟩ := hv
           clear hv3
           subst hv1; subst hv2
           rw [show ((List.range p.wide.length).map (needB p.code 0)).length = p.wide.length by simp] at ru hrz
           obtain ⟨bb, ob, rfl, hRb, hcb⟩ := hrz.2 (by omega)
           subst ru
           have hcb' : ∀ j, j < p.wide.length → wr.cell? ⟨bb, ob + j, none⟩ = some (.bool (needB p.code 0 j)) := fun j hj => hcb j _ (by simp [List.getElem?_range hj])
           have HR0 := Lib.hid (show Row0 wr gl w1.heap.size bb ob p.wide.length cz (needB p.code 0) from ⟨hcell, hcb', hR0.2, hRb.2, hl0, cell_lt (hcb' 0 (by omega))⟩)
           clear hcell hcb hcb' hrz hR0 hRb hl0
           have g0' := HR0.out.ptr
           have zg := HR0.out.h1
           obtain ⟨wq, rfl⟩ : ∃ wq : World, wq = wr := ⟨_, rfl⟩
           go_wp2
           go_loopw [87] (fun i wr => ∃ (x : Nat) (f : Nat → Nat → Bool), x ≤ p.wide.length ∧ i = .int .i64 x ∧ Hid (NearA p.code (needB p.code) p.wide.length x 0 f) ∧ Hid (NoMem w wr (.slice A p.wide.length c) (.slice A' p.code.length c') w1.heap.size p.wide.length gl p f) ∧ Hid (Row0 wr gl w1.heap.size bb ob p.wide.length cz (needB p.code 0))) (fun i _ => p.wide.length - (intOf i).toNat)
           case atStart => exact ⟨0, f, Nat.zero_le _, rfl, HA0, hm, HR0⟩
           case round =>
             obtain ⟨x, f2, hx, rfl, hna, hm2, hr0⟩ := hrel
             clear HA0 HR0 g0' zg c0 c1 zb
             have g0' := hr0.out.ptr
             have zg := hr0.out.h1
             have zb := hr0.out.h2
             by_cases hxl : x < p.wide.length
             · have x0 := hr0.out.cell x hxl
               have hx0 : (0 : Int) ≤ (x : Int) := Int.natCast_nonneg _
               have hx1 : (x : Int) < (p.wide.length : Int) := by omega
               obtain ⟨wq2, rfl⟩ : ∃ wq2 : World, wq2 = wr := ⟨_, rfl⟩
               go_wp2
               go_loopw [96] (fun i wr => ∃ (y : Nat) (f : Nat → Nat → Bool), y ≤ p.wide.length ∧ i = .int .i64 y ∧ Hid (NearA p.code (needB p.code) p.wide.length x y f) ∧ Hid (NoMem w wr (.slice A p.wide.length c) (.slice A' p.code.length c') w1.heap.size p.wide.length gl p f) ∧ Hid (Row0 wr gl w1.heap.size bb ob p.wide.length cz (needB p.code 0))) (fun i _ => p.wide.length - (intOf i).toNat)
               case atStart => exact ⟨0, f2, Nat.zero_le _, rfl, hna, hm2, hr0⟩
               case round =>
                 obtain ⟨y, f3, hy, rfl, hna2, hm3, hr3⟩ := hrel
                 clear x0 g0' zg zb
                 have zb := hr3.out.h2
                 by_cases hyl : y < p.wide.length
                 · have y0 := hr3.out.cell y hyl
                   have hy0 : (0 : Int) ≤ (y : Int) := Int.natCast_nonneg _
                   have hy1 : (y : Int) < (p.wide.length : Int) := by omega
                   cases hbx : needB p.code 0 x with
                   | false =>
                     have HX := Lib.hid (hna2.out.no (fun h => by rw [hbx] at h; cases h.1))
                     clear hbx
                     go_wp2
                     go_roundw
                     case rel => exact ⟨y + 1, f3, by omega, by go_num, HX, hm3, hr3⟩
                     case measure => simp [intOf]; omega
                   | true =>
                     cases hby : needB p.code 0 y with
                     | false =>
                       have HX := Lib.hid (hna2.out.no (fun h => by rw [hby] at h; cases h.2))
                       rw [hby] at y0
                       clear hbx hby
                       go_wp2
                       go_roundw
                       case rel => exact ⟨y + 1, f3, by omega, by go_num, HX, hm3, hr3⟩
                       case measure => simp [intOf]; omega
                     | true =>
                       have HX := Lib.hid (hna2.out.yes hbx hby)
                       have HC := Lib.hid (near1_any _ _ _ _ x y f3 _ hm3.out.nr hxl hyl (by omega))
                       rw [hby] at y0
                       clear hbx hby
                       go_wp2_with fail
                       refine HC.out.mono ?_
                       rintro e w5 ⟨rfl, hn5, hk5⟩
                       have HM5 := Lib.hid (hm3.out.put hn5 hk5)
                       have HR5 := Lib.hid (hr3.out.keep hk5 (fun k hk => by omega))
                       go_wp2
                       go_roundw
                       case rel => exact ⟨y + 1, _, by omega, by go_num, HX, HM5, HR5⟩
                       case measure => simp [intOf]; omega
                 · obtain rfl : y = p.wide.length := by omega
                   have HX := Lib.hid hna2.out.next
                   go_wp2
                   go_roundw
                   case rel => exact ⟨x + 1, f3, by omega, by go_num, HX, hm3, hr3⟩
                   case measure => simp [intOf]; omega
             · obtain rfl : x = p.wide.length := by omega
               have HE := Lib.hid (nearM_eq (p := p) (f := f2) (fun a b ha hb => hna.out.all ha hb))
               have HQ := Lib.hid (hm2.out.nr.rdm (R := fun b => w.heap.size < b) hm2.out.o1 (fun k => by have := hm2.out.o1; omega) (by omega))
               rw [HE.out] at HQ
               have n0 := hm2.out.nr.nb.cell 0
               have zn := hm2.out.nr.nb.lt
               simp only [List.getElem?_toArray, List.getElem?_cons_succ, List.getElem?_cons_zero] at n0
               go_wp2
               go_ret2
               exact ⟨hm2.out.fr, Or.inr ⟨HMay.out, _, rfl, HQ.out⟩⟩
end Go.Proofs.YtodmkjeankbieaaGreatDoor


namespace Go.Proofs.YtodmkjeankbieaaGreatDoor
open Go.RowKit Go.Sort Go.Shelf

def sortRen : Ren := ⟨fun n => if n = 20 then 98 else n, fun n => if n = 0 then 0 else if n = 3 then 3 else if n = 4 then 4 else if n = 22 then 119 else if n = 24 then 3 else if n = 25 then 130 else n, fun n => n⟩

theorem sortLays : SlLaysF.n20 Tryz.prog sortRen where
 mixed := by kernel_rfl
 f20 := ⟨Tryz.f98.name, by decide, by kernel_rfl⟩
 t0 := Tryz.underlying0
 a0 := Tryz.isAgg0
 z0 := Tryz.sizeOf0
 v0 := Tryz.zeroValue0
 t3 := Tryz.underlying3
 a3 := Tryz.isAgg3
 z3 := Tryz.sizeOf3
 v3 := Tryz.zeroValue3
 t4 := Tryz.underlying4
 a4 := Tryz.isAgg4
 z4 := Tryz.sizeOf4
 v4 := Tryz.zeroValue4
 t22 := Tryz.underlying119
 a22 := Tryz.isAgg119
 z22 := Tryz.sizeOf119
 v22 := Tryz.zeroValue119
 a24 := Tryz.isAgg3
 z24 := Tryz.sizeOf3
 t25 := Tryz.underlying130
 a25 := Tryz.isAgg130
 z25 := Tryz.sizeOf130
 v25 := Tryz.zeroValue130
end Go.Proofs.YtodmkjeankbieaaGreatDoor


namespace Go.Proofs.YtodmkjeankbieaaGreatDoor
open Go.RowKit Go.Sort Go.Shelf

def manyTo (row : List Bool) (k : Nat) : Nat := ((row.take k).filter id).length
theorem manyTo_s {row : List Bool} {k : Nat} {x : Bool} (h : row[k]? = some x) : manyTo row (k + 1) = manyTo row k + (if x then 1 else 0) := by
 unfold manyTo
 rw [List.take_add_one, h, List.filter_append, List.length_append]
 cases x <;> simp
theorem manyTo_le (row : List Bool) (k : Nat) : manyTo row k ≤ k := by
 unfold manyTo
 exact Nat.le_trans (List.length_filter_le _ _) (by rw [List.length_take]; omega)
def manyL (row : List Bool) : Nat := manyTo row row.length

set_option maxHeartbeats 1000000 in
theorem many_any (R : Nat → Prop) (bn : Nat) (v : Value) (M : List (List Bool)) (t : Nat) (row : List Bool) (w : World) (hb : Blk w bn 39 #[v]) (h : RdM w R v M) (ht : M[t]? = some row) (hr : row.length ≤ 100) :
   Calls Tryz.prog 56 #[.int .i64 (t : Int), .pointer (some ⟨bn, 0, none⟩)] w fun e w' => e = .returned (.int .i64 (manyL row : Int)) ∧ w' = w := by
 obtain ⟨b, off, c, u, rfl, _, hbl, c0, hrow⟩ := h.row ht
 have htl : t < M.length := (List.getElem?_eq_some_iff.1 ht).1
 have x0 := hb.cell 0
 have zb := hb.lt
 simp only [List.getElem?_toArray, List.getElem?_cons_zero] at x0
 have t0 : (0 : Int) ≤ (t : Int) := Int.natCast_nonneg _
 have t1 : (t : Int) < (M.length : Int) := by omega
 generalize M.length = ML at *
 have HROW := Lib.hid hrow
 obtain ⟨A, c2, rfl, _⟩ := hrow.val
 clear hrow h ht
 go_enter Tryz.func56, Tryz.ntmps56
 go_wp2
 go_loop [4, 12] (fun n i => ∃ k : Nat, k ≤ row.length ∧ i = .int .i64 k ∧ n = .int .i64 (manyTo row k : Int)) (fun _ i => row.length - (intOf i).toNat)
 case atStart => exact ⟨0, Nat.zero_le _, rfl, rfl⟩
 case round =>
   obtain ⟨k, hk, rfl, rfl⟩ := hrel
   by_cases hlt : k < row.length
   · obtain ⟨x, hx⟩ : ∃ x, row[k]? = some x := ⟨_, List.getElem?_eq_getElem hlt⟩
     obtain ⟨b3, o3, c3, e3, _, hb3, d0⟩ := HROW.out.at_ hx
     obtain ⟨rfl, _, rfl⟩ : A = some ⟨b3, o3, none⟩ ∧ True ∧ c2 = c3 := by simpa using e3
     have hs := manyTo_s hx
     have hml := manyTo_le row k
     have hk0 : (0 : Int) ≤ (k : Int) := Int.natCast_nonneg _
     have hk1 : (k : Int) < (row.length : Int) := by omega
     clear e3 hx
     generalize manyTo row k = m at *
     cases x
     · go_wp2
       go_round
       case rel => exact ⟨k + 1, by omega, by go_num, by rw [hs]; rfl⟩
       case measure => simp [intOf]; omega
     · go_wp2
       go_round
       case rel => exact ⟨k + 1, by omega, by go_num, by rw [hs]; go_num⟩
       case measure => simp [intOf]; omega
   · obtain rfl : k = row.length := by omega
     go_wp2
     go_ret
     exact ⟨rfl, rfl⟩

theorem more_any (R : Nat → Prop) (bm bn : Nat) (v : Value) (M : List (List Bool)) (a b : Nat) (ra rb : List Bool) (w : World) (hm : Blk w bm 128 #[.func (.func 56) #[] #[.pointer (some ⟨bn, 0, none⟩)]]) (hb : Blk w bn 39 #[v]) (h : RdM w R v M)
   (ha : M[a]? = some ra) (hbb : M[b]? = some rb) (h1 : ra.length ≤ 100) (h2 : rb.length ≤ 100) :
   Calls Tryz.prog 58 #[.int .i64 (a : Int), .int .i64 (b : Int), .pointer (some ⟨bm, 0, none⟩)] w fun e w' => e = .returned (.int .i64 ((manyL rb : Int) - (manyL ra : Int))) ∧ ∃ q, w' = w.drewN q := by
 have A1 := manyTo_le ra ra.length
 have A2 := manyTo_le rb rb.length
 have k1 : ∀ n, Calls Tryz.prog 56 #[.int .i64 (a : Int), .pointer (some ⟨bn, 0, none⟩)] (w.drewN n) fun e w' => e = .returned (.int .i64 (manyL ra : Int)) ∧ w' = w.drewN n := fun n => many_any R bn v M a ra _ (hb.kept ((Kept.refl (fun _ => False) w).drewN n) (fun h => h)) (h.kept ((Kept.refl (fun _ => False) w).drewN n) (fun _ _ h => h)) ha h1
 have k2 : ∀ n, Calls Tryz.prog 56 #[.int .i64 (b : Int), .pointer (some ⟨bn, 0, none⟩)] (w.drewN n) fun e w' => e = .returned (.int .i64 (manyL rb : Int)) ∧ w' = w.drewN n := fun n => many_any R bn v M b rb _ (hb.kept ((Kept.refl (fun _ => False) w).drewN n) (fun h => h)) (h.kept ((Kept.refl (fun _ => False) w).drewN n) (fun _ _ h => h)) hbb h2
 have x0 := hm.cell 0
 simp only [List.getElem?_toArray, List.getElem?_cons_zero] at x0
 have zb := hm.lt
 clear hm hb h ha hbb
 change manyL ra ≤ _ at A1
 change manyL rb ≤ _ at A2
 generalize manyL ra = ma at *
 generalize manyL rb = mb at *
 go_enter Tryz.func58, Tryz.ntmps58
 go_wp2_with fail
 refine wp_region_quiet_lit (by kernel_rfl) (by kernel_rfl) ?_
 quiet_step (fail)
 quiet_step (fail)
 quiet_step (refine Calls.quiet_of_same (k2 _))
 quiet_step (fail)
 quiet_step (fail)
 quiet_step (refine Calls.quiet_of_same (k1 _))
 repeat (quiet_step (fail))
 refine wpQuiet_nil ?_
 intro _ hw'
 obtain ⟨nq, hw''⟩ := hw'
 subst hw''
 go_wp2
 go_ret
 refine ⟨ret_i ?_, nq, rfl⟩
 simp [IntKind.wrap, IntKind.bits, IntKind.signed]; omega
end Go.Proofs.YtodmkjeankbieaaGreatDoor


namespace Go.Proofs.YtodmkjeankbieaaGreatDoor
open Go.RowKit Go.Sort Go.Shelf

theorem kept_sortWorld {α : Type} [Inhabited α] (enc : α → Value) (w : World) (blk off m : Nat) (dk : Array α) (os : Array Obj) : Kept (fun k => k = blk) w (sortWorld enc w blk off m dk os) := by
 refine ⟨rfl, rfl, rfl, ?_, fun i hi hne => ?_⟩
 · simp [sortWorld, grow, putRow, mapBlock, Sort.ahead]
 · simp only [sortWorld, grow, putRow, mapBlock, Sort.ahead, Array.getElem?_append, Array.size_modify, Array.getElem?_modify]
   rw [if_pos hi, if_neg (fun e => hne e.symm)]
theorem kept_putRow {α : Type} [Inhabited α] (enc : α → Value) (w : World) (blk off : Nat) (dk : Array α) : Kept (fun k => k = blk) w (putRow enc w blk off dk) := by
 refine ⟨rfl, rfl, rfl, ?_, fun i hi hne => ?_⟩
 · simp [putRow, mapBlock]
 · simp only [putRow, mapBlock, Array.getElem?_modify]
   rw [if_neg (fun e => hne e.symm)]

def encF {n : Nat} (i : Fin n) : Value := .int .i64 ((i.val : Nat) : Int)
def cfM (M : List (List Bool)) {n : Nat} (x y : Fin n) : Int := (manyL (M.getD y.val []) : Int) - (manyL (M.getD x.val []) : Int)

set_option maxHeartbeats 1000000 in
set_option maxRecDepth 100000 in
theorem sortStable_any (R : Nat → Prop) (bm bn blk cap W0 : Nat) (v : Value) (M : List (List Bool)) (d : Array (Fin (W0 + 1))) (w : World) (hm : Blk w bm 128 #[.func (.func 56) #[] #[.pointer (some ⟨bn, 0, none⟩)]]) (hb : Blk w bn 39 #[v]) (h : RdM w R v M)
   (hM : M.length = W0 + 1) (hrow : ∀ r ∈ M, r.length ≤ 100) (hR : ¬ R blk) (h1 : bm ≠ blk) (h2 : bn ≠ blk) (hH : Go.Sort.Holds encF w blk 0 d) (hsz : d.size ≤ 12) :
   Calls Tryz.prog 57 #[.slice (some ⟨blk, 0, none⟩) d.size cap, .func (.func 58) #[] #[.pointer (some ⟨bm, 0, none⟩)]] w fun e w' => e = .returned (.tuple #[]) ∧ ∃ n, w' = (putRow encF w blk 0 (Sort.insertionSort (ltOf (cfM M)) d 0 d.size)).drewN n := by
 have hcmp : CmpReads Tryz.prog 58 #[.pointer (some ⟨bm, 0, none⟩)] (encF (n := W0 + 1)) (cfM M) blk 0 d.size w := by
   intro m os dk hdk x y
   have hk := kept_sortWorld (encF (n := W0 + 1)) w blk 0 m dk os
   have hx : M[x.val]? = some (M.getD x.val []) := by
     have := x.isLt
     rw [List.getD_eq_getElem?_getD, List.getElem?_eq_getElem (by omega)]; rfl
   have hy : M[y.val]? = some (M.getD y.val []) := by
     have := y.isLt
     rw [List.getD_eq_getElem?_getD, List.getElem?_eq_getElem (by omega)]; rfl
   exact more_any R bm bn v M x.val y.val _ _ _ (hm.kept hk h1) (hb.kept hk h2) (h.kept hk (fun b hb e => hR (e ▸ hb))) hx hy (hrow _ (List.mem_of_getElem? hx)) (hrow _ (List.mem_of_getElem? hy))
 have HI := Lib.hid (Any.insertionSortCmpFunc_one sortLays (encF (n := W0 + 1)) (fun _ => rfl) (cfM M) 58 #[.pointer (some ⟨bm, 0, none⟩)] blk 0 cap 0 d.size d w (fun args w => by kernel_rfl) hcmp hH (Nat.zero_le _) (Nat.le_refl _) (by omega))
 have hrn : sortRen.f 20 = 98 := rfl
 rw [hrn] at HI
 have HS : Hid (Calls Tryz.prog 79 #[.slice (some ⟨blk, 0, none⟩) d.size cap, .int .i64 (d.size : Int), .func (.func 58) #[] #[.pointer (some ⟨bm, 0, none⟩)]] w fun e w' => e = .returned (.tuple #[]) ∧ ∃ n, w' = (putRow encF w blk 0 (Sort.insertionSort (ltOf (cfM M)) d 0 d.size)).drewN n) := by
   show Calls _ _ _ _ _
   generalize (Sort.insertionSort (ltOf (cfM M)) d 0 d.size) = d' at *
   generalize hn : d.size = n at *
   clear hn hH hcmp h hm hb hM hrow
   have hn0 : ¬ (20 : Int) ≤ (n : Int) := by omega
   have hn1 : ¬ (20 : Int) < (n : Int) := by omega
   go_enter Tryz.func79, Tryz.ntmps79
   go_wp2
   go_loop [7, 8] (fun a b => a = .int .i64 0 ∧ b = .int .i64 20) (fun _ _ => 0)
   case atStart => exact ⟨rfl, rfl⟩
   case round =>
     obtain ⟨rfl, rfl⟩ := hrel
     go_wp2_with fail
     refine HI.out.mono ?_
     rintro e w2 ⟨rfl, q, rfl⟩
     go_wp2
     go_loop [6, 7, 8] (fun a b c => a = .int .i64 20) (fun _ _ _ => 0)
     case atStart => exact rfl
     case round =>
       subst hrel
       go_wp2
       go_end0
       exact ⟨rfl, q, rfl⟩
 clear HI hcmp hm hb h hH
 generalize (Sort.insertionSort (ltOf (cfM M)) d 0 d.size) = d' at *
 generalize hn : d.size = n at *
 clear hn
 go_enter Tryz.func57, Tryz.ntmps57
 go_wp2_with fail
 refine HS.out.mono ?_
 rintro e w2 ⟨rfl, q, rfl⟩
 go_wp2
 go_end0
 exact ⟨rfl, q, rfl⟩
end Go.Proofs.YtodmkjeankbieaaGreatDoor


namespace Go.Proofs.YtodmkjeankbieaaGreatDoor
open Go.RowKit

def ov (k1 n1 k2 n2 : Int) : Bool :=
 if k1 = 2 ∧ k2 = 1 then n2 / 2 == n1 else if k1 = 1 ∧ k2 = 2 then n1 / 2 == n2 else decide (k1 = k2 ∧ n1 = n2)

theorem below2 {w : World} (o1 o2 : Obj) : Below w.heap.size w ((w.alloc o1).alloc o2) :=
 ((Below.refl _ _).alloc (Nat.le_refl _) _).alloc (by simp) _
set_option maxHeartbeats 400000 in
theorem overlap_any (k1 n1 k2 n2 : Int) (w : World) :
   Calls Tryz.prog 59 #[.agg #[.int .i64 k1, .int .i64 n1], .agg #[.int .i64 k2, .int .i64 n2]] w fun e w' => e = .returned (.bool (ov k1 n1 k2 n2)) ∧ Below w.heap.size w w' := by
 by_cases h1 : k1 = 2 ∧ k2 = 1
 · obtain ⟨rfl, rfl⟩ := h1
   go_enter Tryz.func59, Tryz.ntmps59
   go_wp2
   go_ret
   refine ⟨rfl, ?_⟩
   repeat (first | exact Below.refl _ _ | exact below2 _ _ | refine Below.setCell ?_ (by simp) _ | refine Below.alloc ?_ (by simp) _)
 · by_cases h2 : k1 = 1 ∧ k2 = 2
   · obtain ⟨rfl, rfl⟩ := h2
     go_enter Tryz.func59, Tryz.ntmps59
     go_wp2
     go_ret
     exact ⟨rfl, below2 _ _⟩
   · by_cases h3 : k1 = k2 ∧ n1 = n2
     · obtain ⟨rfl, rfl⟩ := h3
       have hn : ov k1 n1 k1 n1 = true := by unfold ov; rw [if_neg h1, if_neg h2]; simp
       clear h1 h2
       rw [hn]
       clear hn
       go_enter Tryz.func59, Tryz.ntmps59
       go_wp2
       all_goals go_ret
       all_goals exact ⟨rfl, below2 _ _⟩
     · have hn : ov k1 n1 k2 n2 = false := by unfold ov; rw [if_neg h1, if_neg h2]; exact decide_eq_false h3
       rw [hn]
       have g1 : ¬ (k1 = 2 ∧ k2 = 1) := h1
       have g2 : ¬ (k1 = 1 ∧ k2 = 2) := h2
       clear hn h1 h2
       by_cases e1 : k1 = 2 <;> by_cases e2 : k1 = 1 <;> by_cases e3 : k2 = 1 <;> by_cases e4 : k2 = 2
       all_goals first | (exfalso; omega) | skip
       all_goals
         clear g1 g2
         go_enter Tryz.func59, Tryz.ntmps59
         go_wp2
       all_goals go_ret
       all_goals exact ⟨rfl, below2 _ _⟩
end Go.Proofs.YtodmkjeankbieaaGreatDoor


namespace Go.Proofs.YtodmkjeankbieaaGreatDoor
open Go.RowKit Go.Sort Go.Shelf

theorem swoM (M : List (List Bool)) (n : Nat) : SWO (ltOf (cfM M (n := n))) := by
 constructor
 · intro x; unfold ltOf cfM; simp
 · intro x y z h1 h2
   unfold ltOf cfM at *
   simp only [decide_eq_true_eq] at *
   omega
 · intro x y z h1 h2
   unfold ltOf cfM at *
   simp only [decide_eq_false_iff_not] at *
   omega
def ordA (M : List (List Bool)) (W0 : Nat) : Array (Fin (W0 + 1)) := Sort.insertionSort (ltOf (cfM M)) (Array.ofFn fun i => i) 0 (W0 + 1)
theorem ordA_size (M : List (List Bool)) (W0 : Nat) : (ordA M W0).size = W0 + 1 := by
 have := (insertionSort_holds (lt := ltOf (cfM M (n := W0 + 1))) (swoM M _) (Array.ofFn fun i => i) 0 (W0 + 1) (Nat.zero_le _) (by simp)).1.1
 simpa [ordA] using this
noncomputable def ordL (p : Pg) : List Nat := (ordA (nearM p) (p.wide.length - 1)).toList.map (·.val)
theorem ordL_len {p : Pg} (h : 1 ≤ p.wide.length) : (ordL p).length = p.wide.length := by
 unfold ordL; rw [List.length_map, Array.length_toList, ordA_size]; omega
theorem ordL_lt {p : Pg} (h : 1 ≤ p.wide.length) {t : Nat} (ht : t ∈ ordL p) : t < p.wide.length := by
 unfold ordL at ht
 obtain ⟨x, _, rfl⟩ := List.mem_map.1 ht
 have := x.isLt; omega

def roomOf (p : Pg) (sg t : Nat) : Nat := if wd p.wide (t : Int) then sg / 2 else sg
def regK (p : Pg) (t k : Nat) : PlaceV := ⟨if wd p.wide (t : Int) then 2 else 1, (k : Int)⟩
def NoneTo (p : Pg) (o : Nat → PlaceV) (t k : Nat) : Prop := ∀ j, j < k → freeTo p o t (regK p t j) p.wide.length = false
open Classical in
noncomputable def stepC (p : Pg) (sg : Nat) (o : Nat → PlaceV) (t : Nat) : Nat → PlaceV :=
 match (List.range (roomOf p sg t)).find? (fun k => freeTo p o t (regK p t k) p.wide.length) with
 | some k => updP o t (regK p t k)
 | none => o
theorem find_range {f : Nat → Bool} : ∀ {n k : Nat}, k < n → f k = true → (∀ j, j < k → f j = false) → (List.range n).find? f = some k
 | 0, _, h, _, _ => by omega
 | n + 1, k, h, h1, h2 => by
   rw [List.range_succ, List.find?_append]
   by_cases e : k = n
   · subst e
     have : (List.range k).find? f = none := by
       rw [List.find?_eq_none]
       intro x hx
       rw [h2 x (List.mem_range.1 hx)]; simp
     rw [this]; simp [h1]
   · rw [find_range (by omega) h1 h2]; rfl
theorem stepC_some {p : Pg} {sg : Nat} {o : Nat → PlaceV} {t k : Nat} (h : NoneTo p o t k) (hk : k < roomOf p sg t) (hf : freeTo p o t (regK p t k) p.wide.length = true) : stepC p sg o t = updP o t (regK p t k) := by
 unfold stepC
 rw [find_range hk hf h]
theorem stepC_none {p : Pg} {sg : Nat} {o : Nat → PlaceV} {t : Nat} (h : NoneTo p o t (roomOf p sg t)) : stepC p sg o t = o := by
 unfold stepC
 have : (List.range (roomOf p sg t)).find? (fun k => freeTo p o t (regK p t k) p.wide.length) = none := by
   rw [List.find?_eq_none]
   intro x hx
   rw [h x (List.mem_range.1 hx)]; simp
 rw [this]
noncomputable def colF (p : Pg) (sg : Nat) : Nat → PlaceV := (ordL p).foldl (stepC p sg) (fun _ => ⟨0, 0⟩)
theorem regK_reg {p : Pg} {sg t k : Nat} (h : k < roomOf p sg t) : IsReg p (sg : Int) 0 (t : Int) (regK p t k) := by
 unfold IsReg regK isB
 unfold roomOf at h
 cases hw : wd p.wide (t : Int) with
 | true => rw [hw] at h; simp at h ⊢; omega
 | false => rw [hw] at h; simp at h ⊢; omega
theorem stepC_ok {p : Pg} {sg : Nat} {o : Nat → PlaceV} (h : ColAt p (sg : Int) o) (t : Nat) : ColAt p (sg : Int) (stepC p sg o t) := by
 unfold stepC
 cases hf : (List.range (roomOf p sg t)).find? (fun k => freeTo p o t (regK p t k) p.wide.length) with
 | none => exact h
 | some k =>
   have h1 := List.find?_some hf
   have h2 := List.mem_range.1 (List.mem_of_find?_eq_some hf)
   exact h.put (regK_reg h2) h1
theorem fold_ok {p : Pg} {sg : Nat} : ∀ (l : List Nat) {o : Nat → PlaceV}, ColAt p (sg : Int) o → ColAt p (sg : Int) (l.foldl (stepC p sg) o)
 | [], _, h => h
 | t :: l, _, h => fold_ok l (stepC_ok h t)
theorem colF_ok (p : Pg) (sg : Nat) : ColAt p (sg : Int) (colF p sg) := fold_ok _ (ColAt.zero p _)

def mkP (n : Nat) (o : Nat → PlaceV) : Array Value := ((List.range n).flatMap fun t => (o t).cells).toArray
theorem mkP_get {n : Nat} {o : Nat → PlaceV} {t j : Nat} (ht : t < n) (hj : j < 2) : (mkP n o)[t * 2 + j]? = ((o t).cells)[j]? := by
 unfold mkP
 rw [List.getElem?_toArray]
 have := flat_get (fun t => (o t).cells) 2 (fun _ => rfl) (List.range n) t j t (List.getElem?_range ht) hj
 exact this
theorem mkP_at {n : Nat} {o : Nat → PlaceV} {t : Nat} (ht : t < n) : (mkP n o)[t * 2]? = some (.int .i64 (o t).k) ∧ (mkP n o)[t * 2 + 1]? = some (.int .i64 (o t).n) :=
 ⟨by have := mkP_get (o := o) ht (j := 0) (by omega); simpa [PlaceV.cells] using this, by have := mkP_get (o := o) ht (j := 1) (by omega); simpa [PlaceV.cells] using this⟩
theorem mkP_size (n : Nat) (o : Nat → PlaceV) : (mkP n o).size = n * 2 := by
 unfold mkP
 have := flat_len (fun t => (o t).cells) 2 (fun _ => rfl) (List.range n)
 simpa using this
theorem mkP_set {n : Nat} {o : Nat → PlaceV} {t : Nat} {a : PlaceV} : ((mkP n o).setIfInBounds (t * 2) (.int .i64 a.k)).setIfInBounds (t * 2 + 1) (.int .i64 a.n) = mkP n (updP o t a) := by
 apply Array.ext_getElem?
 intro i
 have hs := mkP_size n o
 have hs2 := mkP_size n (updP o t a)
 by_cases hi : i < n * 2
 · obtain ⟨s, j, hj, rfl⟩ : ∃ s j, j < 2 ∧ i = s * 2 + j := ⟨i / 2, i % 2, by omega, by omega⟩
   have hsn : s < n := by omega
   rw [mkP_get hsn hj]
   simp only [Array.getElem?_setIfInBounds, Array.size_setIfInBounds]
   by_cases e : s = t
   · subst e
     have hj2 : j = 0 ∨ j = 1 := by omega
     rcases hj2 with rfl | rfl
     · rw [if_neg (by omega), if_pos (by omega), if_pos (by omega)]; simp [updP, PlaceV.cells]
     · rw [if_pos rfl, if_pos (by omega)]; simp [updP, PlaceV.cells]
   · rw [if_neg (by omega), if_neg (by omega), mkP_get hsn hj]; simp [updP, e]
 · rw [Array.getElem?_eq_none (by simp; omega), Array.getElem?_eq_none (by omega)]
theorem made_mkP (n : Nat) : madeCells #[.int .i64 0, .int .i64 0] (n * 2) = mkP n (fun _ => ⟨0, 0⟩) := by
 apply Array.ext_getElem?
 intro i
 have hm := mkP_size n (fun _ => ⟨0, 0⟩)
 by_cases hi : i < n * 2
 · obtain ⟨s, j, hj, rfl⟩ : ∃ s j, j < 2 ∧ i = s * 2 + j := ⟨i / 2, i % 2, by omega, by omega⟩
   rw [mkP_get (by omega) hj]
   have hj2 : j = 0 ∨ j = 1 := by omega
   unfold madeCells
   rw [Array.getElem?_map, Array.getElem?_eq_getElem (by simpa using hi), Array.getElem_range]
   rcases hj2 with rfl | rfl
   · have h2 : s * 2 % 2 = 0 := by omega
     simp [PlaceV.cells]
   · have h2 : (s * 2 + 1) % 2 = 1 := by omega
     simp [PlaceV.cells, h2]
 · have h1 : (mkP n (fun _ => ⟨0, 0⟩))[i]? = none := Array.getElem?_eq_none (by omega)
   rw [h1]
   unfold madeCells
   simp; omega
theorem infoPlaceC : (Tryz.prog.info? 99).map (fun i => (i.zero, i.size, i.bytes)) = some (some (.agg #[.int .i64 0, .int .i64 0]), 2, 16) := by kernel_rfl
theorem run_make_places (n : Nat) (h : n ≤ 1000000) (w : World) : (Instr.makeSlice 82 (.int .i64 (n : Int)) (.int .i64 (n : Int))).run Tryz.prog w = .ok (.slice (some ⟨w.heap.size, 0, none⟩) n n) (w.alloc (.cells (mkP n fun _ => ⟨0, 0⟩) 99)) := by
 obtain ⟨i, hi, hzz⟩ := Option.map_eq_some_iff.1 infoPlaceC
 simp only [Prod.mk.injEq] at hzz
 obtain ⟨hz, hs, hb⟩ := hzz
 have := run_makeSlice (P := Tryz.prog) w 82 99 i _ Tryz.underlying82 hi hz .i64 .i64 (n : Int) (n : Int) (by omega) (Int.le_refl _) (by rw [hs]; simp; omega) (by rw [hb]; omega) (by omega)
 rw [hs] at this
 simp only [Int.toNat_natCast, Value.cells] at this
 rw [this, made_mkP]
theorem Blk.pset {w : World} {g : Nat} {e : TypeId} {n : Nat} {o : Nat → PlaceV} (h : Blk w g e (mkP n o)) (t : Nat) (a : PlaceV) : Blk ((w.setCell ⟨g, t * 2, none⟩ (.int .i64 a.k)).setCell ⟨g, t * 2 + 1, none⟩ (.int .i64 a.n)) g e (mkP n (updP o t a)) := by
 have := (h.set_ (t * 2) (.int .i64 a.k)).set_ (t * 2 + 1) (.int .i64 a.n)
 rwa [mkP_set] at this
end Go.Proofs.YtodmkjeankbieaaGreatDoor

