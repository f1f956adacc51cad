/- The walk of the reference of chapter 7: Wrong. -/
import Derived.Test.YtodmkjeankbieabDone
import Derived.Test.YtodmkjeankbieabRefRun
import Derived.Test.YtodmkjeankbieabRefPlace3
namespace Go.Proofs.Ytodmkjeankbieab
open Go.RowKit Go.Sort

structure Q3 (w W : World) (c0 c1 c2 : Array Value) : Prop where
  b0 : Blk W w.heap.size 25 c0
  b1 : Blk W (w.heap.size + 1) 47 c1
  b2 : Blk W (w.heap.size + 2) 50 c2
  fr : Fr w W
theorem Q3.keep {w W W2 : World} {c0 c1 c2 : Array Value} (h : Q3 w W c0 c1 c2) (hk : Fr W W2) : Q3 w W2 c0 c1 c2 :=
  ⟨h.b0.kept hk (fun h => h), h.b1.kept hk (fun h => h), h.b2.kept hk (fun h => h), h.fr.trans hk⟩
theorem Q3.start (w : World) (c0 c1 c2 : Array Value) : Q3 w (((w.alloc (.cells c0 25)).alloc (.cells c1 47)).alloc (.cells c2 50)) c0 c1 c2 := by
  refine ⟨((Blk.new w _ _).alloc _).alloc _, ?_, ?_, (((Kept.refl _ w).alloc _).alloc _).alloc _⟩
  · have := (Blk.new (w.alloc (.cells c0 25)) 47 c1).alloc (.cells c2 50)
    simpa using this
  · have := Blk.new ((w.alloc (.cells c0 25)).alloc (.cells c1 47)) 50 c2
    simpa using this

set_option maxHeartbeats 2000000 in
set_option maxRecDepth 100000 in
theorem refWrong7_any (R R' : Nat → Prop) (v vl : Value) (p : Pg) (sg : Int) (l : Pd) (Ai : Option Addr) (n c : Nat) (steps : Int) (w : World) (h : RdPg w R v p) (hL : RdPd w R' vl l) (hn : n ≤ 9223372036854775807) :
    Calls Try.prog 25 #[v, tgV sg, vl, .slice Ai n c, .int .i64 steps] w fun e w' => e = .returned (.int .i64 (dWrong p sg l n steps)) ∧ Fr w w' := by
  have H := Lib.hid h
  have HL := Lib.hid hL
  obtain ⟨vw, vc, rfl, ⟨A1, c1, rfl, hl1, hr1⟩, ⟨A, c2, rfl, hl2, hr2, ho2⟩⟩ := h
  obtain ⟨vr, lv, rfl, hsl, ⟨Al, cl, rfl, hlr, hrr, hor⟩, hrows⟩ := hL
  clear hr1 hr2 ho2 hrr hor hrows hsl
  have HW := Lib.hid (fun w2 (hf : Fr w w2) => refWrong3_any R _ p Ai n c steps w2 (H.out.kept hf (fun _ _ h => h)) hn)
  have HMy := Lib.hid (fun w2 (hf : Fr w w2) => refPlaceMay_any R R' _ _ p sg l w2 (H.out.kept hf (fun _ _ h => h)) (HL.out.kept hf (fun _ _ h => h)))
  rw [← mayL_eq] at HMy
  have HQ := Lib.hid (Q3.start w #[.slice A1 p.wide.length c1, .slice A p.code.length c2] #[.int .i64 sg] #[.int .i64 l.slots, .slice Al lv.length cl])
  have HD : Hid (dWrong p sg l n steps = if mayL p sg l then wrongV p n steps else 2) := rfl
  unfold tgV at HMy ⊢
  go_enter Try.func25, Try.ntmps25
  go_wp2_with fail
  refine (HMy.out _ HQ.out.fr).mono ?_
  rintro e w2 ⟨rfl, f2⟩
  have HQ2 := Lib.hid (HQ.out.keep f2)
  clear HQ f2 HMy
  have q0 := HQ2.out.b0.cell 0
  have q1 := HQ2.out.b0.cell 1
  simp only [List.getElem?_toArray, List.getElem?_cons_succ, List.getElem?_cons_zero] at q0 q1
  have z0 := HQ2.out.b0.lt
  generalize mayL p sg l = m at *
  cases m with
  | false =>
    go_wp2
    go_ret
    exact ⟨ret_i HD.out.symm, HQ2.out.fr⟩
  | true =>
    go_wp2_with fail
    refine (HW.out _ HQ2.out.fr).mono ?_
    rintro e w3 ⟨rfl, f3⟩
    have HF := Lib.hid (HQ2.out.fr.trans f3)
    go_wp2
    go_ret
    exact ⟨ret_i HD.out.symm, HF.out⟩
end Go.Proofs.Ytodmkjeankbieab
