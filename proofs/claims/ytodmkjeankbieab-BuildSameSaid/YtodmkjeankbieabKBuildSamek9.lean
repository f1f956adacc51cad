/- Done: texts of this claim, packed into one file. -/
import Derived.Test.YtodmkjeankbieabKBuildSamek7
import Derived.Test.YtodmkjeankbieabKBuildSamek8
/- The walk of done.Run. -/
namespace Go.Proofs.Ytodmkjeankbieab
open Go.RowKit Go.Sort

theorem RdMv.old {w : World} {R : Nat → Prop} {v : Value} {l : List Mv} (h : RdMv w R v l) : RdMv w (fun b => b < w.heap.size) v l :=
  let ⟨A, c, e, hl, hr, ho⟩ := h
  ⟨A, c, e, hl, hr.old (by decide), ho⟩
theorem RwV.ok.old {w : World} {R : Nat → Prop} {x : RwV} (h : x.ok w R) : x.ok w (fun b => b < w.heap.size) := ⟨h.1, h.2.1, h.2.2.1, h.2.2.2.1.old, h.2.2.2.2.old⟩

/-- what is wrong with a run in places -/
def dWrong (p : Pg) (sg : Int) (l : Pd) (n : Nat) (steps : Int) : Int := if mayL p sg l then wrongV p n steps else 2
theorem dWrong_0 {p : Pg} {sg : Int} {l : Pd} {n : Nat} {steps : Int} (h : dWrong p sg l n steps = 0) : mayL p sg l = true ∧ wrongV p n steps = 0 := by
  unfold dWrong at h
  cases hm : mayL p sg l with
  | false => rw [hm] at h; simp at h
  | true => rw [hm] at h; exact ⟨rfl, h⟩

structure QD (w W : World) (c0 c1 c2 : Array Value) : Prop where
  b0 : Blk W w.heap.size 25 c0
  b1 : Blk W (w.heap.size + 1) 47 c1
  b2 : Blk W (w.heap.size + 2) 50 c2
  b3 : Blk W (w.heap.size + 3) 28 #[.int .i64 0, .slice none 0 0, .int .i64 0]
  fr : Fr w W
theorem QD.keep {w W W2 : World} {c0 c1 c2 : Array Value} (h : QD w W c0 c1 c2) (hk : Fr W W2) : QD w W2 c0 c1 c2 :=
  ⟨h.b0.kept hk (fun h => h), h.b1.kept hk (fun h => h), h.b2.kept hk (fun h => h), h.b3.kept hk (fun h => h), h.fr.trans hk⟩
theorem QD.start (w : World) (c0 c1 c2 : Array Value) : QD w ((((w.alloc (.cells c0 25)).alloc (.cells c1 47)).alloc (.cells c2 50)).alloc (.cells #[.int .i64 0, .slice none 0 0, .int .i64 0] 28)) c0 c1 c2 := by
  refine ⟨(((Blk.new w _ _).alloc _).alloc _).alloc _, ?_, ?_, ?_, ((((Kept.refl _ w).alloc _).alloc _).alloc _).alloc _⟩
  · have := ((Blk.new (w.alloc (.cells c0 25)) 47 c1).alloc (.cells c2 50)).alloc (.cells #[.int .i64 0, .slice none 0 0, .int .i64 0] 28)
    simpa using this
  · have := (Blk.new ((w.alloc (.cells c0 25)).alloc (.cells c1 47)) 50 c2).alloc (.cells #[.int .i64 0, .slice none 0 0, .int .i64 0] 28)
    simpa using this
  · have := Blk.new (((w.alloc (.cells c0 25)).alloc (.cells c1 47)).alloc (.cells c2 50)) 28 #[.int .i64 0, .slice none 0 0, .int .i64 0]
    simpa using this

def doneZ : Array Value := #[.int .u32 0, .int .u32 0, .int .u32 0, .int .u32 0, .int .u32 0, .int .u32 0, .int .u32 0, .int .u32 0, .int .u32 0, .int .u32 0, .int .u32 0, .int .u32 0, .int .u32 0, .int .u32 0, .int .u32 0, .int .u32 0,
  .int .u64 0, .int .u64 0, .int .u64 0, .int .u64 0, .int .u64 0, .int .u64 0, .int .u64 0, .int .u64 0, .int .u64 0, .int .u64 0, .int .u64 0, .int .u64 0]
theorem doneZ_st : doneZ = stC ⟨fun _ => 0, fun _ => 0⟩ := rfl
/-- the world with the four new variables -/
def doneW (w2 : World) (ins : Value) : World :=
  (((w2.alloc (.cells doneZ 104)).alloc (.cells #[.pointer (some ⟨w2.heap.size, 0, none⟩)] 101)).alloc
    (.cells #[.int .i64 0, .slice none 0 0, .int .i64 0, .int .i64 0, ins] 85)).alloc (.cells #[.pointer (some ⟨w2.heap.size + 2, 0, none⟩)] 83)

/-- what holds while the program runs -/
def DoneI (w0 : World) (br bp bl bv bm bs g : Nat) (p : Pg) (A1 : Option Addr) (c1 : Nat) (A : Option Addr) (c : Nat) (sl : Int) (Al : Option Addr) (cl : Nat) (lv : List RwV) (w : World) (x : Sh × Sto) : Prop :=
  (∃ vo, Mc w g w0.heap.size (unF x.1) vo) ∧ DClo w bp bl bv bm bs g w0.heap.size p A1 c1 A c sl Al cl lv x.2 ∧ StOk x.2 ∧ Fr w0 w ∧ Blk w br 28 #[.int .i64 0, .slice none 0 0, .int .i64 0]

theorem DoneI.step {w0 w : World} {br bp bl bv bm bs g n : Nat} {p : Pg} {A1 : Option Addr} {c1 : Nat} {A : Option Addr} {c : Nat} {sl : Int} {Al : Option Addr} {cl : Nat} {lv : List RwV} {sg : Int} {l : Pd} {ins : List Int} {x : Sh × Sto}
    (h : DoneI w0 br bp bl bv bm bs g p A1 c1 A c sl Al cl lv w x) (hg : w0.heap.size ≤ g) (hbs : w0.heap.size ≤ bs) (hm : mayL p sg l = true) (hrows : l.rows = lv.map (·.r)) (ho : ∀ m ∈ p.code, m.ok) (hi : ∀ n ∈ ins, 0 ≤ n ∧ n < 4294967296)
    (hn : n ≤ 100000) (hat : At p.code (mPlaces p l.rows) (sh0 ins, ⟨fun _ => 0, fun _ => 0⟩) n x) (h0 : x.1.state = 0) :
    Calls Try.prog 55 (#[.int .i64 (x.1.pc : Int)] ++ #[.pointer (some ⟨bp, 0, none⟩), .pointer (some ⟨bl, 0, none⟩), .pointer (some ⟨bv, 0, none⟩), .pointer (some ⟨bm, 0, none⟩)]) w fun e w' => e = .returned (.tuple #[]) ∧
      DoneI w0 br bp bl bv bm bs g p A1 c1 A c sl Al cl lv w' (mStep p.code (mPlaces p l.rows) x) := by
  obtain ⟨⟨vo, hM⟩, hC, hS, hF, hR⟩ := h
  obtain ⟨hmb, htg, hs0, hs1, hlen⟩ := mayL_facts hm
  obtain ⟨l1, l2, l3, l4⟩ := mayB_len hmb
  have hpc := hat.st0 h0
  have hin : ∀ y ∈ x.1.ins, 0 ≤ y ∧ y < 4294967296 := fun y hy => hi y (hat.ins y hy)
  have hout := hat.out rfl
  have hle := hat.le
  have hlv : lv.length = p.code.length := by rw [← hlen, hrows, List.length_map]
  have hy : lv[x.1.pc]? = some (lv[x.1.pc]'(by omega)) := List.getElem?_eq_getElem _
  have hyo := hC.ro _ (List.mem_of_getElem? hy)
  have hye : rwAt l.rows x.1.pc = (lv[x.1.pc]'(by omega)).r := by rw [rwAt_get (by omega)]; simp [hrows]
  generalize lv[x.1.pc]'(by omega) = y at *
  have hI := mayB_ins hmb (inAt_mem hpc)
  obtain ⟨_, _, _, hc0⟩ := ins_fields hI l1
  have hok := insOk hI
  have hrb := mayL_row hm hpc
  rw [hye] at hrb
  have h16 : sg ≤ 16 := by unfold tgB at htg; simp at htg; omega
  have hbn : ∀ m ∈ y.r.before, m.n < 4294967296 := fun m hm => by obtain ⟨_, _, _, ⟨_, _, _, _, _, ho⟩, _⟩ := hyo; exact (ho m hm).2.2
  have han : ∀ m ∈ y.r.after, m.n < 4294967296 := fun m hm => by obtain ⟨_, _, _, _, ⟨_, _, _, _, _, ho⟩⟩ := hyo; exact (ho m hm).2.2
  have hh := has_rw hrb hbn han h16 hs1
  have hS1 := hS.moves hh.bef
  have h5 := fun h => pair_lt hS1 hrb hok h
  have hn32 := (ho _ (inAt_mem hpc)).2.2.2.2.2
  refine (Done1_any bp bl bv bm bs g w0.heap.size p A1 c1 A c sl Al cl lv x.2 (unF x.1) vo w hC hS hM hg hbs hpc hlv l4 hok.kn hn32 hc0 y hy hh h5 (by show x.1.steps ≤ 100000; omega) (by show x.1.out.length ≤ 100000; omega) hin).mono ?_
  rintro e w' ⟨rfl, ⟨vo', hM'⟩, hC', hk⟩
  have e2 : (mStep p.code (mPlaces p l.rows) x).2 = movesS (if gvs (inAt p.code x.1.pc).op then putS (movesS x.2 y.r.before) y.r.d (giveV (inAt p.code x.1.pc) (getS (movesS x.2 y.r.before) y.r.a) (getS (movesS x.2 y.r.before) y.r.b) (x.1.ins.headD 0)) else movesS x.2 y.r.before) y.r.after := by
    rw [← hye]; rfl
  refine ⟨rfl, ⟨vo', ?_⟩, ?_, ?_, ?_, ?_⟩
  · have := raw_step (code := p.code) h0 (getS (movesS x.2 y.r.before) y.r.a)
    show Mc w' g w0.heap.size (unF (shStep p.code x.1 (getS (movesS x.2 (rwAt l.rows x.1.pc).before) (rwAt l.rows x.1.pc).a))) vo'
    rw [hye, ← this]
    exact hM'
  · rw [e2]; exact hC'
  · rw [e2]
    refine StOk.moves ?_ hh.aft
    split
    · rename_i hgv
      exact hS1.put _ (giveV_num hok.kn hgv (hS1.get _) (hS1.get _) h5 hn32 (head_num hin))
    · exact hS1
  · refine hF.then hk fun i hi hs => ?_
    rcases hs with e | e | e
    · omega
    · omega
    · have := (own_lt hM.ow e).1; omega
  · refine hR.kept hk ?_
    obtain ⟨_, _, hg, _⟩ := hM.ex
    rintro (e | e | e)
    · exact hR.ne_ hC.sb (by decide) e
    · exact hR.ne_ hg (by decide) e
    · exact own_blk_ne hM.ow hR (by decide) e

set_option maxHeartbeats 4000000 in
set_option maxRecDepth 100000 in
theorem done_any (R R' : Nat → Prop) (v vl : Value) (p : Pg) (sg : Int) (l : Pd) (Ai : Option Addr) (ins : List Int) (ci : Nat) (steps : Int) (w : World) (h : RdPg w R v p) (hL : RdPd w R' vl l) (hl : ins.length ≤ ci) (hc : ci ≤ maxLen) (hr : Reads w R 1 Ai ins.length (u32s ins)) (hi : ∀ n ∈ ins, 0 ≤ n ∧ n < 4294967296) :
    Calls Try.prog 24 #[v, tgV sg, vl, .slice Ai ins.length ci, .int .i64 steps] w (RunPost w (dWrong p sg l ins.length steps) (doneV p l.rows ins steps.toNat)) := by
  have H := Lib.hid h
  have HL := Lib.hid hL
  obtain ⟨vw, vc, rfl, ⟨A1, c1, rfl, hl1, hr1⟩, ⟨A, c, rfl, hl2, hr2, ho2⟩⟩ := h
  obtain ⟨vr, lv, rfl, hsl, ⟨Al, cl, rfl, hlr, hrr, hor⟩, hrows⟩ := hL
  have HC := Lib.hid (hr2.old (by decide))
  have HRL := Lib.hid (hrr.old (by decide))
  have HRO := Lib.hid (fun x hx => (hor x hx).old)
  have HROWS := Lib.hid hrows
  have HO := Lib.hid ho2
  have HINS := Lib.hid (hr.old (by decide))
  have HI := Lib.hid hi
  unfold maxLen at hl1 hl2 hc hlr
  clear hr1 hr2 ho2 hr hi hrr hor hrows hsl
  have HW := Lib.hid (fun w2 (hf : Fr w w2) => Wrong_any R _ p Ai ins.length ci steps w2 (H.out.kept hf (fun _ _ h => h)) (by omega))
  have HMy := Lib.hid (fun w2 (hf : Fr w w2) => placeMay_any R R' _ _ p sg l w2 (H.out.kept hf (fun _ _ h => h)) (HL.out.kept hf (fun _ _ h => h)))
  have HQ := Lib.hid (QD.start w #[.slice A1 p.wide.length c1, .slice A p.code.length c] #[.int .i64 sg] #[.int .i64 l.slots, .slice Al lv.length cl])
  unfold tgV at HMy ⊢
  go_enter Try.func24, Try.ntmps24
  go_wp2_with fail
  refine (HMy.out _ HQ.out.fr).mono ?_
  rintro e w2 ⟨rfl, f2⟩
  have HQ2 := Lib.hid (HQ.out.keep f2)
  clear HQ f2 HMy
  have q0 := HQ2.out.b0.cell 0
  have q1 := HQ2.out.b0.cell 1
  have x0 := HQ2.out.b3.cell 0
  have x1 := HQ2.out.b3.cell 1
  have x2 := HQ2.out.b3.cell 2
  have y0 := HQ2.out.b3.frozen 0
  have y1 := HQ2.out.b3.frozen 1
  have y2 := HQ2.out.b3.frozen 2
  simp only [List.getElem?_toArray, List.getElem?_cons_succ, List.getElem?_cons_zero] at q0 q1 x0 x1 x2
  have z0 := HQ2.out.b0.lt
  have z3 := HQ2.out.b3.lt
  cases hm : mayL p sg l with
  | false =>
    have hW : dWrong p sg l ins.length steps = 2 := by unfold dWrong; rw [hm]; rfl
    have HWE := Lib.hid hW
    clear hm hW
    go_wp2
    refine bodyPost_ret (v := .tuple #[.agg #[.int .i64 0, .slice none 0 0, .int .i64 0], .int .i64 2]) ?_ rfl ?_
    · simp [results, Try.results24, go_sem, x0, x1, x2]
    · show RunPost _ _ _ _ _
      rw [HWE.out]
      exact ⟨((HQ2.out.fr.setCell (fun e => by simp only at e; omega) _).setCell (fun e => by simp only at e; omega) _).setCell (fun e => by simp only at e; omega) _, Or.inl ⟨by decide, rfl⟩⟩
  | true =>
    have hWE : dWrong p sg l ins.length steps = wrongV p ins.length steps := by unfold dWrong; rw [hm]; rfl
    have HWE := Lib.hid hWE
    have HM := Lib.hid hm
    clear hm hWE
    go_wp2_with fail
    refine (HW.out _ HQ2.out.fr).mono ?_
    rintro e w3 ⟨rfl, f3⟩
    have HQ3 := Lib.hid (HQ2.out.keep f3)
    clear HQ2 f3 HW q0 q1 x0 x1 x2 y0 y1 y2 z0 z3
    have q0 := HQ3.out.b0.cell 0
    have q1 := HQ3.out.b0.cell 1
    have x0 := HQ3.out.b3.cell 0
    have x1 := HQ3.out.b3.cell 1
    have x2 := HQ3.out.b3.cell 2
    have y0 := HQ3.out.b3.frozen 0
    have y1 := HQ3.out.b3.frozen 1
    have y2 := HQ3.out.b3.frozen 2
    simp only [List.getElem?_toArray, List.getElem?_cons_succ, List.getElem?_cons_zero] at q0 q1 x0 x1 x2
    have z0 := HQ3.out.b0.lt
    have z3 := HQ3.out.b3.lt
    by_cases hw : wrongV p ins.length steps = 0
    · have HZ := Lib.hid hw
      obtain ⟨_, hn40, hs0, hs1⟩ := wrong_0 hw
      obtain ⟨hw1, hw2, hc1, hc2⟩ := mayB_len (mayL_facts HM.out).1
      rw [hw]
      obtain ⟨n, rfl⟩ : ∃ n : Nat, steps = (n : Int) := ⟨steps.toNat, by omega⟩
      have hB0 : Blk (doneW w3 (.slice Ai ins.length ci)) w.heap.size 25 #[.slice A1 p.wide.length c1, .slice A p.code.length c] := (((HQ3.out.b0.alloc _).alloc _).alloc _).alloc _
      have hB2 : Blk (doneW w3 (.slice Ai ins.length ci)) (w.heap.size + 2) 50 #[.int .i64 l.slots, .slice Al lv.length cl] := (((HQ3.out.b2.alloc _).alloc _).alloc _).alloc _
      have hB3 : Blk (doneW w3 (.slice Ai ins.length ci)) (w.heap.size + 3) 28 #[.int .i64 0, .slice none 0 0, .int .i64 0] := (((HQ3.out.b3.alloc _).alloc _).alloc _).alloc _
      have hS : Blk (doneW w3 (.slice Ai ins.length ci)) w3.heap.size 104 (stC ⟨fun _ => 0, fun _ => 0⟩) := by
        rw [← doneZ_st]
        exact ((((Blk.new w3 _ _).alloc _).alloc _).alloc _)
      have hV : Blk (doneW w3 (.slice Ai ins.length ci)) (w3.heap.size + 1) 101 #[.pointer (some ⟨w3.heap.size, 0, none⟩)] := by
        have := ((Blk.new (w3.alloc (.cells doneZ 104)) 101 #[.pointer (some ⟨w3.heap.size, 0, none⟩)]).alloc
          (.cells #[.int .i64 0, .slice none 0 0, .int .i64 0, .int .i64 0, .slice Ai ins.length ci] 85)).alloc (.cells #[.pointer (some ⟨w3.heap.size + 2, 0, none⟩)] 83)
        simpa [doneW] using this
      have hMc : Blk (doneW w3 (.slice Ai ins.length ci)) (w3.heap.size + 2) 85 #[.int .i64 0, .slice none 0 0, .int .i64 0, .int .i64 0, .slice Ai ins.length ci] := by
        have := (Blk.new ((w3.alloc (.cells doneZ 104)).alloc (.cells #[.pointer (some ⟨w3.heap.size, 0, none⟩)] 101)) 85 #[.int .i64 0, .slice none 0 0, .int .i64 0, .int .i64 0, .slice Ai ins.length ci]).alloc (.cells #[.pointer (some ⟨w3.heap.size + 2, 0, none⟩)] 83)
        simpa [doneW] using this
      have hMb : Blk (doneW w3 (.slice Ai ins.length ci)) (w3.heap.size + 3) 83 #[.pointer (some ⟨w3.heap.size + 2, 0, none⟩)] := by
        have := Blk.new (((w3.alloc (.cells doneZ 104)).alloc (.cells #[.pointer (some ⟨w3.heap.size, 0, none⟩)] 101)).alloc (.cells #[.int .i64 0, .slice none 0 0, .int .i64 0, .int .i64 0, .slice Ai ins.length ci] 85)) 83 #[.pointer (some ⟨w3.heap.size + 2, 0, none⟩)]
        simpa [doneW] using this
      have hF3 : Fr w (doneW w3 (.slice Ai ins.length ci)) := ((((HQ3.out.fr.alloc _).alloc _).alloc _).alloc _)
      have c0 := hB0.cell 1
      simp only [List.getElem?_toArray, List.getElem?_cons_succ, List.getElem?_cons_zero] at c0
      unfold doneW doneZ at c0
      have hmf : ∀ (fn : Fn) (first cap : Array Value) (w : World), (Instr.makeFunc fn first cap).run Try.prog w = .ok (.func fn first cap) w := fun _ _ _ _ => rfl
      have hww := HQ3.out.fr.size
      clear hw
      have H3 := Lib.hid (And.intro hB0 (And.intro hB2 (And.intro hB3 (And.intro hS (And.intro hV (And.intro hMc (And.intro hMb hF3)))))))
      clear hB0 hB2 hB3 hS hV hMc hMb hF3
      go_wp2_with fail
      obtain ⟨hB0, hB2, hB3, hS, hV, hMc, hMb, hF3⟩ := H3.out
      refine (Go_any 55 (fun _ _ => by kernel_rfl) #[.pointer (some ⟨w.heap.size, 0, none⟩), .pointer (some ⟨w.heap.size + 1 + 1, 0, none⟩), .pointer (some ⟨w3.heap.size + 1, 0, none⟩), .pointer (some ⟨w3.heap.size + 1 + 1 + 1, 0, none⟩)]
        (w3.heap.size + 2) w.heap.size n c A p.code (mPlaces p l.rows) (sh0 ins, ⟨fun _ => 0, fun _ => 0⟩)
        (DoneI w (w.heap.size + 3) w.heap.size (w.heap.size + 2) (w3.heap.size + 1) (w3.heap.size + 3) w3.heap.size (w3.heap.size + 2) p A1 c1 A c l.slots Al cl lv) (fun _ _ h => h.1)
        (fun wr x h ha h0 _ => h.step (by omega) hww HM.out HROWS.out HO.out HI.out (by omega) ha h0) (doneW w3 (.slice Ai ins.length ci)) (by omega) (by omega) (by omega)
        ⟨⟨.slice none 0 0, ⟨rfl, Or.inl ⟨rfl, rfl⟩⟩, Ai, ci, hMc, hl, hc, HINS.out.kept hF3 (fun _ _ h => h)⟩, ⟨hB0, hB2, hV, hMb, hS, HC.out.kept hF3 (fun _ _ h => h), HRL.out.kept hF3 (fun _ _ h => h), fun x hx => (HRO.out x hx).kept hF3 (fun _ _ h => h)⟩, StOk.zero, hF3, hB3⟩
        (At.start _ ins hc1)).mono ?_
      rintro e w4 ⟨rfl, hpost⟩
      obtain ⟨w5, vo, ⟨_, hC5, _, hF5, hR5⟩, hM4, hk⟩ := hpost
      have hout : (doneV p l.rows ins n).out.length ≤ n := by
        have := mRun_outlen (code := p.code) (M := mPlaces p l.rows) n (sh0 ins, ⟨fun _ => 0, fun _ => 0⟩)
        simpa [sh0, doneV] using this
      have hM4' : Mc w4 (w3.heap.size + 2) w.heap.size (doneV p l.rows ins n) vo := hM4
      clear hM4 hB0 hB2 hB3 hS hV hMc hMb hF3 H3 c0 q0 q1 x0 x1 x2 y0 y1 y2 z0 HQ3
      obtain ⟨how, A5, c5, hg5, _, _, _⟩ := id hM4'
      have hm4 := hC5.mb.kept hk (by omega)
      have hs4 := hR5.kept hk (by omega)
      have HF4 := Lib.hid (hF5.then hk (fun i hi e => by omega))
      have m0 := hm4.cell 0
      have q0 := hg5.cell 0
      have q1 := hg5.cell 1
      have q2 := hg5.cell 2
      have s0 := hs4.cell 0
      have s1 := hs4.cell 1
      have s2 := hs4.cell 2
      have y0 := hs4.frozen 0
      have y1 := hs4.frozen 1
      have y2 := hs4.frozen 2
      have z2 := hs4.lt
      simp only [List.getElem?_toArray, List.getElem?_cons_succ, List.getElem?_cons_zero] at m0 q0 q1 q2 s0 s1 s2
      have HX := Lib.hid how
      have HS4 := Lib.hid hs4
      obtain ⟨A9, c9, rfl, _, hr9⟩ := own_reads how
      have HR9 := Lib.hid hr9
      clear hM4' how hg5 hm4 hs4 hk hC5 hF5 hR5 hr9
      go_wp2
      refine bodyPost_ret (v := .tuple #[.agg #[.int .i64 ((doneV p l.rows ins n).state : Int), .slice A9 (doneV p l.rows ins n).out.length c9, .int .i64 ((doneV p l.rows ins n).steps : Int)], .int .i64 0]) ?_ rfl ?_
      · simp [results, Try.results24, go_sem, s0, s1, s2]
      · have hK : Kept (fun b => b = w.heap.size + 3) w4 (((w4.setCell ⟨w.heap.size + 3, 0, none⟩ (.int .i64 ((doneV p l.rows ins n).state : Int))).setCell ⟨w.heap.size + 3, 1, none⟩ (.slice A9 (doneV p l.rows ins n).out.length c9)).setCell ⟨w.heap.size + 3, 2, none⟩ (.int .i64 ((doneV p l.rows ins n).steps : Int))) :=
          (((Kept.refl (fun b => b = w.heap.size + 3) w4).setCell (p := ⟨w.heap.size + 3, 0, none⟩) (fun _ => rfl) _).setCell (p := ⟨w.heap.size + 3, 1, none⟩) (fun _ => rfl) _).setCell (p := ⟨w.heap.size + 3, 2, none⟩) (fun _ => rfl) _
        refine ⟨((HF4.out.setCell (fun e => by simp only at e; omega) _).setCell (fun e => by simp only at e; omega) _).setCell (fun e => by simp only at e; omega) _, Or.inr ⟨by rw [HWE.out]; exact HZ.out, _, rfl, A9, c9, rfl, by show (doneV p l.rows ins n).out.length ≤ 100000; omega, ?_⟩⟩
        exact (HR9.out.kept hK (fun b hb e => own_blk_ne HX.out HS4.out (by decide) (e ▸ hb.2))).more (fun b hb => hb.1)
    · have hne : (wrongV p ins.length steps != 0) = true := by simpa using hw
      have HZ := Lib.hid hw
      clear hw
      generalize wrongV p ins.length steps = wr at *
      go_wp2
      refine bodyPost_ret (v := .tuple #[.agg #[.int .i64 0, .slice none 0 0, .int .i64 0], .int .i64 wr]) ?_ rfl ?_
      · simp [results, Try.results24, go_sem, x0, x1, x2]
      · show RunPost _ _ _ _ _
        rw [HWE.out]
        exact ⟨((HQ3.out.fr.setCell (fun e => by simp only at e; omega) _).setCell (fun e => by simp only at e; omega) _).setCell (fun e => by simp only at e; omega) _, Or.inl ⟨HZ.out, rfl⟩⟩
end Go.Proofs.Ytodmkjeankbieab
