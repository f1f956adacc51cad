/- RunRun, RefForm2, RefForm3, RefRun, RefSh: texts of this claim, packed into one file. -/
import Derived.Test.YtodmkjeankbieabKBuildSamek3
import Derived.Test.YtodmkjeankbieabKBuildSamek4
/- The walk of run.Run. -/
namespace Go.Proofs.Ytodmkjeankbieab
open Go.RowKit Go.Sort

theorem Reads.old {w : World} {R : Nat → Prop} {size n : Nat} {A : Option Addr} {xs : List Value} (h : Reads w R size A n xs) (hs : 0 < size) : Reads w (fun b => b < w.heap.size) size A n xs := by
  refine ⟨h.1, fun hn => ?_⟩
  obtain ⟨b, off, e, _, hc⟩ := h.2 hn
  have hl : 0 < xs.length := by rw [h.1]; exact Nat.mul_pos hn hs
  exact ⟨b, off, e, cell_lt (hc 0 xs[0] (List.getElem?_eq_getElem hl)), hc⟩

/-- a value of api.Shown reads as x -/
def RdSh (w : World) (R : Nat → Prop) (v : Value) (x : Sh) : Prop :=
  ∃ A c, v = .agg #[.int .i64 (x.state : Int), .slice A x.out.length c, .int .i64 (x.steps : Int)] ∧ x.out.length ≤ 100000 ∧ Reads w R 1 A x.out.length (u32s x.out)
theorem RdSh.kept {w w' : World} {R S : Nat → Prop} {v : Value} {x : Sh} (h : RdSh w R v x) (hk : Kept S w w') (hs : ∀ b, R b → ¬ S b) : RdSh w' R v x :=
  let ⟨A, c, e, hl, hr⟩ := h
  ⟨A, c, e, hl, hr.kept hk hs⟩
theorem RdSh.zero (w : World) (R : Nat → Prop) : RdSh w R (.agg #[.int .i64 0, .slice none 0 0, .int .i64 0]) (sh0 []) := ⟨none, 0, rfl, by simp [sh0], Reads.none_⟩
/-- what run.Run answers -/
def RunPost (w : World) (wr : Int) (x : Sh) (e : Ending) (w' : World) : Prop :=
  Fr w w' ∧ ((wr ≠ 0 ∧ e = .returned (.tuple #[.agg #[.int .i64 0, .slice none 0 0, .int .i64 0], .int .i64 wr])) ∨ (wr = 0 ∧ ∃ v, e = .returned (.tuple #[v, .int .i64 0]) ∧ RdSh w' (fun b => w.heap.size ≤ b) v x))

/-- the world with the three new variables -/
def runW (w2 : World) (ins : Value) : World :=
  ((w2.alloc (.cells #[.int .u64 0, .int .u64 0, .int .u64 0, .int .u64 0, .int .u64 0, .int .u64 0, .int .u64 0, .int .u64 0, .int .u64 0, .int .u64 0, .int .u64 0, .int .u64 0] 82)).alloc
    (.cells #[.int .i64 0, .slice none 0 0, .int .i64 0, .int .i64 0, ins] 85)).alloc (.cells #[.pointer (some ⟨w2.heap.size + 1, 0, none⟩)] 83)

theorem wrong_0 {p : Pg} {n : Nat} {steps : Int} (h : wrongV p n steps = 0) : mayB p = true ∧ n ≤ 40 ∧ 0 ≤ steps ∧ steps ≤ 3000 := by
  unfold wrongV at h
  cases hm : mayB p with
  | false => rw [hm] at h; simp at h
  | true =>
    rw [hm] at h
    simp only [Bool.true_eq_false, if_false] at h
    split at h
    · cases h
    · split at h
      · cases h
      · exact ⟨rfl, by omega, by omega, by omega⟩

/-- what holds while the program runs -/
def RunI (w0 : World) (bs bp bm bt g : Nat) (p : Pg) (A1 : Option Addr) (c1 : Nat) (A : Option Addr) (c : Nat) (w : World) (x : Sh × (Int → Int)) : Prop :=
  (∃ vo, Mc w g w0.heap.size (unF x.1) vo) ∧ Clo w bp bm bt g w0.heap.size p A1 c1 A c x.2 ∧ Temps p x.2 ∧ Fr w0 w ∧ Blk w bs 28 #[.int .i64 0, .slice none 0 0, .int .i64 0]

theorem RunI.step {w0 w : World} {bs bp bm bt g n : Nat} {p : Pg} {A1 : Option Addr} {c1 : Nat} {A : Option Addr} {c : Nat} {ins : List Int} {x : Sh × (Int → Int)} (h : RunI w0 bs bp bm bt g p A1 c1 A c w x) (hg : w0.heap.size ≤ g) (hbt : w0.heap.size ≤ bt)
    (hm : mayB p = true) (ho : ∀ m ∈ p.code, m.ok) (hi : ∀ n ∈ ins, 0 ≤ n ∧ n < 4294967296) (hn : n ≤ 100000) (hat : At p.code (mTemps p) (sh0 ins, fun _ => 0) n x) (h0 : x.1.state = 0) :
    Calls Try.prog 41 (#[.int .i64 (x.1.pc : Int)] ++ #[.pointer (some ⟨bp, 0, none⟩), .pointer (some ⟨bm, 0, none⟩), .pointer (some ⟨bt, 0, none⟩)]) w fun e w' => e = .returned (.tuple #[]) ∧ RunI w0 bs bp bm bt g p A1 c1 A c w' (mStep p.code (mTemps p) x) := by
  obtain ⟨⟨vo, hM⟩, hC, hT, hF, hS⟩ := h
  have hpc := hat.st0 h0
  have hin : ∀ y ∈ x.1.ins, 0 ≤ y ∧ y < 4294967296 := fun y hy => hi y (hat.ins y hy)
  have hout := hat.out rfl
  have hle := hat.le
  refine (Run1_any bp bm bt g w0.heap.size p A1 c1 A c x.2 (unF x.1) vo w hC hM hg hbt hm (ho _ (inAt_mem hpc)).2.2.2.2.2 hpc (fun t => ⟨hT.ge t, hT.lt t⟩) hT.nar (by show x.1.steps ≤ 100000; omega) (by show x.1.out.length ≤ 100000; omega) hin).mono ?_
  rintro e w' ⟨rfl, ⟨vo', hM'⟩, hC', hk⟩
  refine ⟨rfl, ⟨vo', ?_⟩, hC', hT.step hm (fun i hi => (ho i hi).2.2.2.2.2) hpc hin, ?_, ?_⟩
  · have := raw_step (code := p.code) h0 (x.2 (inAt p.code x.1.pc).a)
    show Mc w' g w0.heap.size (unF (shStep p.code x.1 (x.2 (inAt p.code x.1.pc).a))) vo'
    rw [← this]
    exact hM'
  · refine hF.then hk fun i hi hs => ?_
    rcases hs with e | e | e
    · omega
    · omega
    · have := (own_lt hM.ow e).1; omega
  · refine hS.kept hk ?_
    obtain ⟨_, _, hg, _⟩ := hM.ex
    rintro (e | e | e)
    · exact hS.ne_ hC.tb (by decide) e
    · exact hS.ne_ hg (by decide) e
    · exact own_blk_ne hM.ow hS (by decide) e

set_option maxHeartbeats 4000000 in
set_option maxRecDepth 100000 in
theorem run_any (R : Nat → Prop) (v : Value) (p : Pg) (Ai : Option Addr) (ins : List Int) (ci : Nat) (steps : Int) (w : World) (h : RdPg w R v p) (hl : ins.length ≤ ci) (hc : ci ≤ maxLen) (hr : Reads w R 1 Ai ins.length (u32s ins)) (hi : ∀ n ∈ ins, 0 ≤ n ∧ n < 4294967296) :
    Calls Try.prog 15 #[v, .slice Ai ins.length ci, .int .i64 steps] w (RunPost w (wrongV p ins.length steps) (runV p ins steps.toNat)) := by
  have H := Lib.hid h
  obtain ⟨vw, vc, rfl, ⟨A1, c1, rfl, hl1, hr1⟩, ⟨A, c, rfl, hl2, hr2, ho2⟩⟩ := h
  have HC := Lib.hid (hr2.old (by decide))
  have HO := Lib.hid ho2
  have HINS := Lib.hid (hr.old (by decide))
  have HI := Lib.hid hi
  unfold maxLen at hl1 hl2 hc
  clear hr1 hr2 ho2 hr hi
  have HW := Lib.hid (fun w2 (hf : Fr w w2) => Wrong_any R _ p Ai ins.length ci steps w2 (H.out.kept hf (fun _ _ h => h)) (by omega))
  go_enter Try.func15, Try.ntmps15
  go_wp2_with fail
  have HF0 := Lib.hid (show Fr w ((w.alloc (.cells #[.slice A1 p.wide.length c1, .slice A p.code.length c] 25)).alloc (.cells #[.int .i64 0, .slice none 0 0, .int .i64 0] 28)) from ((Kept.refl _ w).alloc _).alloc _)
  have HB0 := Lib.hid ((Blk.new w 25 #[.slice A1 p.wide.length c1, .slice A p.code.length c]).alloc (.cells #[.int .i64 0, .slice none 0 0, .int .i64 0] 28))
  have HB1 : Hid (Blk ((w.alloc (.cells #[.slice A1 p.wide.length c1, .slice A p.code.length c] 25)).alloc (.cells #[.int .i64 0, .slice none 0 0, .int .i64 0] 28)) (w.heap.size + 1) 28 #[.int .i64 0, .slice none 0 0, .int .i64 0]) := by
    have := Blk.new (w.alloc (.cells #[.slice A1 p.wide.length c1, .slice A p.code.length c] 25)) 28 #[.int .i64 0, .slice none 0 0, .int .i64 0]
    show Blk _ _ _ _
    simpa using this
  refine (HW.out _ HF0.out).mono ?_
  rintro e w2 ⟨rfl, f2⟩
  have HF2 := Lib.hid (HF0.out.trans f2)
  have hb0 := HB0.out.kept f2 (fun h => h)
  have hb1 := HB1.out.kept f2 (fun h => h)
  clear HF0 HB0 HB1 HW f2
  by_cases hw : wrongV p ins.length steps = 0
  · have HZ := Lib.hid hw
    obtain ⟨hm, hn40, hs0, hs1⟩ := wrong_0 hw
    obtain ⟨hw1, hw2, hc1, hc2⟩ := mayB_len hm
    rw [hw]
    obtain ⟨n, rfl⟩ : ∃ n : Nat, steps = (n : Int) := ⟨steps.toNat, by omega⟩
    have c0 := hb0.cell 1
    simp only [List.getElem?_toArray, List.getElem?_cons_succ, List.getElem?_cons_zero] at c0
    have z0 := hb0.lt
    have z1 := hb1.lt
    have HB0 := Lib.hid hb0
    have HB1 := Lib.hid hb1
    have hB0 : Blk (runW w2 (.slice Ai ins.length ci)) w.heap.size 25 #[.slice A1 p.wide.length c1, .slice A p.code.length c] := ((hb0.alloc _).alloc _).alloc _
    have hB1 : Blk (runW w2 (.slice Ai ins.length ci)) (w.heap.size + 1) 28 #[.int .i64 0, .slice none 0 0, .int .i64 0] := ((hb1.alloc _).alloc _).alloc _
    have hT : Blk (runW w2 (.slice Ai ins.length ci)) w2.heap.size 82 (mkU 12 fun _ => 0) := (((Blk.new w2 _ _).alloc _).alloc _)
    have hM : Blk (runW w2 (.slice Ai ins.length ci)) (w2.heap.size + 1) 85 #[.int .i64 0, .slice none 0 0, .int .i64 0, .int .i64 0, .slice Ai ins.length ci] := by
      have := (Blk.new (w2.alloc (.cells #[.int .u64 0, .int .u64 0, .int .u64 0, .int .u64 0, .int .u64 0, .int .u64 0, .int .u64 0, .int .u64 0, .int .u64 0, .int .u64 0, .int .u64 0, .int .u64 0] 82)) 85 #[.int .i64 0, .slice none 0 0, .int .i64 0, .int .i64 0, .slice Ai ins.length ci]).alloc (.cells #[.pointer (some ⟨w2.heap.size + 1, 0, none⟩)] 83)
      simpa [runW] using this
    have hP : Blk (runW w2 (.slice Ai ins.length ci)) (w2.heap.size + 2) 83 #[.pointer (some ⟨w2.heap.size + 1, 0, none⟩)] := by
      have := Blk.new ((w2.alloc (.cells #[.int .u64 0, .int .u64 0, .int .u64 0, .int .u64 0, .int .u64 0, .int .u64 0, .int .u64 0, .int .u64 0, .int .u64 0, .int .u64 0, .int .u64 0, .int .u64 0] 82)).alloc
        (.cells #[.int .i64 0, .slice none 0 0, .int .i64 0, .int .i64 0, .slice Ai ins.length ci] 85)) 83 #[.pointer (some ⟨w2.heap.size + 1, 0, none⟩)]
      simpa [runW] using this
    have hF3 : Fr w (runW w2 (.slice Ai ins.length ci)) := (((HF2.out.alloc _).alloc _).alloc _)
    have c0 := hB0.cell 1
    simp only [List.getElem?_toArray, List.getElem?_cons_succ, List.getElem?_cons_zero] at c0
    unfold runW at c0
    have hmf : ∀ (fn : Fn) (first cap : Array Value) (w : World), (Instr.makeFunc fn first cap).run Try.prog w = .ok (.func fn first cap) w := fun _ _ _ _ => rfl
    clear hb0 hb1 hw
    have H3 := Lib.hid (And.intro hB0 (And.intro hB1 (And.intro hT (And.intro hM (And.intro hP hF3)))))
    clear hB0 hB1 hT hM hP hF3
    go_wp2_with fail
    obtain ⟨hB0, hB1, hT, hM, hP, hF3⟩ := H3.out
    refine (Go_any 41 (fun _ _ => by kernel_rfl) #[.pointer (some ⟨w.heap.size, 0, none⟩), .pointer (some ⟨w2.heap.size + 1 + 1, 0, none⟩), .pointer (some ⟨w2.heap.size, 0, none⟩)] (w2.heap.size + 1) w.heap.size n c A p.code (mTemps p) (sh0 ins, fun _ => 0)
      (RunI w (w.heap.size + 1) w.heap.size (w2.heap.size + 2) w2.heap.size (w2.heap.size + 1) p A1 c1 A c) (fun _ _ h => h.1)
      (fun wr x h ha h0 _ => h.step (by have := HF2.out.size; omega) HF2.out.size hm HO.out HI.out (by omega) ha h0) (runW w2 (.slice Ai ins.length ci)) (by have := HF2.out.size; omega) (by omega) (by omega)
      ⟨⟨.slice none 0 0, ⟨rfl, Or.inl ⟨rfl, rfl⟩⟩, Ai, ci, hM, hl, hc, HINS.out.kept hF3 (fun _ _ h => h)⟩, ⟨hB0, hP, hT, HC.out.kept hF3 (fun _ _ h => h)⟩, Temps.zero p, hF3, hB1⟩ (At.start _ ins hc1)).mono ?_
    rintro e w3 ⟨rfl, hpost⟩
    obtain ⟨w4, vo, ⟨_, hC4, _, hF4, hB4⟩, hM3, hk⟩ := hpost
    have hout : (runV p ins n).out.length ≤ n := by
      have := mRun_outlen (code := p.code) (M := mTemps p) n (sh0 ins, fun _ => 0)
      simpa [sh0, runV] using this
    have hM3' : Mc w3 (w2.heap.size + 1) w.heap.size (runV p ins n) vo := hM3
    clear hM3 hB0 hB1 hT hM hP hF3 H3 c0
    obtain ⟨how, A5, c5, hg5, _, _, _⟩ := id hM3'
    have hm3 := hC4.mb.kept hk (by omega)
    have hs3 := hB4.kept hk (by omega)
    have hF5 := Lib.hid (hF4.then hk (fun i hi e => by have := HF2.out.size; omega))
    have m0 := hm3.cell 0
    have q0 := hg5.cell 0
    have q1 := hg5.cell 1
    have q2 := hg5.cell 2
    have s0 := hs3.cell 0
    have s1 := hs3.cell 1
    have s2 := hs3.cell 2
    have y0 := hs3.frozen 0
    have y1 := hs3.frozen 1
    have y2 := hs3.frozen 2
    have z2 := hs3.lt
    simp only [List.getElem?_toArray, List.getElem?_cons_succ, List.getElem?_cons_zero] at m0 q0 q1 q2 s0 s1 s2
    have HX := Lib.hid how
    have HS3 := Lib.hid hs3
    obtain ⟨A9, c9, rfl, _, hr9⟩ := own_reads how
    have HR9 := Lib.hid hr9
    clear hM3' how hg5 hm3 hs3 hk hC4 hF4 hB4 hr9
    go_wp2
    refine bodyPost_ret (v := .tuple #[.agg #[.int .i64 ((runV p ins n).state : Int), .slice A9 (runV p ins n).out.length c9, .int .i64 ((runV p ins n).steps : Int)], .int .i64 0]) ?_ rfl ?_
    · simp [results, Try.results15, go_sem, s0, s1, s2]
    · have hK : Kept (fun b => b = w.heap.size + 1) w3 (((w3.setCell ⟨w.heap.size + 1, 0, none⟩ (.int .i64 ((runV p ins n).state : Int))).setCell ⟨w.heap.size + 1, 1, none⟩ (.slice A9 (runV p ins n).out.length c9)).setCell ⟨w.heap.size + 1, 2, none⟩ (.int .i64 ((runV p ins n).steps : Int))) :=
        (((Kept.refl (fun b => b = w.heap.size + 1) w3).setCell (p := ⟨w.heap.size + 1, 0, none⟩) (fun _ => rfl) _).setCell (p := ⟨w.heap.size + 1, 1, none⟩) (fun _ => rfl) _).setCell (p := ⟨w.heap.size + 1, 2, none⟩) (fun _ => rfl) _
      refine ⟨((hF5.out.setCell (fun e => by simp only at e; omega) _).setCell (fun e => by simp only at e; omega) _).setCell (fun e => by simp only at e; omega) _, Or.inr ⟨HZ.out, _, rfl, A9, c9, rfl, by show (runV p ins n).out.length ≤ 100000; omega, ?_⟩⟩
      exact (HR9.out.kept hK (fun b hb e => own_blk_ne HX.out HS3.out (by decide) (e ▸ hb.2))).more (fun b hb => hb.1)
  · have hne : (wrongV p ins.length steps != 0) = true := by simpa using hw
    have HZ := Lib.hid hw
    have q0 := hb1.cell 0
    have q1 := hb1.cell 1
    have q2 := hb1.cell 2
    simp only [List.getElem?_toArray, List.getElem?_cons_succ, List.getElem?_cons_zero] at q0 q1 q2
    have y0 := hb1.frozen 0
    have y1 := hb1.frozen 1
    have y2 := hb1.frozen 2
    have z1 := hb1.lt
    have HB1 := Lib.hid hb1
    clear hw hb1 hb0
    generalize wrongV p ins.length steps = wr at *
    go_wp2
    refine bodyPost_ret (v := .tuple #[.agg #[.int .i64 0, .slice none 0 0, .int .i64 0], .int .i64 wr]) ?_ rfl ?_
    · simp [results, Try.results15, go_sem, q0, q1, q2]
    · exact ⟨((HF2.out.setCell (fun e => by simp only at e; omega) _).setCell (fun e => by simp only at e; omega) _).setCell (fun e => by simp only at e; omega) _, Or.inl ⟨HZ.out, rfl⟩⟩
end Go.Proofs.Ytodmkjeankbieab

/- The walks of the reference of chapter 2: ins, May. -/
namespace Go.Proofs.Ytodmkjeankbieab
open Go.RowKit Go.Sort

theorem insR_k0 {p : Pg} {i : In} (h : known i.op = false) : insR p i = false := by unfold insR; simp [h]
theorem insR_n0 {p : Pg} {i : In} (h : i.op ≠ 1) (hn : i.n ≠ 0) : insR p i = false := by unfold insR; simp [h, hn]
theorem insR_f0 {p : Pg} {i : In} (h : fieldR p.wide (gvs i.op) i.d = false) : insR p i = false := by unfold insR; simp [h]
theorem insR_f1 {p : Pg} {i : In} (h : fieldR p.wide (decide (0 < many i.op)) i.a = false) : insR p i = false := by unfold insR; simp [h]
theorem insR_f2 {p : Pg} {i : In} (h : fieldR p.wide (decide (1 < many i.op)) i.b = false) : insR p i = false := by unfold insR; simp [h]
theorem insR_rest {p : Pg} {i : In} (hk : known i.op = true) (hn : i.op = 1 ∨ i.n = 0) (h0 : fieldR p.wide (gvs i.op) i.d = true) (h1 : fieldR p.wide (decide (0 < many i.op)) i.a = true) (h2 : fieldR p.wide (decide (1 < many i.op)) i.b = true) :
    insR p i = ((if i.op = 8 ∨ i.op = 9 then inB i.c p.code.length else decide (i.c = 0)) && widthsR p i) := by
  unfold insR
  have e : (decide (i.op = 1) || decide (i.n = 0)) = true := by simpa using hn
  rw [hk, e, h0, h1, h2]; simp

structure RfMem (w wr : World) (vw vc : Value) (i : In) (g m0 m1 : Bool) : Prop where
  im : InsMem w wr vw vc i
  f : Blk wr (w.heap.size + 2) 3 #[.int .i64 i.d, .int .i64 i.a, .int .i64 i.b]
  t : Blk wr (w.heap.size + 3) 4 #[.bool g, .bool m0, .bool m1]
theorem RfMem.start (w : World) (vw vc : Value) (op d a b c : Int) (n : Nat) (g m0 m1 : Bool) :
    RfMem w (((((w.alloc (.cells #[vw, vc] 25)).alloc (.cells #[.int .i64 op, .int .i64 d, .int .i64 a, .int .i64 b, .int .i64 c, .int .u32 n] 45)).alloc (.cells #[.int .i64 d, .int .i64 a, .int .i64 b] 3)).alloc
      (.cells #[.bool g, .bool m0, .bool m1] 4)).drew) vw vc ⟨op, d, a, b, c, n⟩ g m0 m1 := by
  have h := InsMem.start w vw vc op d a b c n
  generalize hW : ((w.alloc (.cells #[vw, vc] 25)).alloc (.cells #[.int .i64 op, .int .i64 d, .int .i64 a, .int .i64 b, .int .i64 c, .int .u32 n] 45)) = W at h
  have hs : W.heap.size = w.heap.size + 2 := by rw [← hW]; simp
  refine ⟨((h.alloc _).alloc _).drew, ?_, ?_⟩
  · have := ((Blk.new W 3 #[.int .i64 d, .int .i64 a, .int .i64 b]).alloc (.cells #[.bool g, .bool m0, .bool m1] 4)).drew
    rwa [hs] at this
  · have := (Blk.new (W.alloc (.cells #[.int .i64 d, .int .i64 a, .int .i64 b] 3)) 4 #[.bool g, .bool m0, .bool m1]).drew
    simp only [World.size_alloc, hs] at this
    exact this

/-- what the loop over the fields holds -/
def RfRel (p : Pg) (d a b : Int) (g m0 m1 : Bool) (k : Int) : Prop :=
  k = 0 ∨ (k = 1 ∧ fieldR p.wide g d = true) ∨ (k = 2 ∧ fieldR p.wide g d = true ∧ fieldR p.wide m0 a = true) ∨ (k = 3 ∧ fieldR p.wide g d = true ∧ fieldR p.wide m0 a = true ∧ fieldR p.wide m1 b = true)
theorem field_cases (wide : List Bool) (g : Bool) (n : Int) : (g = true ∧ 0 ≤ n ∧ n < wide.length ∧ fieldR wide g n = true) ∨ (g = true ∧ n < 0 ∧ fieldR wide g n = false) ∨ (g = true ∧ 0 ≤ n ∧ (wide.length : Int) ≤ n ∧ fieldR wide g n = false) ∨
    (g = false ∧ n = 0 ∧ fieldR wide g n = true) ∨ (g = false ∧ (n != 0) = true ∧ fieldR wide g n = false) := by
  unfold fieldR inB
  cases g with
  | true =>
    by_cases h0 : 0 ≤ n
    · by_cases h1 : n < wide.length
      · exact Or.inl ⟨rfl, h0, h1, by simp [h0, h1]⟩
      · exact Or.inr (Or.inr (Or.inl ⟨rfl, h0, by omega, by simp [h1]⟩))
    · exact Or.inr (Or.inl ⟨rfl, by omega, by simp [h0]⟩)
  | false =>
    by_cases h : n = 0
    · exact Or.inr (Or.inr (Or.inr (Or.inl ⟨rfl, h, by simp [h]⟩)))
    · exact Or.inr (Or.inr (Or.inr (Or.inr ⟨rfl, by simpa using h, by simp [h]⟩)))
theorem field_in {wide : List Bool} {g : Bool} {n : Int} (h : fieldR wide g n = true) (hg : g = true) : 0 ≤ n ∧ n < wide.length := by
  unfold fieldR inB at h; rw [if_pos hg] at h; exact of_decide_eq_true h
theorem jump_cases (op : Int) : (op == 8) = true ∨ ((op == 8) = false ∧ (op == 9) = true) ∨ ((op == 8) = false ∧ (op == 9) = false) := by
  cases h8 : (op == 8) <;> cases h9 : (op == 9) <;> simp
theorem rest_jump {p : Pg} {op d a b c : Int} {n : Nat} {W : Bool} (h : insR p ⟨op, d, a, b, c, n⟩ = ((if op = 8 ∨ op = 9 then inB c p.code.length else decide (c = 0)) && W)) (hj : op = 8 ∨ op = 9) :
    (0 ≤ c ∧ c < p.code.length → insR p ⟨op, d, a, b, c, n⟩ = W) ∧ (c < 0 ∨ (p.code.length : Int) ≤ c → insR p ⟨op, d, a, b, c, n⟩ = false) := by
  rw [h, if_pos hj]
  unfold inB
  exact ⟨fun hc => by rw [decide_eq_true hc]; rfl, fun hc => by rw [decide_eq_false (by omega)]; rfl⟩
theorem rest_nojump {p : Pg} {op d a b c : Int} {n : Nat} {W : Bool} (h : insR p ⟨op, d, a, b, c, n⟩ = ((if op = 8 ∨ op = 9 then inB c p.code.length else decide (c = 0)) && W)) (h8 : (op == 8) = false) (h9 : (op == 9) = false) :
    (c = 0 → insR p ⟨op, d, a, b, c, n⟩ = W) ∧ (c ≠ 0 → insR p ⟨op, d, a, b, c, n⟩ = false) := by
  rw [beq_eq_false_iff_ne] at h8 h9
  rw [h, if_neg (by omega)]
  exact ⟨fun hc => by rw [decide_eq_true hc]; rfl, fun hc => by rw [decide_eq_false hc]; rfl⟩
theorem RfMem.cf {w wr : World} {vw vc : Value} {op d a b c : Int} {n : Nat} {g m0 m1 : Bool} (h : RfMem w wr vw vc ⟨op, d, a, b, c, n⟩ g m0 m1) : wr.cell? ⟨w.heap.size + 2, 0, none⟩ = some (.int .i64 d) ∧ wr.cell? ⟨w.heap.size + 2, 1, none⟩ = some (.int .i64 a) ∧
    wr.cell? ⟨w.heap.size + 2, 2, none⟩ = some (.int .i64 b) ∧ wr.cell? ⟨w.heap.size + 3, 0, none⟩ = some (.bool g) ∧ wr.cell? ⟨w.heap.size + 3, 1, none⟩ = some (.bool m0) ∧ wr.cell? ⟨w.heap.size + 3, 2, none⟩ = some (.bool m1) := by
  have c0 := h.f.cell 0
  have c1 := h.f.cell 1
  have c2 := h.f.cell 2
  have c3 := h.t.cell 0
  have c4 := h.t.cell 1
  have c5 := h.t.cell 2
  simp only [List.getElem?_toArray, List.getElem?_cons_succ, List.getElem?_cons_zero] at c0 c1 c2 c3 c4 c5
  exact ⟨c0, c1, c2, c3, c4, c5⟩

set_option maxHeartbeats 4000000 in
set_option maxRecDepth 100000 in
theorem refIns_any (R : Nat → Prop) (v : Value) (p : Pg) (i : In) (w : World) (h : RdPg w R v p) :
    Calls Try.prog 49 #[v, i.val] w fun e w' => e = .returned (.bool (insR p i)) ∧ Fr w w' := by
  have H := Lib.hid h
  obtain ⟨vw, vc, rfl, ⟨A, c, rfl, hl, hr⟩, ⟨A', c', rfl, hl', hr', ho'⟩⟩ := h
  unfold maxLen at hl hl'
  clear hr hr' ho'
  obtain ⟨op, d, a, b, cc, n⟩ := i
  unfold In.val
  simp only
  have HKn := Lib.hid (refKnown_any op)
  cases hk : known op with
  | false =>
    have hfin := Lib.hid (insR_k0 (p := p) (i := ⟨op, d, a, b, cc, n⟩) hk)
    rw [hk] at HKn
    clear hk
    go_enter Try.func49, Try.ntmps49
    go_wp2_with (go_at_call 85; refine (HKn.out _).mono ?_; rintro e w' ⟨rfl, rfl⟩)
    go_ret
    exact ⟨ret_b hfin.out.symm, ((Kept.refl _ w).alloc _).alloc _⟩
  | true =>
    by_cases hn : op ≠ 1 ∧ n ≠ 0
    · have hfin := Lib.hid (insR_n0 (p := p) (i := ⟨op, d, a, b, cc, n⟩) hn.1 hn.2)
      have e1 : (op != 1) = true := by simpa using hn.1
      have e2 : ((n : Int) != 0) = true := by simpa using hn.2
      rw [hk] at HKn
      clear hk hn
      go_enter Try.func49, Try.ntmps49
      go_wp2_with (go_at_call 85; refine (HKn.out _).mono ?_; rintro e w' ⟨rfl, rfl⟩)
      go_ret
      exact ⟨ret_b hfin.out.symm, ((Kept.refl _ w).alloc _).alloc _⟩
    · have HK := Lib.hid hk
      have HN := Lib.hid (show op = 1 ∨ n = 0 by omega)
      have hen : op = 1 ∨ (op != 1) = true ∧ n = 0 := by
        by_cases h : op = 1
        · exact Or.inl h
        · exact Or.inr ⟨by simpa using h, by omega⟩
      rw [hk] at HKn
      clear hk hn
      have HG := Lib.hid (refGives_any op)
      have HM := Lib.hid (refMany_any op)
      have hen1 : (op != 1) = false ∨ ((op != 1) = true ∧ n = 0) := by
        rcases hen with h | h
        · exact Or.inl (by simpa using h)
        · exact Or.inr h
      clear hen
      go_enter Try.func49, Try.ntmps49
      rcases hen1 with e1 | ⟨e1, hn0⟩
      case' inr => have hn1 : ((n : Int) != 0) = false := by simpa using hn0
      case' inr => clear hn0
      all_goals
        go_wp2_with (go_at_call 85; refine (HKn.out _).mono ?_; rintro e w' ⟨rfl, rfl⟩)
      all_goals
        go_region_held3 (fun w' => w'.cell? ⟨w.heap.size + 1, 0, none⟩ = some (.int .i64 op))
          (first | go_keep)
          (first
            | (go_at_call 44; refine (HG.out _).mono ?_; rintro e w' ⟨rfl, rfl⟩)
            | (go_at_call 66; refine (HM.out _).mono ?_; rintro e w' ⟨rfl, rfl⟩))
      all_goals
        have em1 : decide ((1 : Int) < (many op : Int)) = decide (1 < many op) := by rw [decide_eq_decide]; omega
        rw [em1]
        have HS := Lib.hid (RfMem.start w (.slice A p.wide.length c) (.slice A' p.code.length c') op d a b cc n (gvs op) (decide (0 < many op)) (decide (1 < many op)))
        clear em1
        generalize hg : gvs op = g at *
        generalize hm0 : decide (0 < many op) = m0 at *
        generalize hm1 : decide (1 < many op) = m1 at *
        have Hg := Lib.hid hg
        have Hm0 := Lib.hid hm0
        have Hm1 := Lib.hid hm1
        clear hg hm0 hm1 HG HM HKn
        go_wp2
        go_loopw [8] (fun i wr => ∃ k : Int, i = .int .i64 k ∧ Hid (RfRel p d a b g m0 m1 k) ∧ Hid (RfMem w wr (.slice A p.wide.length c) (.slice A' p.code.length c') ⟨op, d, a, b, cc, n⟩ g m0 m1)) (fun i _ => 3 - (intOf i).toNat)
        case atStart => exact ⟨0, rfl, Or.inl rfl, HS.out⟩
        case round =>
          obtain ⟨k, rfl, hrel, hmem⟩ := hrel
          clear HS
          obtain ⟨f0, f1, f2, t0, t1, t2⟩ := hmem.out.cf
          have z0 := hmem.out.im.lt
          have z1 := hmem.out.t.lt
          have HF := Lib.hid hmem.out.im.fr
          rcases hrel.out with rfl | ⟨rfl, r0⟩ | ⟨rfl, r0, r1⟩ | ⟨rfl, r0, r1, r2⟩
          · rcases field_cases p.wide g d with ⟨hgt, h0, h1, hf⟩ | ⟨hgt, h0, hf⟩ | ⟨hgt, h0, h1, hf⟩ | ⟨hgt, h0, hf⟩ | ⟨hgt, h0, hf⟩
            · have HX := Lib.hid (show RfRel p d a b g m0 m1 1 from Or.inr (Or.inl ⟨rfl, hf⟩))
              clear hf hrel 
              rw [hgt] at t0
              clear hgt
              go_wp2
              go_roundw
              case rel => exact ⟨1, rfl, HX, hmem⟩
              case measure => simp [intOf]
            · have HX := Lib.hid (insR_f0 (p := p) (i := ⟨op, d, a, b, cc, n⟩) (by rw [Hg.out]; exact hf))
              clear hf hrel 
              rw [hgt] at t0
              clear hgt
              go_wp2
              go_ret
              exact ⟨ret_b HX.out.symm, HF.out⟩
            · have HX := Lib.hid (insR_f0 (p := p) (i := ⟨op, d, a, b, cc, n⟩) (by rw [Hg.out]; exact hf))
              clear hf hrel 
              rw [hgt] at t0
              clear hgt
              go_wp2
              go_ret
              exact ⟨ret_b HX.out.symm, HF.out⟩
            · have HX := Lib.hid (show RfRel p d a b g m0 m1 1 from Or.inr (Or.inl ⟨rfl, hf⟩))
              clear hf hrel 
              rw [hgt] at t0
              rw [h0] at f0
              clear h0
              clear hgt
              go_wp2
              go_roundw
              case rel => exact ⟨1, rfl, HX, hmem⟩
              case measure => simp [intOf]
            · have HX := Lib.hid (insR_f0 (p := p) (i := ⟨op, d, a, b, cc, n⟩) (by rw [Hg.out]; exact hf))
              clear hf hrel 
              rw [hgt] at t0
              clear hgt
              go_wp2
              go_ret
              exact ⟨ret_b HX.out.symm, HF.out⟩
          · rcases field_cases p.wide m0 a with ⟨hgt, h0, h1, hf⟩ | ⟨hgt, h0, hf⟩ | ⟨hgt, h0, h1, hf⟩ | ⟨hgt, h0, hf⟩ | ⟨hgt, h0, hf⟩
            · have HX := Lib.hid (show RfRel p d a b g m0 m1 2 from Or.inr (Or.inr (Or.inl ⟨rfl, r0, hf⟩)))
              clear hf hrel r0
              rw [hgt] at t1
              clear hgt
              go_wp2
              go_roundw
              case rel => exact ⟨2, rfl, HX, hmem⟩
              case measure => simp [intOf]
            · have HX := Lib.hid (insR_f1 (p := p) (i := ⟨op, d, a, b, cc, n⟩) (by rw [Hm0.out]; exact hf))
              clear hf hrel r0
              rw [hgt] at t1
              clear hgt
              go_wp2
              go_ret
              exact ⟨ret_b HX.out.symm, HF.out⟩
            · have HX := Lib.hid (insR_f1 (p := p) (i := ⟨op, d, a, b, cc, n⟩) (by rw [Hm0.out]; exact hf))
              clear hf hrel r0
              rw [hgt] at t1
              clear hgt
              go_wp2
              go_ret
              exact ⟨ret_b HX.out.symm, HF.out⟩
            · have HX := Lib.hid (show RfRel p d a b g m0 m1 2 from Or.inr (Or.inr (Or.inl ⟨rfl, r0, hf⟩)))
              clear hf hrel r0
              rw [hgt] at t1
              rw [h0] at f1
              clear h0
              clear hgt
              go_wp2
              go_roundw
              case rel => exact ⟨2, rfl, HX, hmem⟩
              case measure => simp [intOf]
            · have HX := Lib.hid (insR_f1 (p := p) (i := ⟨op, d, a, b, cc, n⟩) (by rw [Hm0.out]; exact hf))
              clear hf hrel r0
              rw [hgt] at t1
              clear hgt
              go_wp2
              go_ret
              exact ⟨ret_b HX.out.symm, HF.out⟩
          · rcases field_cases p.wide m1 b with ⟨hgt, h0, h1, hf⟩ | ⟨hgt, h0, hf⟩ | ⟨hgt, h0, h1, hf⟩ | ⟨hgt, h0, hf⟩ | ⟨hgt, h0, hf⟩
            · have HX := Lib.hid (show RfRel p d a b g m0 m1 3 from Or.inr (Or.inr (Or.inr ⟨rfl, r0, r1, hf⟩)))
              clear hf hrel r0 r1
              rw [hgt] at t2
              clear hgt
              go_wp2
              go_roundw
              case rel => exact ⟨3, rfl, HX, hmem⟩
              case measure => simp [intOf]
            · have HX := Lib.hid (insR_f2 (p := p) (i := ⟨op, d, a, b, cc, n⟩) (by rw [Hm1.out]; exact hf))
              clear hf hrel r0 r1
              rw [hgt] at t2
              clear hgt
              go_wp2
              go_ret
              exact ⟨ret_b HX.out.symm, HF.out⟩
            · have HX := Lib.hid (insR_f2 (p := p) (i := ⟨op, d, a, b, cc, n⟩) (by rw [Hm1.out]; exact hf))
              clear hf hrel r0 r1
              rw [hgt] at t2
              clear hgt
              go_wp2
              go_ret
              exact ⟨ret_b HX.out.symm, HF.out⟩
            · have HX := Lib.hid (show RfRel p d a b g m0 m1 3 from Or.inr (Or.inr (Or.inr ⟨rfl, r0, r1, hf⟩)))
              clear hf hrel r0 r1
              rw [hgt] at t2
              rw [h0] at f2
              clear h0
              clear hgt
              go_wp2
              go_roundw
              case rel => exact ⟨3, rfl, HX, hmem⟩
              case measure => simp [intOf]
            · have HX := Lib.hid (insR_f2 (p := p) (i := ⟨op, d, a, b, cc, n⟩) (by rw [Hm1.out]; exact hf))
              clear hf hrel r0 r1
              rw [hgt] at t2
              clear hgt
              go_wp2
              go_ret
              exact ⟨ret_b HX.out.symm, HF.out⟩
          · have HR := Lib.hid (insR_rest (p := p) (i := ⟨op, d, a, b, cc, n⟩) HK.out HN.out (by rw [Hg.out]; exact r0) (by rw [Hm0.out]; exact r1) (by rw [Hm1.out]; exact r2))
            have HD := Lib.hid (fun h => field_in r0 (Hg.out.symm.trans h))
            have HA := Lib.hid (fun h => field_in r1 (Hm0.out.symm.trans (decide_eq_true h)))
            have HB := Lib.hid (fun h => field_in r2 (Hm1.out.symm.trans (decide_eq_true h)))
            obtain ⟨d0, d1, d2, d3, d4, d5⟩ := hmem.out.im.ci
            obtain ⟨c0, c1⟩ := hmem.out.im.cp
            clear r0 r1 r2 hrel f0 f1 f2 t0 t1 t2
            simp only at HR
            rcases jump_cases op with h8 | ⟨h8, h9⟩ | ⟨h8, h9⟩
            · have HX := Lib.hid (rest_jump HR.out (by simp only [beq_iff_eq] at *; omega))
              by_cases hc : 0 ≤ cc ∧ cc < p.code.length
              · have HY := Lib.hid (HX.out.1 hc)
                obtain ⟨h0, h1⟩ := hc
                clear HX
                go_wp2_with fail
                refine (refWidths_any R _ p ⟨op, d, a, b, cc, n⟩ _ (H.out.kept HF.out (fun _ _ h => h)) HK.out HD.out HA.out HB.out).mono ?_
                rintro e w1 ⟨rfl, f1⟩
                go_wp2
                go_ret
                exact ⟨ret_b HY.out.symm, HF.out.trans f1⟩
              · by_cases h0 : 0 ≤ cc
                · have h1 : (p.code.length : Int) ≤ cc := by omega
                  have HY := Lib.hid (HX.out.2 (Or.inr h1))
                  clear HX hc
                  go_wp2
                  go_ret
                  exact ⟨ret_b HY.out.symm, HF.out⟩
                · have h1 : cc < 0 := by omega
                  have HY := Lib.hid (HX.out.2 (Or.inl h1))
                  clear HX hc h0
                  go_wp2
                  go_ret
                  exact ⟨ret_b HY.out.symm, HF.out⟩
            · have HX := Lib.hid (rest_jump HR.out (by simp only [beq_iff_eq] at *; omega))
              by_cases hc : 0 ≤ cc ∧ cc < p.code.length
              · have HY := Lib.hid (HX.out.1 hc)
                obtain ⟨h0, h1⟩ := hc
                clear HX
                go_wp2_with fail
                refine (refWidths_any R _ p ⟨op, d, a, b, cc, n⟩ _ (H.out.kept HF.out (fun _ _ h => h)) HK.out HD.out HA.out HB.out).mono ?_
                rintro e w1 ⟨rfl, f1⟩
                go_wp2
                go_ret
                exact ⟨ret_b HY.out.symm, HF.out.trans f1⟩
              · by_cases h0 : 0 ≤ cc
                · have h1 : (p.code.length : Int) ≤ cc := by omega
                  have HY := Lib.hid (HX.out.2 (Or.inr h1))
                  clear HX hc
                  go_wp2
                  go_ret
                  exact ⟨ret_b HY.out.symm, HF.out⟩
                · have h1 : cc < 0 := by omega
                  have HY := Lib.hid (HX.out.2 (Or.inl h1))
                  clear HX hc h0
                  go_wp2
                  go_ret
                  exact ⟨ret_b HY.out.symm, HF.out⟩
            · have HX := Lib.hid (rest_nojump HR.out h8 h9)
              by_cases hc : cc = 0
              · have HY := Lib.hid (HX.out.1 hc)
                have hc0 : (cc != 0) = false := by simpa using hc
                clear HX hc
                go_wp2_with fail
                refine (refWidths_any R _ p ⟨op, d, a, b, cc, n⟩ _ (H.out.kept HF.out (fun _ _ h => h)) HK.out HD.out HA.out HB.out).mono ?_
                rintro e w1 ⟨rfl, f1⟩
                go_wp2
                go_ret
                exact ⟨ret_b HY.out.symm, HF.out.trans f1⟩
              · have HY := Lib.hid (HX.out.2 hc)
                have hc0 : (cc != 0) = true := by simpa using hc
                clear HX hc
                go_wp2
                go_ret
                exact ⟨ret_b HY.out.symm, HF.out⟩
end Go.Proofs.Ytodmkjeankbieab

/- The walk of the reference's May. -/
namespace Go.Proofs.Ytodmkjeankbieab
open Go.RowKit Go.Sort

def lenB (p : Pg) : Bool := decide (1 ≤ p.wide.length) && decide (p.wide.length ≤ 12) && decide (1 ≤ p.code.length) && decide (p.code.length ≤ 40)
theorem mayR_len {p : Pg} (h : lenB p = false) : mayR p = false := by unfold mayR lenB at *; rw [h]; rfl
theorem mayR_all {p : Pg} (h : lenB p = true) : mayR p = p.code.all (insR p) := by unfold mayR lenB at *; rw [h]; rfl

set_option maxHeartbeats 1000000 in
set_option maxRecDepth 100000 in
theorem refMay_any (R : Nat → Prop) (v : Value) (p : Pg) (w : World) (h : RdPg w R v p) :
    Calls Try.prog 20 #[v] w fun e w' => e = .returned (.bool (mayB p)) ∧ Fr w w' := by
  rw [mayB_eq]
  have H := Lib.hid h
  obtain ⟨vw, vc, rfl, ⟨A, c, rfl, hl, hr⟩, ⟨A', c', rfl, hl', hr', ho'⟩⟩ := h
  unfold maxLen at hl hl'
  clear hr ho'
  have HR := Lib.hid hr'
  clear hr'
  by_cases hlen : 1 ≤ p.wide.length ∧ p.wide.length ≤ 12 ∧ 1 ≤ p.code.length ∧ p.code.length ≤ 40
  · have HA := Lib.hid (mayR_all (p := p) (by unfold lenB; simp [hlen]))
    obtain ⟨l1, l2, l3, l4⟩ := hlen
    go_enter Try.func20, Try.ntmps20
    go_wp2
    go_loopw [3] (fun i wr => ∃ k : Nat, k ≤ p.code.length ∧ i = .int .i64 k ∧ Hid (allTo p insR k) ∧ Blk wr w.heap.size 25 #[.slice A p.wide.length c, .slice A' p.code.length c'] ∧ Fr w wr) (fun i _ => p.code.length - (intOf i).toNat)
    case atStart => exact ⟨0, by omega, rfl, allTo_0 p insR, Blk.new w _ _, (Kept.refl _ w).alloc _⟩
    case round =>
      obtain ⟨k, hk, rfl, hall, hblk, hfr⟩ := hrel
      have c0 := hblk.cell 0
      have c1 := hblk.cell 1
      simp only [List.getElem?_toArray, List.getElem?_cons_succ, List.getElem?_cons_zero] at c0 c1
      have hsz := hblk.lt
      have HB := Lib.hid hblk
      have HF := Lib.hid hfr
      clear hblk hfr
      by_cases hlt : k < p.code.length
      · have hx : p.code[k]? = some p.code[k] := List.getElem?_eq_getElem hlt
        obtain ⟨b, off, rfl, _, d0, d1, d2, d3, d4, d5⟩ := (HR.out.kept HF.out (fun _ _ h => h)).ins hx
        have HX := Lib.hid hx
        clear hx
        generalize p.code[k] = i at *
        have hb := cell_lt d0
        have hk0 : (0 : Int) ≤ (k : Int) := Int.natCast_nonneg _
        have hk1 : (k : Int) < (p.code.length : Int) := by omega
        have HI := Lib.hid (fun (d : Nat) (os : Array Obj) => refIns_any R _ p i (grow (redrawn wr d) os) (H.out.kept (HF.out.trans (kept_of_regrown (S := fun _ => False) (w := wr) d os)) (fun _ _ h => h)))
        have q0 := cell_regrown c0
        have q1 := cell_regrown c1
        have r0 := cell_regrown d0
        have r1 := cell_regrown d1
        have r2 := cell_regrown d2
        have r3 := cell_regrown d3
        have r4 := cell_regrown d4
        have r5 := cell_regrown d5
        cases hi : insR p i with
        | true =>
          have HN := Lib.hid (allTo_s hall.out HX.out hi)
          rw [hi] at HI
          clear hi
          go_wp2
          refine wp_region_quiet_below (by kernel_rfl) (by kernel_rfl) ?_
          repeat (quiet_step (refine Calls.regrown_of ((HI.out _ _).mono fun e w' h => ⟨h.1, h.2.below⟩)))
          refine wpQuiet_nil ?_
          intro _ hw2
          obtain ⟨pq, rfl⟩ := hw2
          go_wp2
          go_roundw
          case rel => exact ⟨k + 1, by omega, by go_num, HN, HB.out.kept (kept_of_regrown (S := fun _ => False) _ _) (fun h => h), HF.out.trans (kept_of_regrown _ _)⟩
          case measure => simp [intOf]; omega
        | false =>
          have HN : Hid (mayR p = false) := by show _ = _; rw [HA.out]; exact allTo_no (f := insR) HX.out hi
          rw [hi] at HI
          clear hi
          go_wp2
          refine wp_region_quiet_below (by kernel_rfl) (by kernel_rfl) ?_
          repeat (quiet_step (refine Calls.regrown_of ((HI.out _ _).mono fun e w' h => ⟨h.1, h.2.below⟩)))
          refine wpQuiet_nil ?_
          intro _ hw2
          obtain ⟨pq, rfl⟩ := hw2
          go_wp2
          go_ret
          exact ⟨ret_b HN.out.symm, HF.out.trans (kept_of_regrown _ _)⟩
      · obtain rfl : k = p.code.length := by omega
        have HN : Hid (mayR p = true) := by show _ = _; rw [HA.out]; exact allTo_all hall.out
        clear hall hk
        go_wp2
        go_ret
        exact ⟨ret_b HN.out.symm, HF.out⟩
  · have HN := Lib.hid (mayR_len (p := p) (by unfold lenB; rw [Bool.eq_false_iff]; intro h; simp at h; omega))
    go_enter Try.func20, Try.ntmps20
    go_wp2
    all_goals first
      | (exfalso; omega)
      | (go_ret; exact ⟨ret_b HN.out.symm, (Kept.refl _ w).alloc _⟩)
end Go.Proofs.Ytodmkjeankbieab

/- The walks of the reference of chapter 3: Wrong, Gives, Next. -/
namespace Go.Proofs.Ytodmkjeankbieab
open Go.RowKit Go.Sort

set_option maxHeartbeats 1000000 in
set_option maxRecDepth 100000 in
theorem refWrong3_any (R : Nat → Prop) (v : Value) (p : Pg) (A : Option Addr) (n c : Nat) (steps : Int) (w : World) (h : RdPg w R v p) (hn : n ≤ 9223372036854775807) :
    Calls Try.prog 16 #[v, .slice A n c, .int .i64 steps] w fun e w' => e = .returned (.int .i64 (wrongV p n steps)) ∧ Fr w w' := by
  have H := Lib.hid h
  obtain ⟨vw, vc, rfl, ⟨A1, c1, rfl, hl, hr⟩, ⟨A', c', rfl, hl', hr', ho'⟩⟩ := h
  clear hr hr' ho' hl hl'
  have HM := Lib.hid (fun w2 (hf : Fr w w2) => refMay_any R _ p w2 (H.out.kept hf (fun _ _ h => h)))
  have HF0 := Lib.hid (show Fr w (w.alloc (.cells #[.slice A1 p.wide.length c1, .slice A' p.code.length c'] 25)) from (Kept.refl _ w).alloc _)
  go_enter Try.func16, Try.ntmps16
  go_wp2_with fail
  cases hm : mayB p with
  | false =>
    rw [hm] at HM
    have HW : Hid (wrongV p n steps = 2) := by show _ = _; unfold wrongV; rw [if_pos hm]
    clear hm
    refine (HM.out _ HF0.out).mono ?_
    rintro e w2 ⟨rfl, f2⟩
    have HF := Lib.hid (HF0.out.trans f2)
    clear f2
    go_wp2
    go_ret
    exact ⟨ret_i HW.out.symm, HF.out⟩
  | true =>
    rw [hm] at HM
    have HW : Hid (wrongV p n steps = if 40 < n then 1 else if steps < 0 ∨ 3000 < steps then 3 else 0) := by show _ = _; unfold wrongV; rw [if_neg (by rw [hm]; decide)]
    clear hm
    refine (HM.out _ HF0.out).mono ?_
    rintro e w2 ⟨rfl, f2⟩
    have HF := Lib.hid (HF0.out.trans f2)
    clear f2
    go_wp2
    all_goals go_ret
    all_goals refine ⟨ret_i ?_, HF.out⟩
    all_goals rw [HW.out]
    all_goals first
      | (rw [if_pos (by omega)]; done)
      | (rw [if_neg (by omega), if_pos (by omega)]; done)
      | (rw [if_neg (by omega), if_neg (by omega)]; done)

set_option maxHeartbeats 1000000 in
set_option maxRecDepth 100000 in
theorem refGives3_any (i : In) (a b x : Int) (w : World) (hk : known i.op = true) (hg : gvs i.op = true) (ha : 0 ≤ a ∧ a < 18446744073709551616) (hb : 0 ≤ b ∧ b < 18446744073709551616) (h5 : i.op = 5 → a < 4294967296 ∧ b < 4294967296)
    (hin : i.n < 4294967296) (hx : 0 ≤ x ∧ x < 4294967296) :
    Calls Try.prog 45 #[i.val, .int .u64 a, .int .u64 b, .int .u32 x] w fun e w' => e = .returned (.int .u64 (giveV i a b x)) ∧ Fr w w' := by
  obtain ⟨op, d, a1, b1, cc, n⟩ := i
  unfold In.val
  simp only at *
  obtain ⟨a0, a1'⟩ := ha
  obtain ⟨b0, b1'⟩ := hb
  obtain ⟨x0, x1⟩ := hx
  have HF := Lib.hid (show Fr w (w.alloc (.cells #[.int .i64 op, .int .i64 d, .int .i64 a1, .int .i64 b1, .int .i64 cc, .int .u32 n] 45)) from (Kept.refl _ w).alloc _)
  have H5 := Lib.hid h5
  clear h5
  rcases known_cases hk with h | h | h | h | h | h | h | h | h | h | ⟨h1, h2⟩ | ⟨h1, h2⟩
  case inr.inr.inr.inr.inr.inr.inr.inr.inr.inr.inl =>
    have e : ∀ k : Int, k ≤ 20 → (op == k) = false := fun k hk => by rw [beq_eq_false_iff_ne]; omega
    have e1 := e 1 (by omega)
    have e2 := e 2 (by omega)
    have e3 := e 3 (by omega)
    have e5' := e 5 (by omega)
    have e6 := e 6 (by omega)
    have e7 := e 7 (by omega)
    clear e hk hg
    have hnr := narrowOp_range (op - 20) (a % 4294967296) (b % 4294967296) (by omega) (by omega)
    have HV : Hid (giveV ⟨op, d, a1, b1, cc, n⟩ a b x = narrowOp (op - 20) (a % 4294967296) (b % 4294967296)) := by
      show _ = _
      unfold giveV
      simp only
      rw [if_neg (by omega), if_neg (by omega), if_neg (by omega), if_neg (by omega), if_neg (by omega), if_neg (by omega), if_neg (by omega)]
    have HNr := Lib.hid (fun w => refNarrow_any (op - 20) (a % 4294967296) (b % 4294967296) (by omega) (by omega) (by omega) (by omega) w)
    generalize hq : narrowOp (op - 20) (a % 4294967296) (b % 4294967296) = q at *
    clear hq
    go_enter Try.func45, Try.ntmps45
    go_wp2_with (go_at_call 83; refine (HNr.out _).mono ?_; rintro e w' ⟨rfl, rfl⟩)
    go_ret
    refine ⟨ret_i ?_, HF.out⟩
    rw [HV.out]
  case inr.inr.inr.inr.inr.inr.inr.inr.inr.inr.inr =>
    have e : ∀ k : Int, k ≤ 40 → (op == k) = false := fun k hk => by rw [beq_eq_false_iff_ne]; omega
    have e1 := e 1 (by omega)
    have e2 := e 2 (by omega)
    have e3 := e 3 (by omega)
    have e5' := e 5 (by omega)
    have e6 := e 6 (by omega)
    have e7 := e 7 (by omega)
    clear e hk hg
    have HV : Hid (giveV ⟨op, d, a1, b1, cc, n⟩ a b x = wideOp (op - 40) a b) := by
      show _ = _
      unfold giveV
      simp only
      rw [if_neg (by omega), if_neg (by omega), if_neg (by omega), if_neg (by omega), if_neg (by omega), if_neg (by omega), if_pos (by omega)]
    have HNr := Lib.hid (fun w => refWide_any (op - 40) a b (by omega) (by omega) (by omega) (by omega) w)
    go_enter Try.func45, Try.ntmps45
    go_wp2_with (go_at_call 82; refine (HNr.out _).mono ?_; rintro e w' ⟨rfl, rfl⟩)
    go_ret
    exact ⟨ret_i HV.out.symm, HF.out⟩
  all_goals subst h
  all_goals first
    | (exfalso; revert hg; decide)
    | skip
  all_goals clear hk hg
  case inr.inr.inr.inr.inl =>
    obtain ⟨g1, g2⟩ := H5.out rfl
    go_enter Try.func45, Try.ntmps45
    go_wp2
    go_ret
    exact ⟨rfl, HF.out⟩
  all_goals
    go_enter Try.func45, Try.ntmps45
    go_wp2
    go_ret
    exact ⟨rfl, HF.out⟩

theorem stV_10 {len pc : Nat} {i : In} {a : Int} (h : i.op = 10) : pcV i pc a = pc + 1 ∧ stV len i pc a = 1 := by
  unfold stV pcV; rw [if_neg (by omega), if_pos h]; exact ⟨rfl, rfl⟩
end Go.Proofs.Ytodmkjeankbieab

/- The walks of the reference of chapter 3: Same, Next. -/
namespace Go.Proofs.Ytodmkjeankbieab
open Go.RowKit Go.Sort

theorem sh_ne {x y : Sh} (h : x.state ≠ y.state ∨ x.steps ≠ y.steps ∨ x.out.length ≠ y.out.length) : shEq x y = false := by
  unfold shEq
  apply decide_eq_false
  rintro ⟨h1, h2, h3⟩
  rcases h with h | h | h
  · exact h h1
  · exact h h2
  · exact h (by rw [h3])
theorem sh_end {x y : Sh} (h1 : x.state = y.state) (h2 : x.steps = y.steps) (h3 : x.out.length = y.out.length) (h : ∀ j, j < x.out.length → x.out[j]? = y.out[j]?) : shEq x y = true := by
  unfold shEq
  apply decide_eq_true
  refine ⟨h1, h2, List.ext_getElem? fun j => ?_⟩
  by_cases hj : j < x.out.length
  · exact h j hj
  · rw [List.getElem?_eq_none (by omega), List.getElem?_eq_none (by omega)]
theorem sh_no {x y : Sh} {j : Nat} (hj : x.out[j]? ≠ y.out[j]?) : shEq x y = false := by
  unfold shEq
  apply decide_eq_false
  rintro ⟨_, _, h3⟩
  exact hj (by rw [h3])

set_option maxHeartbeats 1000000 in
set_option maxRecDepth 100000 in
theorem refShSame_any (R R' : Nat → Prop) (v v' : Value) (x y : Sh) (w : World) (h : RdSh w R v x) (h' : RdSh w R' v' y) :
    Calls Try.prog 17 #[v, v'] w fun e w' => e = .returned (.bool (shEq x y)) ∧ Fr w w' := by
  obtain ⟨A, c, rfl, hl, hr⟩ := h
  obtain ⟨A', c', rfl, hl', hr'⟩ := h'
  have HR := Lib.hid hr
  have HR' := Lib.hid hr'
  clear hr hr'
  have HB0 := Lib.hid ((Blk.new w 28 #[.int .i64 (x.state : Int), .slice A x.out.length c, .int .i64 (x.steps : Int)]).alloc (.cells #[.int .i64 (y.state : Int), .slice A' y.out.length c', .int .i64 (y.steps : Int)] 28))
  have HB1 : Hid (Blk ((w.alloc (.cells #[.int .i64 (x.state : Int), .slice A x.out.length c, .int .i64 (x.steps : Int)] 28)).alloc (.cells #[.int .i64 (y.state : Int), .slice A' y.out.length c', .int .i64 (y.steps : Int)] 28)) (w.heap.size + 1) 28
      #[.int .i64 (y.state : Int), .slice A' y.out.length c', .int .i64 (y.steps : Int)]) := by
    have := Blk.new (w.alloc (.cells #[.int .i64 (x.state : Int), .slice A x.out.length c, .int .i64 (x.steps : Int)] 28)) 28 #[.int .i64 (y.state : Int), .slice A' y.out.length c', .int .i64 (y.steps : Int)]
    show Blk _ _ _ _
    simpa using this
  have HF : Hid (Fr w ((w.alloc (.cells #[.int .i64 (x.state : Int), .slice A x.out.length c, .int .i64 (x.steps : Int)] 28)).alloc (.cells #[.int .i64 (y.state : Int), .slice A' y.out.length c', .int .i64 (y.steps : Int)] 28))) := ((Kept.refl _ w).alloc _).alloc _
  by_cases h1 : x.state = y.state
  · by_cases h2 : x.steps = y.steps
    · by_cases h3 : x.out.length = y.out.length
      · obtain ⟨px, ix, ox, sx, tx⟩ := x
        obtain ⟨py, iy, oy, sy, ty⟩ := y
        simp only at h1 h2 h3
        subst h1; subst h2
        simp only at *
        have HE := Lib.hid (fun h => sh_end (x := ⟨px, ix, ox, sx, tx⟩) (y := ⟨py, iy, oy, sx, tx⟩) rfl rfl h3 h)
        have HN := Lib.hid (fun j hj => sh_no (x := ⟨px, ix, ox, sx, tx⟩) (y := ⟨py, iy, oy, sx, tx⟩) (j := j) hj)
        rw [← h3] at HB0 HB1 HF HR'
        rw [← h3]
        have H3 := Lib.hid h3
        clear h3 hl'
        go_enter Try.func17, Try.ntmps17
        go_wp2
        go_loopw [5] (fun i wr => ∃ j : Nat, i = .int .i64 j ∧ j ≤ ox.length ∧ Hid (∀ k, k < j → ox[k]? = oy[k]?) ∧ Hid (Blk wr w.heap.size 28 #[.int .i64 (tx : Int), .slice A ox.length c, .int .i64 (sx : Int)]) ∧
          Hid (Blk wr (w.heap.size + 1) 28 #[.int .i64 (tx : Int), .slice A' ox.length c', .int .i64 (sx : Int)]) ∧ Hid (Fr w wr)) (fun i _ => ox.length - (intOf i).toNat)
        case atStart => exact ⟨0, rfl, by omega, fun k hk => by omega, HB0, HB1, HF⟩
        case round =>
          obtain ⟨j, rfl, hj, heq, hb0, hb1, hfr⟩ := hrel
          have c0 := hb0.out.cell 1
          have c1 := hb1.out.cell 1
          simp only [List.getElem?_toArray, List.getElem?_cons_succ, List.getElem?_cons_zero] at c0 c1
          by_cases hlt : j < ox.length
          · have hlt' : j < oy.length := by have := H3.out; omega
            obtain ⟨b, off, rfl, _, hc⟩ := (HR.out.kept hfr.out (fun _ _ h => h)).2 (by omega)
            obtain ⟨b', off', rfl, _, hc'⟩ := (HR'.out.kept hfr.out (fun _ _ h => h)).2 (by omega)
            have hx : ox[j]? = some ox[j] := List.getElem?_eq_getElem hlt
            have hy : oy[j]? = some oy[j] := List.getElem?_eq_getElem hlt'
            have d0 := hc j (.int .u32 ox[j]) (by unfold u32s; rw [List.getElem?_map, hx]; rfl)
            have d1 := hc' j (.int .u32 oy[j]) (by unfold u32s; rw [List.getElem?_map, hy]; rfl)
            have hlj : (j : Int) < (ox.length : Int) := by omega
            have hj0 : (0 : Int) ≤ (j : Int) := Int.natCast_nonneg _
            clear hc hc'
            by_cases hxy : ox[j] = oy[j]
            · have hne : (ox[j] != oy[j]) = false := by simp [hxy]
              have HS : Hid (∀ k, k < j + 1 → ox[k]? = oy[k]?) := by
                show ∀ k, _
                intro k hk
                by_cases e : k = j
                · subst e; rw [hx, hy, hxy]
                · exact heq.out k (by omega)
              clear hxy hx hy heq
              generalize ox[j] = a at *
              generalize oy[j] = b at *
              go_wp2
              go_quiet (fail)
              go_wp2
              go_roundw
              case rel => exact ⟨j + 1, by go_num, by omega, HS, hb0, hb1, Lib.hid (hfr.out.drewN nq)⟩
              case measure => simp [intOf]; omega
            · have hne : (ox[j] != oy[j]) = true := by simp [hxy]
              have HS := Lib.hid (HN.out j (by rw [hx, hy]; simp [hxy]))
              clear hxy hx hy heq HN HE
              generalize ox[j] = a at *
              generalize oy[j] = b at *
              go_wp2
              go_quiet (fail)
              go_wp2
              go_ret
              exact ⟨ret_b HS.out.symm, hfr.out.drewN nq⟩
          · have HS := Lib.hid (HE.out (fun k hk => heq.out k (by omega)))
            clear heq HN HE
            go_wp2
            go_ret
            exact ⟨ret_b HS.out.symm, hfr.out⟩
      · have HE := Lib.hid (sh_ne (x := x) (y := y) (Or.inr (Or.inr h3)))
        rw [h1, h2] at HF ⊢
        obtain ⟨px, ix, ox, sx, tx⟩ := x
        obtain ⟨py, iy, oy, sy, ty⟩ := y
        simp only at *
        clear HB0 HB1 h1 h2
        have h3' : ¬ (ox.length : Int) = (oy.length : Int) := by omega
        clear h3
        go_enter Try.func17, Try.ntmps17
        go_wp2
        go_ret
        exact ⟨ret_b HE.out.symm, HF.out⟩
    · have HE := Lib.hid (sh_ne (x := x) (y := y) (Or.inr (Or.inl h2)))
      rw [h1] at HF ⊢
      obtain ⟨px, ix, ox, sx, tx⟩ := x
      obtain ⟨py, iy, oy, sy, ty⟩ := y
      simp only at *
      clear HB0 HB1 h1
      have h3' : ¬ (sx : Int) = (sy : Int) := by omega
      clear h2
      go_enter Try.func17, Try.ntmps17
      go_wp2
      go_ret
      exact ⟨ret_b HE.out.symm, HF.out⟩
  · have HE := Lib.hid (sh_ne (x := x) (y := y) (Or.inl h1))
    obtain ⟨px, ix, ox, sx, tx⟩ := x
    obtain ⟨py, iy, oy, sy, ty⟩ := y
    simp only at *
    clear HB0 HB1
    have h3' : ¬ (tx : Int) = (ty : Int) := by omega
    clear h1
    go_enter Try.func17, Try.ntmps17
    go_wp2
    go_ret
    exact ⟨ret_b HE.out.symm, HF.out⟩

theorem next_pc {i : In} {pc : Nat} {a : Int} (hc : i.op = 8 ∨ i.op = 9 → 0 ≤ i.c) : ((pcV i pc a : Nat) : Int) = if i.op = 8 ∨ i.op = 9 ∧ a ≠ 0 then i.c else (pc : Int) + 1 := by
  unfold pcV
  split
  · rename_i h
    have := hc (by rcases h with h | h; exact Or.inl h; exact Or.inr h.1)
    omega
  · omega

set_option maxHeartbeats 1000000 in
set_option maxRecDepth 100000 in
theorem refNext_any (R : Nat → Prop) (v : Value) (p : Pg) (k : Nat) (a : Int) (w : World) (h : RdPg w R v p) (hk : k < p.code.length) (hlen : p.code.length ≤ 40) (hc : (inAt p.code k).op = 8 ∨ (inAt p.code k).op = 9 → 0 ≤ (inAt p.code k).c ∧ (inAt p.code k).c ≤ 1000) :
    Calls Try.prog 46 #[v, .int .i64 (k : Int), .int .u64 a] w fun e w' => e = .returned (.tuple #[.int .i64 (pcV (inAt p.code k) k a : Nat), .int .i64 (stV p.code.length (inAt p.code k) k a : Nat)]) ∧ Fr w w' := by
  obtain ⟨vw, vc, rfl, ⟨A1, c1, rfl, hl1, hr1⟩, ⟨A, c, rfl, hl2, hr2, ho2⟩⟩ := h
  have hx : p.code[k]? = some (inAt p.code k) := by rw [inAt_get hk]; exact List.getElem?_eq_getElem hk
  obtain ⟨b, off, rfl, hbB, d0, d1, d2, d3, d4, d5⟩ := hr2.ins hx
  have hpc := next_pc (i := inAt p.code k) (pc := k) (a := a) (fun h => (hc h).1)
  have hst : stV p.code.length (inAt p.code k) k a = if (inAt p.code k).op = 10 then 1 else if (p.code.length : Int) ≤ ((pcV (inAt p.code k) k a : Nat) : Int) then 2 else 0 := by
    unfold stV
    split
    · rfl
    · by_cases hl : p.code.length ≤ pcV (inAt p.code k) k a
      · rw [if_pos hl, if_pos (by omega)]
      · rw [if_neg hl, if_neg (by omega)]
  clear hr1 hr2 ho2 hx hl1
  generalize stV p.code.length (inAt p.code k) k a = st at *
  generalize pcV (inAt p.code k) k a = pc at *
  generalize inAt p.code k = i at *
  obtain ⟨op, d, a1, b1, cc, n⟩ := i
  simp only at *
  have zb := cell_lt d0
  have hk1 : (k : Int) < (p.code.length : Int) := by omega
  have hk0 : (0 : Int) ≤ (k : Int) := Int.natCast_nonneg _
  have HF := Lib.hid (show Fr w ((w.alloc (.cells #[.slice A1 p.wide.length c1, .slice (some ⟨b, off, none⟩) p.code.length c] 25)).alloc (.cells #[.int .i64 op, .int .i64 d, .int .i64 a1, .int .i64 b1, .int .i64 cc, .int .u32 n] 45)) from ((Kept.refl _ w).alloc _).alloc _)
  unfold maxLen at hl2
  by_cases h10 : op = 10
  · subst h10
    rw [if_neg (by simp)] at hpc
    rw [if_pos rfl] at hst
    rw [hpc, hst]
    clear hpc hst hc
    go_enter Try.func46, Try.ntmps46
    go_wp2
    go_ret2
    exact ⟨rfl, HF.out⟩
  · have e10 : (op == 10) = false := by simpa using h10
    rw [if_neg h10] at hst
    by_cases h8 : op = 8
    · subst h8
      obtain ⟨c0, c9⟩ := hc (Or.inl rfl)
      rw [if_pos (Or.inl rfl)] at hpc
      rw [hpc] at hst ⊢
      rw [hst]
      clear hpc hst hc h10
      by_cases hl : (p.code.length : Int) ≤ cc
      · rw [if_pos hl]
        go_enter Try.func46, Try.ntmps46
        go_wp2
        go_ret2
        exact ⟨rfl, HF.out⟩
      · rw [if_neg hl]
        go_enter Try.func46, Try.ntmps46
        go_wp2
        go_ret2
        exact ⟨rfl, HF.out⟩
    · have e8 : (op == 8) = false := by simpa using h8
      by_cases h9 : op = 9
      · subst h9
        obtain ⟨c0, c9⟩ := hc (Or.inr rfl)
        by_cases ha : a = 0
        · subst ha
          rw [if_neg (by simp)] at hpc
          rw [hpc] at hst ⊢
          rw [hst]
          clear hpc hst hc h10 h8
          by_cases hl : (p.code.length : Int) ≤ (k : Int) + 1
          · rw [if_pos hl]
            go_enter Try.func46, Try.ntmps46
            go_wp2
            go_ret2
            exact ⟨rfl, HF.out⟩
          · rw [if_neg hl]
            go_enter Try.func46, Try.ntmps46
            go_wp2
            go_ret2
            exact ⟨rfl, HF.out⟩
        · have ea : (a != 0) = true := by simpa using ha
          rw [if_pos (Or.inr ⟨rfl, ha⟩)] at hpc
          rw [hpc] at hst ⊢
          rw [hst]
          clear hpc hst hc h10 h8 ha
          by_cases hl : (p.code.length : Int) ≤ cc
          · rw [if_pos hl]
            go_enter Try.func46, Try.ntmps46
            go_wp2
            go_ret2
            exact ⟨rfl, HF.out⟩
          · rw [if_neg hl]
            go_enter Try.func46, Try.ntmps46
            go_wp2
            go_ret2
            exact ⟨rfl, HF.out⟩
      · have e9 : (op == 9) = false := by simpa using h9
        rw [if_neg (by omega)] at hpc
        rw [hpc] at hst ⊢
        rw [hst]
        clear hpc hst hc h10 h8 h9
        by_cases hl : (p.code.length : Int) ≤ (k : Int) + 1
        · rw [if_pos hl]
          go_enter Try.func46, Try.ntmps46
          go_wp2
          go_ret2
          exact ⟨rfl, HF.out⟩
        · rw [if_neg hl]
          go_enter Try.func46, Try.ntmps46
          go_wp2
          go_ret2
          exact ⟨rfl, HF.out⟩
end Go.Proofs.Ytodmkjeankbieab
