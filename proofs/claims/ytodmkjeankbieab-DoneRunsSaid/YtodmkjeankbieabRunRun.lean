/- The walk of run.Run. -/
import Derived.Test.YtodmkjeankbieabGo
import Derived.Test.YtodmkjeankbieabRun1
namespace Go.Proofs.Ytodmkjeankbieab
open Go.RowKit Go.Sort

theorem Reads.old {w : World} {R : Nat → Prop} {size n : Nat} {A : Option Addr} {xs : List Value} (h : Reads w R size A n xs) (hs : 0 < size) : Reads w (fun b => b < w.heap.size) size A n xs := by
  refine ⟨h.1, fun hn => ?_⟩
  obtain ⟨b, off, e, _, hc⟩ := h.2 hn
  have hl : 0 < xs.length := by rw [h.1]; exact Nat.mul_pos hn hs
  exact ⟨b, off, e, cell_lt (hc 0 xs[0] (List.getElem?_eq_getElem hl)), hc⟩

/-- a value of api.Shown reads as x -/
def RdSh (w : World) (R : Nat → Prop) (v : Value) (x : Sh) : Prop :=
  ∃ A c, v = .agg #[.int .i64 (x.state : Int), .slice A x.out.length c, .int .i64 (x.steps : Int)] ∧ x.out.length ≤ 100000 ∧ Reads w R 1 A x.out.length (u32s x.out)
theorem RdSh.kept {w w' : World} {R S : Nat → Prop} {v : Value} {x : Sh} (h : RdSh w R v x) (hk : Kept S w w') (hs : ∀ b, R b → ¬ S b) : RdSh w' R v x :=
  let ⟨A, c, e, hl, hr⟩ := h
  ⟨A, c, e, hl, hr.kept hk hs⟩
theorem RdSh.zero (w : World) (R : Nat → Prop) : RdSh w R (.agg #[.int .i64 0, .slice none 0 0, .int .i64 0]) (sh0 []) := ⟨none, 0, rfl, by simp [sh0], Reads.none_⟩
/-- what run.Run answers -/
def RunPost (w : World) (wr : Int) (x : Sh) (e : Ending) (w' : World) : Prop :=
  Fr w w' ∧ ((wr ≠ 0 ∧ e = .returned (.tuple #[.agg #[.int .i64 0, .slice none 0 0, .int .i64 0], .int .i64 wr])) ∨ (wr = 0 ∧ ∃ v, e = .returned (.tuple #[v, .int .i64 0]) ∧ RdSh w' (fun b => w.heap.size ≤ b) v x))

/-- the world with the three new variables -/
def runW (w2 : World) (ins : Value) : World :=
  ((w2.alloc (.cells #[.int .u64 0, .int .u64 0, .int .u64 0, .int .u64 0, .int .u64 0, .int .u64 0, .int .u64 0, .int .u64 0, .int .u64 0, .int .u64 0, .int .u64 0, .int .u64 0] 82)).alloc
    (.cells #[.int .i64 0, .slice none 0 0, .int .i64 0, .int .i64 0, ins] 85)).alloc (.cells #[.pointer (some ⟨w2.heap.size + 1, 0, none⟩)] 83)

theorem wrong_0 {p : Pg} {n : Nat} {steps : Int} (h : wrongV p n steps = 0) : mayB p = true ∧ n ≤ 40 ∧ 0 ≤ steps ∧ steps ≤ 3000 := by
  unfold wrongV at h
  cases hm : mayB p with
  | false => rw [hm] at h; simp at h
  | true =>
    rw [hm] at h
    simp only [Bool.true_eq_false, if_false] at h
    split at h
    · cases h
    · split at h
      · cases h
      · exact ⟨rfl, by omega, by omega, by omega⟩

/-- what holds while the program runs -/
def RunI (w0 : World) (bs bp bm bt g : Nat) (p : Pg) (A1 : Option Addr) (c1 : Nat) (A : Option Addr) (c : Nat) (w : World) (x : Sh × (Int → Int)) : Prop :=
  (∃ vo, Mc w g w0.heap.size (unF x.1) vo) ∧ Clo w bp bm bt g w0.heap.size p A1 c1 A c x.2 ∧ Temps p x.2 ∧ Fr w0 w ∧ Blk w bs 28 #[.int .i64 0, .slice none 0 0, .int .i64 0]

theorem RunI.step {w0 w : World} {bs bp bm bt g n : Nat} {p : Pg} {A1 : Option Addr} {c1 : Nat} {A : Option Addr} {c : Nat} {ins : List Int} {x : Sh × (Int → Int)} (h : RunI w0 bs bp bm bt g p A1 c1 A c w x) (hg : w0.heap.size ≤ g) (hbt : w0.heap.size ≤ bt)
    (hm : mayB p = true) (ho : ∀ m ∈ p.code, m.ok) (hi : ∀ n ∈ ins, 0 ≤ n ∧ n < 4294967296) (hn : n ≤ 100000) (hat : At p.code (mTemps p) (sh0 ins, fun _ => 0) n x) (h0 : x.1.state = 0) :
    Calls Try.prog 41 (#[.int .i64 (x.1.pc : Int)] ++ #[.pointer (some ⟨bp, 0, none⟩), .pointer (some ⟨bm, 0, none⟩), .pointer (some ⟨bt, 0, none⟩)]) w fun e w' => e = .returned (.tuple #[]) ∧ RunI w0 bs bp bm bt g p A1 c1 A c w' (mStep p.code (mTemps p) x) := by
  obtain ⟨⟨vo, hM⟩, hC, hT, hF, hS⟩ := h
  have hpc := hat.st0 h0
  have hin : ∀ y ∈ x.1.ins, 0 ≤ y ∧ y < 4294967296 := fun y hy => hi y (hat.ins y hy)
  have hout := hat.out rfl
  have hle := hat.le
  refine (Run1_any bp bm bt g w0.heap.size p A1 c1 A c x.2 (unF x.1) vo w hC hM hg hbt hm (ho _ (inAt_mem hpc)).2.2.2.2.2 hpc (fun t => ⟨hT.ge t, hT.lt t⟩) hT.nar (by show x.1.steps ≤ 100000; omega) (by show x.1.out.length ≤ 100000; omega) hin).mono ?_
  rintro e w' ⟨rfl, ⟨vo', hM'⟩, hC', hk⟩
  refine ⟨rfl, ⟨vo', ?_⟩, hC', hT.step hm (fun i hi => (ho i hi).2.2.2.2.2) hpc hin, ?_, ?_⟩
  · have := raw_step (code := p.code) h0 (x.2 (inAt p.code x.1.pc).a)
    show Mc w' g w0.heap.size (unF (shStep p.code x.1 (x.2 (inAt p.code x.1.pc).a))) vo'
    rw [← this]
    exact hM'
  · refine hF.then hk fun i hi hs => ?_
    rcases hs with e | e | e
    · omega
    · omega
    · have := (own_lt hM.ow e).1; omega
  · refine hS.kept hk ?_
    obtain ⟨_, _, hg, _⟩ := hM.ex
    rintro (e | e | e)
    · exact hS.ne_ hC.tb (by decide) e
    · exact hS.ne_ hg (by decide) e
    · exact own_blk_ne hM.ow hS (by decide) e

set_option maxHeartbeats 4000000 in
set_option maxRecDepth 100000 in
theorem run_any (R : Nat → Prop) (v : Value) (p : Pg) (Ai : Option Addr) (ins : List Int) (ci : Nat) (steps : Int) (w : World) (h : RdPg w R v p) (hl : ins.length ≤ ci) (hc : ci ≤ maxLen) (hr : Reads w R 1 Ai ins.length (u32s ins)) (hi : ∀ n ∈ ins, 0 ≤ n ∧ n < 4294967296) :
    Calls Try.prog 15 #[v, .slice Ai ins.length ci, .int .i64 steps] w (RunPost w (wrongV p ins.length steps) (runV p ins steps.toNat)) := by
  have H := Lib.hid h
  obtain ⟨vw, vc, rfl, ⟨A1, c1, rfl, hl1, hr1⟩, ⟨A, c, rfl, hl2, hr2, ho2⟩⟩ := h
  have HC := Lib.hid (hr2.old (by decide))
  have HO := Lib.hid ho2
  have HINS := Lib.hid (hr.old (by decide))
  have HI := Lib.hid hi
  unfold maxLen at hl1 hl2 hc
  clear hr1 hr2 ho2 hr hi
  have HW := Lib.hid (fun w2 (hf : Fr w w2) => Wrong_any R _ p Ai ins.length ci steps w2 (H.out.kept hf (fun _ _ h => h)) (by omega))
  go_enter Try.func15, Try.ntmps15
  go_wp2_with fail
  have HF0 := Lib.hid (show Fr w ((w.alloc (.cells #[.slice A1 p.wide.length c1, .slice A p.code.length c] 25)).alloc (.cells #[.int .i64 0, .slice none 0 0, .int .i64 0] 28)) from ((Kept.refl _ w).alloc _).alloc _)
  have HB0 := Lib.hid ((Blk.new w 25 #[.slice A1 p.wide.length c1, .slice A p.code.length c]).alloc (.cells #[.int .i64 0, .slice none 0 0, .int .i64 0] 28))
  have HB1 : Hid (Blk ((w.alloc (.cells #[.slice A1 p.wide.length c1, .slice A p.code.length c] 25)).alloc (.cells #[.int .i64 0, .slice none 0 0, .int .i64 0] 28)) (w.heap.size + 1) 28 #[.int .i64 0, .slice none 0 0, .int .i64 0]) := by
    have := Blk.new (w.alloc (.cells #[.slice A1 p.wide.length c1, .slice A p.code.length c] 25)) 28 #[.int .i64 0, .slice none 0 0, .int .i64 0]
    show Blk _ _ _ _
    simpa using this
  refine (HW.out _ HF0.out).mono ?_
  rintro e w2 ⟨rfl, f2⟩
  have HF2 := Lib.hid (HF0.out.trans f2)
  have hb0 := HB0.out.kept f2 (fun h => h)
  have hb1 := HB1.out.kept f2 (fun h => h)
  clear HF0 HB0 HB1 HW f2
  by_cases hw : wrongV p ins.length steps = 0
  · have HZ := Lib.hid hw
    obtain ⟨hm, hn40, hs0, hs1⟩ := wrong_0 hw
    obtain ⟨hw1, hw2, hc1, hc2⟩ := mayB_len hm
    rw [hw]
    obtain ⟨n, rfl⟩ : ∃ n : Nat, steps = (n : Int) := ⟨steps.toNat, by omega⟩
    have c0 := hb0.cell 1
    simp only [List.getElem?_toArray, List.getElem?_cons_succ, List.getElem?_cons_zero] at c0
    have z0 := hb0.lt
    have z1 := hb1.lt
    have HB0 := Lib.hid hb0
    have HB1 := Lib.hid hb1
    have hB0 : Blk (runW w2 (.slice Ai ins.length ci)) w.heap.size 25 #[.slice A1 p.wide.length c1, .slice A p.code.length c] := ((hb0.alloc _).alloc _).alloc _
    have hB1 : Blk (runW w2 (.slice Ai ins.length ci)) (w.heap.size + 1) 28 #[.int .i64 0, .slice none 0 0, .int .i64 0] := ((hb1.alloc _).alloc _).alloc _
    have hT : Blk (runW w2 (.slice Ai ins.length ci)) w2.heap.size 82 (mkU 12 fun _ => 0) := (((Blk.new w2 _ _).alloc _).alloc _)
    have hM : Blk (runW w2 (.slice Ai ins.length ci)) (w2.heap.size + 1) 85 #[.int .i64 0, .slice none 0 0, .int .i64 0, .int .i64 0, .slice Ai ins.length ci] := by
      have := (Blk.new (w2.alloc (.cells #[.int .u64 0, .int .u64 0, .int .u64 0, .int .u64 0, .int .u64 0, .int .u64 0, .int .u64 0, .int .u64 0, .int .u64 0, .int .u64 0, .int .u64 0, .int .u64 0] 82)) 85 #[.int .i64 0, .slice none 0 0, .int .i64 0, .int .i64 0, .slice Ai ins.length ci]).alloc (.cells #[.pointer (some ⟨w2.heap.size + 1, 0, none⟩)] 83)
      simpa [runW] using this
    have hP : Blk (runW w2 (.slice Ai ins.length ci)) (w2.heap.size + 2) 83 #[.pointer (some ⟨w2.heap.size + 1, 0, none⟩)] := by
      have := Blk.new ((w2.alloc (.cells #[.int .u64 0, .int .u64 0, .int .u64 0, .int .u64 0, .int .u64 0, .int .u64 0, .int .u64 0, .int .u64 0, .int .u64 0, .int .u64 0, .int .u64 0, .int .u64 0] 82)).alloc
        (.cells #[.int .i64 0, .slice none 0 0, .int .i64 0, .int .i64 0, .slice Ai ins.length ci] 85)) 83 #[.pointer (some ⟨w2.heap.size + 1, 0, none⟩)]
      simpa [runW] using this
    have hF3 : Fr w (runW w2 (.slice Ai ins.length ci)) := (((HF2.out.alloc _).alloc _).alloc _)
    have c0 := hB0.cell 1
    simp only [List.getElem?_toArray, List.getElem?_cons_succ, List.getElem?_cons_zero] at c0
    unfold runW at c0
    have hmf : ∀ (fn : Fn) (first cap : Array Value) (w : World), (Instr.makeFunc fn first cap).run Try.prog w = .ok (.func fn first cap) w := fun _ _ _ _ => rfl
    clear hb0 hb1 hw
    have H3 := Lib.hid (And.intro hB0 (And.intro hB1 (And.intro hT (And.intro hM (And.intro hP hF3)))))
    clear hB0 hB1 hT hM hP hF3
    go_wp2_with fail
    obtain ⟨hB0, hB1, hT, hM, hP, hF3⟩ := H3.out
    refine (Go_any 41 (fun _ _ => by kernel_rfl) #[.pointer (some ⟨w.heap.size, 0, none⟩), .pointer (some ⟨w2.heap.size + 1 + 1, 0, none⟩), .pointer (some ⟨w2.heap.size, 0, none⟩)] (w2.heap.size + 1) w.heap.size n c A p.code (mTemps p) (sh0 ins, fun _ => 0)
      (RunI w (w.heap.size + 1) w.heap.size (w2.heap.size + 2) w2.heap.size (w2.heap.size + 1) p A1 c1 A c) (fun _ _ h => h.1)
      (fun wr x h ha h0 _ => h.step (by have := HF2.out.size; omega) HF2.out.size hm HO.out HI.out (by omega) ha h0) (runW w2 (.slice Ai ins.length ci)) (by have := HF2.out.size; omega) (by omega) (by omega)
      ⟨⟨.slice none 0 0, ⟨rfl, Or.inl ⟨rfl, rfl⟩⟩, Ai, ci, hM, hl, hc, HINS.out.kept hF3 (fun _ _ h => h)⟩, ⟨hB0, hP, hT, HC.out.kept hF3 (fun _ _ h => h)⟩, Temps.zero p, hF3, hB1⟩ (At.start _ ins hc1)).mono ?_
    rintro e w3 ⟨rfl, hpost⟩
    obtain ⟨w4, vo, ⟨_, hC4, _, hF4, hB4⟩, hM3, hk⟩ := hpost
    have hout : (runV p ins n).out.length ≤ n := by
      have := mRun_outlen (code := p.code) (M := mTemps p) n (sh0 ins, fun _ => 0)
      simpa [sh0, runV] using this
    have hM3' : Mc w3 (w2.heap.size + 1) w.heap.size (runV p ins n) vo := hM3
    clear hM3 hB0 hB1 hT hM hP hF3 H3 c0
    obtain ⟨how, A5, c5, hg5, _, _, _⟩ := id hM3'
    have hm3 := hC4.mb.kept hk (by omega)
    have hs3 := hB4.kept hk (by omega)
    have hF5 := Lib.hid (hF4.then hk (fun i hi e => by have := HF2.out.size; omega))
    have m0 := hm3.cell 0
    have q0 := hg5.cell 0
    have q1 := hg5.cell 1
    have q2 := hg5.cell 2
    have s0 := hs3.cell 0
    have s1 := hs3.cell 1
    have s2 := hs3.cell 2
    have y0 := hs3.frozen 0
    have y1 := hs3.frozen 1
    have y2 := hs3.frozen 2
    have z2 := hs3.lt
    simp only [List.getElem?_toArray, List.getElem?_cons_succ, List.getElem?_cons_zero] at m0 q0 q1 q2 s0 s1 s2
    have HX := Lib.hid how
    have HS3 := Lib.hid hs3
    obtain ⟨A9, c9, rfl, _, hr9⟩ := own_reads how
    have HR9 := Lib.hid hr9
    clear hM3' how hg5 hm3 hs3 hk hC4 hF4 hB4 hr9
    go_wp2
    refine bodyPost_ret (v := .tuple #[.agg #[.int .i64 ((runV p ins n).state : Int), .slice A9 (runV p ins n).out.length c9, .int .i64 ((runV p ins n).steps : Int)], .int .i64 0]) ?_ rfl ?_
    · simp [results, Try.results15, go_sem, s0, s1, s2]
    · have hK : Kept (fun b => b = w.heap.size + 1) w3 (((w3.setCell ⟨w.heap.size + 1, 0, none⟩ (.int .i64 ((runV p ins n).state : Int))).setCell ⟨w.heap.size + 1, 1, none⟩ (.slice A9 (runV p ins n).out.length c9)).setCell ⟨w.heap.size + 1, 2, none⟩ (.int .i64 ((runV p ins n).steps : Int))) :=
        (((Kept.refl (fun b => b = w.heap.size + 1) w3).setCell (p := ⟨w.heap.size + 1, 0, none⟩) (fun _ => rfl) _).setCell (p := ⟨w.heap.size + 1, 1, none⟩) (fun _ => rfl) _).setCell (p := ⟨w.heap.size + 1, 2, none⟩) (fun _ => rfl) _
      refine ⟨((hF5.out.setCell (fun e => by simp only at e; omega) _).setCell (fun e => by simp only at e; omega) _).setCell (fun e => by simp only at e; omega) _, Or.inr ⟨HZ.out, _, rfl, A9, c9, rfl, by show (runV p ins n).out.length ≤ 100000; omega, ?_⟩⟩
      exact (HR9.out.kept hK (fun b hb e => own_blk_ne HX.out HS3.out (by decide) (e ▸ hb.2))).more (fun b hb => hb.1)
  · have hne : (wrongV p ins.length steps != 0) = true := by simpa using hw
    have HZ := Lib.hid hw
    have q0 := hb1.cell 0
    have q1 := hb1.cell 1
    have q2 := hb1.cell 2
    simp only [List.getElem?_toArray, List.getElem?_cons_succ, List.getElem?_cons_zero] at q0 q1 q2
    have y0 := hb1.frozen 0
    have y1 := hb1.frozen 1
    have y2 := hb1.frozen 2
    have z1 := hb1.lt
    have HB1 := Lib.hid hb1
    clear hw hb1 hb0
    generalize wrongV p ins.length steps = wr at *
    go_wp2
    refine bodyPost_ret (v := .tuple #[.agg #[.int .i64 0, .slice none 0 0, .int .i64 0], .int .i64 wr]) ?_ rfl ?_
    · simp [results, Try.results15, go_sem, q0, q1, q2]
    · exact ⟨((HF2.out.setCell (fun e => by simp only at e; omega) _).setCell (fun e => by simp only at e; omega) _).setCell (fun e => by simp only at e; omega) _, Or.inl ⟨HZ.out, rfl⟩⟩
end Go.Proofs.Ytodmkjeankbieab
