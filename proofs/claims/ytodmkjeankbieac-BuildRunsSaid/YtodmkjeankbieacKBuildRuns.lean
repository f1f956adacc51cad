/-
  BuildRuns: by the program's own runs: for every two targets, any ins and steps: in the places that are made of either it shows the same, and what it shows without. No condition.
-/
import Derived.Test.YtodmkjeankbieacKBuildRunsk2
import Derived.Test.YtodmkjeankbieacKBuildRunsk3
import Derived.Test.YtodmkjeankbieacKBuildRunsk4
import Derived.Test.YtodmkjeankbieacKBuildRunsk6
import Derived.Test.YtodmkjeankbieacKBuildRunsk19
namespace Go.Proofs.Ytodmkjeankbieac

/-- a program and two targets, boxed -/
structure Q3T (w W : World) (c0 c1 c2 : Array Value) : Prop where
  b0 : Blk W w.heap.size 25 c0
  b1 : Blk W (w.heap.size + 1) 27 c1
  b2 : Blk W (w.heap.size + 2) 27 c2
  fr : Fr w W
theorem Q3T.keep {w W W2 : World} {c0 c1 c2 : Array Value} (h : Q3T w W c0 c1 c2) (hk : Fr W W2) : Q3T w W2 c0 c1 c2 :=
  ⟨h.b0.kept hk (fun h => h), h.b1.kept hk (fun h => h), h.b2.kept hk (fun h => h), h.fr.trans hk⟩
theorem Q3T.start (w : World) (c0 c1 c2 : Array Value) : Q3T w (((w.alloc (.cells c0 25)).alloc (.cells c1 27)).alloc (.cells c2 27)) c0 c1 c2 := by
  refine ⟨((Blk.new w _ _).alloc _).alloc _, ?_, ?_, (((Kept.refl _ w).alloc _).alloc _).alloc _⟩
  · have := (Blk.new (w.alloc (.cells c0 25)) 27 c1).alloc (.cells c2 27)
    simpa using this
  · have := Blk.new ((w.alloc (.cells c0 25)).alloc (.cells c1 27)) 27 c2
    simpa using this
theorem BuildPost.any {w w' : World} {p : Pg} {sg : Int} {e : Ending} (h : BuildPost w p sg e w') : ∃ sl A n c ec, e = .returned (.tuple #[.agg #[.int .i64 sl, .slice A n c], .int .i64 ec]) ∧ Fr w w' ∧
    (ec = 2 ∨ (ec = 0 ∧ mayB p = true ∧ tgB sg = true ∧ n = p.code.length ∧ RdPd w' (fun _ => True) (.agg #[.int .i64 sl, .slice A n c]) (buildF p sg))) := by
  obtain ⟨f, ⟨_, rfl⟩ | ⟨h1, h2, A, c, rfl, h3⟩⟩ := h
  · exact ⟨0, none, 0, 0, 2, rfl, f, Or.inl rfl⟩
  · exact ⟨_, A, _, c, 0, rfl, f, Or.inr ⟨rfl, h1, h2, rfl, h3.more (fun _ _ => trivial)⟩⟩
theorem RunPost.any {w w' : World} {wr : Int} {x : Sh} {e : Ending} (h : RunPost w wr x e w') : ∃ st A n c sp, e = .returned (.tuple #[.agg #[.int .i64 st, .slice A n c, .int .i64 sp], .int .i64 wr]) ∧ Fr w w' ∧
    (wr ≠ 0 ∨ (wr = 0 ∧ n = x.out.length ∧ RdSh w' (fun _ => True) (.agg #[.int .i64 st, .slice A n c, .int .i64 sp]) x)) := by
  obtain ⟨f, ⟨h1, rfl⟩ | ⟨h1, v, rfl, h3⟩⟩ := h
  · exact ⟨0, none, 0, 0, 0, rfl, f, Or.inl h1⟩
  · obtain ⟨A, c, rfl, hl, hr⟩ := h3
    subst h1
    exact ⟨_, A, _, c, _, rfl, f, Or.inr ⟨rfl, rfl, A, c, rfl, hl, hr.more (fun _ _ => trivial)⟩⟩
theorem runV_outlen (p : Pg) (ins : List Int) (n : Nat) : (runV p ins n).out.length ≤ n := by
  have := mRun_outlen (code := p.code) (M := mTemps p) n (sh0 ins, fun _ => 0)
  simp only [sh0, List.length_nil, Nat.zero_add] at this
  exact this
end Go.Proofs.Ytodmkjeankbieac
namespace Go.Proofs.Ytodmkjeankbieac.buildRuns
open Go.ChangeShapes Go.WideShapes Go.ChangeAt Go.RowKit Go.Joins

set_option maxHeartbeats 8000000 in
set_option maxRecDepth 100000 in
theorem walk (R : Nat → Prop) (v : Value) (p : Pg) (sg su : Int) (A : Option Addr) (ins : List Int) (c : Nat) (steps : Int) (w : World) (h : RdPg w R v p) (hl : ins.length ≤ c) (hc : c ≤ maxLen) (hr : Reads w R 1 A ins.length (u32s ins)) (hi : ∀ n ∈ ins, 0 ≤ n ∧ n < 4294967296) :
    Calls Try.prog 3 #[v, tgV sg, tgV su, .slice A ins.length c, .int .i64 steps] w fun e w' => e = .returned (.bool true) ∧ Below w.heap.size w w' := by
  have H := Lib.hid h
  have HNO := Lib.hid (show NumOk p from by
    obtain ⟨_, _, e, _, ⟨_, _, e2, _, _, ho⟩⟩ := h
    exact fun i hi => (ho i hi).2.2.2.2.2)
  obtain ⟨vw, vc, rfl, ⟨A1, c1, rfl, hl1, hr1⟩, ⟨A2, c2, rfl, hl2, hr2, ho2⟩⟩ := h
  clear hr1 hr2 ho2
  have HRI := Lib.hid hr
  have HI := Lib.hid hi
  have HQ := Lib.hid (Q3T.start w #[.slice A1 p.wide.length c1, .slice A2 p.code.length c2] #[.int .i64 sg] #[.int .i64 su])
  have hc' := hc
  unfold maxLen at hc' hl2
  have HBt := Lib.hid (fun w2 (hf : Fr w w2) => build_any R _ p sg w2 (H.out.kept hf (fun _ _ h => h)))
  have HBu := Lib.hid (fun w2 (hf : Fr w w2) => build_any R _ p su w2 (H.out.kept hf (fun _ _ h => h)))
  have HRu := Lib.hid (fun w2 (hf : Fr w w2) => run_any R _ p A ins c steps w2 (H.out.kept hf (fun _ _ h => h)) hl hc (HRI.out.kept hf (fun _ _ h => h)) HI.out)
  have HDn := Lib.hid (fun s vl l R' w2 (hf : Fr w w2) (hL : RdPd w2 R' vl l) => done_any R R' _ vl p s l A ins c steps w2 (H.out.kept hf (fun _ _ h => h)) hL hl hc (HRI.out.kept hf (fun _ _ h => h)) HI.out)
  clear hr hi
  unfold tgV at HBt HBu HDn ⊢
  go_enter Try.func3, Try.ntmps3
  go_wp2_with fail
  refine (HBt.out _ HQ.out.fr).mono ?_
  intro e w1 h1
  obtain ⟨sl, Al, nl, kl, ec, rfl, f1, hc1⟩ := h1.any
  have HQ1 := Lib.hid (HQ.out.keep f1)
  have HLh := Blk.new w1 31 #[.int .i64 sl, .slice Al nl kl]
  have HLk : Fr w1 (w1.alloc (.cells #[.int .i64 sl, .slice Al nl kl] 31)) := (Kept.refl _ w1).alloc _
  obtain ⟨w1a, HLw⟩ : ∃ w1a : World, w1a = w1.alloc (.cells #[.int .i64 sl, .slice Al nl kl] 31) := ⟨_, rfl⟩
  rw [← HLw] at HLh HLk
  obtain ⟨lb, HLb⟩ : ∃ lb : Nat, lb = w1.heap.size := ⟨_, rfl⟩
  rw [← HLb] at HLh
  have HLW := Lib.hid HLw
  have HLB := Lib.hid HLb
  have HL := Lib.hid HLh
  clear HLw HLb HLh
  have HQ2 := Lib.hid (HQ1.out.keep HLk)
  have HC1 := Lib.hid (show ec = 2 ∨ (ec = 0 ∧ mayB p = true ∧ tgB sg = true ∧ nl = p.code.length ∧ RdPd w1a (fun _ => True) (.agg #[.int .i64 sl, .slice Al nl kl]) (buildF p sg)) from hc1.imp id (fun h => ⟨h.1, h.2.1, h.2.2.1, h.2.2.2.1, h.2.2.2.2.kept HLk (fun _ _ h => h)⟩))
  clear h1 hc1 f1 HQ HQ1 HLk HBt
  have p0 := HQ2.out.b0.cell 0
  have p1 := HQ2.out.b0.cell 1
  have z0 := HQ2.out.b0.lt
  have u0 := HQ2.out.b2.cell 0
  have z2 := HQ2.out.b2.lt
  simp only [List.getElem?_toArray, List.getElem?_cons_succ, List.getElem?_cons_zero] at p0 p1 u0
  rw [HLW.out] at p0 p1 z0 u0 z2
  go_wp2_with fail
  rw [← HLW.out]
  refine (HBu.out _ HQ2.out.fr).mono ?_
  intro e w2 h2
  obtain ⟨sk, Ak, nk, kk, fc, rfl, f2, hc2⟩ := h2.any
  clear p0 p1 z0 u0 z2
  have HKh := Blk.new w2 31 #[.int .i64 sk, .slice Ak nk kk]
  have HKk : Fr w2 (w2.alloc (.cells #[.int .i64 sk, .slice Ak nk kk] 31)) := (Kept.refl _ w2).alloc _
  obtain ⟨w2a, HKw⟩ : ∃ w2a : World, w2a = w2.alloc (.cells #[.int .i64 sk, .slice Ak nk kk] 31) := ⟨_, rfl⟩
  rw [← HKw] at HKh HKk
  obtain ⟨kb, HKb⟩ : ∃ kb : Nat, kb = w2.heap.size := ⟨_, rfl⟩
  rw [← HKb] at HKh
  have HKW := Lib.hid HKw
  have HKB := Lib.hid HKb
  have HK := Lib.hid HKh
  clear HKw HKb HKh
  have HQ3 := Lib.hid (HQ2.out.keep (f2.trans HKk))
  have HL2 := Lib.hid (HL.out.kept (f2.trans HKk) (fun h => h))
  have HC2 := Lib.hid (show fc = 2 ∨ (fc = 0 ∧ mayB p = true ∧ tgB su = true ∧ nk = p.code.length ∧ RdPd w2a (fun _ => True) (.agg #[.int .i64 sk, .slice Ak nk kk]) (buildF p su)) from hc2.imp id (fun h => ⟨h.1, h.2.1, h.2.2.1, h.2.2.2.1, h.2.2.2.2.kept HKk (fun _ _ h => h)⟩))
  have HF2 := Lib.hid (f2.trans HKk)
  clear h2 hc2 f2 HQ2 HKk HBu
  have p0 := HQ3.out.b0.cell 0
  have p1 := HQ3.out.b0.cell 1
  have z0 := HQ3.out.b0.lt
  simp only [List.getElem?_toArray, List.getElem?_cons_succ, List.getElem?_cons_zero] at p0 p1
  rw [HKW.out] at p0 p1 z0
  go_wp2_with fail
  rw [← HKW.out]
  refine (HRu.out _ HQ3.out.fr).mono ?_
  intro e w3 h3
  obtain ⟨st, As, nS, cS, sp, rfl, f3, hc3⟩ := h3.any
  clear p0 p1 z0
  have HSh := Blk.new w3 36 #[.int .i64 st, .slice As nS cS, .int .i64 sp]
  have HSk : Fr w3 (w3.alloc (.cells #[.int .i64 st, .slice As nS cS, .int .i64 sp] 36)) := (Kept.refl _ w3).alloc _
  obtain ⟨w3a, HSw⟩ : ∃ w3a : World, w3a = w3.alloc (.cells #[.int .i64 st, .slice As nS cS, .int .i64 sp] 36) := ⟨_, rfl⟩
  rw [← HSw] at HSh HSk
  obtain ⟨sb, HSb⟩ : ∃ sb : Nat, sb = w3.heap.size := ⟨_, rfl⟩
  rw [← HSb] at HSh
  have HSW := Lib.hid HSw
  have HSB := Lib.hid HSb
  have HS := Lib.hid HSh
  clear HSw HSb HSh
  have HQ4 := Lib.hid (HQ3.out.keep (f3.trans HSk))
  have HL3 := Lib.hid (HL2.out.kept (f3.trans HSk) (fun h => h))
  have HK3 := Lib.hid (HK.out.kept (f3.trans HSk) (fun h => h))
  have HF3 := Lib.hid (f3.trans HSk)
  have HC3 := Lib.hid (show wrongV p ins.length steps ≠ 0 ∨ (wrongV p ins.length steps = 0 ∧ nS = (runV p ins steps.toNat).out.length ∧ RdSh w3a (fun _ => True) (.agg #[.int .i64 st, .slice As nS cS, .int .i64 sp]) (runV p ins steps.toNat)) from hc3.imp id (fun h => ⟨h.1, h.2.1, h.2.2.kept HSk (fun _ _ h => h)⟩))
  clear h3 hc3 f3 HQ3 HSk HRu HL2
  have s0 := HS.out.cell 0
  have s1 := HS.out.cell 1
  have s2 := HS.out.cell 2
  have zs := HS.out.lt
  simp only [List.getElem?_toArray, List.getElem?_cons_succ, List.getElem?_cons_zero] at s0 s1 s2
  rw [HSB.out] at s0 s1 s2 zs
  rw [HSW.out] at s0 s1 s2 zs
  have HFE := Lib.hid (show Fr w (w3.alloc (.cells #[.int .i64 st, .slice As nS cS, .int .i64 sp] 36)) from by have := HQ4.out.fr; rw [HSW.out] at this; exact this)
  rcases HC3.out with hw | ⟨hw, hnS, hsh⟩
  · have hwb : (wrongV p ins.length steps != 0) = true := by simpa using hw
    clear HC3
    generalize wrongV p ins.length steps = wr at *
    clear hw
    rcases HC1.out with rfl | ⟨rfl, _⟩
    · go_wp2
      go_ret
      exact ⟨rfl, Fr.below HFE.out⟩
    · rcases HC2.out with rfl | ⟨rfl, _⟩
      · go_wp2
        go_ret
        exact ⟨rfl, Fr.below HFE.out⟩
      · go_wp2
        go_ret
        exact ⟨rfl, Fr.below HFE.out⟩
  · obtain ⟨_, hn40, hs0, hs3⟩ := wrong_0 hw
    have HW := Lib.hid hw
    obtain ⟨n, rfl⟩ : ∃ n : Nat, steps = (n : Int) := ⟨steps.toNat, by omega⟩
    rw [Int.toNat_natCast] at hnS hsh
    have hlen : nS ≤ n := by rw [hnS]; exact runV_outlen p ins n
    have HSH := Lib.hid hsh
    rw [hw]
    clear HC3 hw hnS hsh
    have hlen' : (nS : Int) ≤ (n : Int) := by omega
    rcases HC1.out with rfl | ⟨rfl, hmb, htg, rfl, hrl⟩
    · go_wp2
      go_ret
      exact ⟨rfl, Fr.below HFE.out⟩
    rcases HC2.out with rfl | ⟨rfl, _, hug, rfl, hrk⟩
    · go_wp2
      go_ret
      exact ⟨rfl, Fr.below HFE.out⟩
    have HRL := Lib.hid ((hrl.kept HF2.out (fun _ _ h => h)).kept HF3.out (fun _ _ h => h))
    have HRK := Lib.hid (hrk.kept HF3.out (fun _ _ h => h))
    obtain ⟨hml, htl⟩ := buildF_ok hmb htg
    obtain ⟨hmk, htk⟩ := buildF_ok hmb hug
    have mvs : ∀ {w : World} {v : Value} {l : Pd}, RdPd w (fun _ => True) v l → MvsOk l.rows := fun {w v l} h => by
      obtain ⟨vr, lv, rfl, hsl, ⟨Al, cl, rfl, hlr, hrr, hor⟩, hrows⟩ := h
      rw [hrows]
      intro r hr
      obtain ⟨x, hx, rfl⟩ := List.mem_map.1 hr
      obtain ⟨_, _, _, ⟨_, _, _, _, _, h1⟩, ⟨_, _, _, _, _, h2⟩⟩ := hor x hx
      exact ⟨fun m hm => (h1 m hm).2.2, fun m hm => (h2 m hm).2.2⟩
    have HEL := Lib.hid (sound hml HNO.out (mvs hrl) htl HI.out n)
    have HEK := Lib.hid (sound hmk HNO.out (mvs hrk) htk HI.out n)
    have HDL := Lib.hid (show dWrong p sg (buildF p sg) ins.length (n : Int) = 0 from by unfold dWrong; rw [hml]; exact HW.out)
    have HDK := Lib.hid (show dWrong p su (buildF p su) ins.length (n : Int) = 0 from by unfold dWrong; rw [hmk]; exact HW.out)
    have hc40 := (mayB_len hmb).2.2.1
    clear hmb htg hug hrl hrk hml htl hmk htk HC1 HC2 HNO HW s0 s1 s2 zs
    have HDt := Lib.hid (fun w2 (hf : Fr w w2) hL => HDn.out sg (.agg #[.int .i64 sl, .slice Al p.code.length kl]) (buildF p sg) (fun _ => True) w2 hf hL)
    have HDu := Lib.hid (fun w2 (hf : Fr w w2) hL => HDn.out su (.agg #[.int .i64 sk, .slice Ak p.code.length kk]) (buildF p su) (fun _ => True) w2 hf hL)
    rw [HDL.out, Int.toNat_natCast, ← HEL.out] at HDt
    rw [HDK.out, Int.toNat_natCast, ← HEK.out] at HDu
    clear HDn HEL HEK HDL HDK
    generalize runV p ins n = x at *
    have p0 := HQ4.out.b0.cell 0
    have p1 := HQ4.out.b0.cell 1
    have z0 := HQ4.out.b0.lt
    have t0 := HQ4.out.b1.cell 0
    have z1 := HQ4.out.b1.lt
    simp only [List.getElem?_toArray, List.getElem?_cons_succ, List.getElem?_cons_zero] at p0 p1 t0
    have l0 := HL3.out.cell 0
    have l1 := HL3.out.cell 1
    have zl := HL3.out.lt
    simp only [List.getElem?_toArray, List.getElem?_cons_succ, List.getElem?_cons_zero] at l0 l1
    rw [HLB.out] at l0 l1 zl
    rw [HSW.out] at p0 p1 z0 t0 z1 l0 l1 zl
    go_wp2_with fail
    rw [← HSW.out]
    refine (HDt.out _ HQ4.out.fr HRL.out).mono ?_
    intro e w5 h5
    obtain ⟨st5, A5, n5, c5, sp5, rfl, f5, hc5⟩ := h5.any
    rcases hc5 with hc5 | ⟨_, rfl, hsh5⟩
    · exact absurd rfl hc5
    clear p0 p1 z0 t0 z1
    clear l0 l1 zl h5
    have HAh := Blk.new w5 36 #[.int .i64 st5, .slice A5 x.out.length c5, .int .i64 sp5]
    have HAk : Fr w5 (w5.alloc (.cells #[.int .i64 st5, .slice A5 x.out.length c5, .int .i64 sp5] 36)) := (Kept.refl _ w5).alloc _
    obtain ⟨w5a, HAw⟩ : ∃ w5a : World, w5a = w5.alloc (.cells #[.int .i64 st5, .slice A5 x.out.length c5, .int .i64 sp5] 36) := ⟨_, rfl⟩
    rw [← HAw] at HAh HAk
    obtain ⟨ab, HAb⟩ : ∃ ab : Nat, ab = w5.heap.size := ⟨_, rfl⟩
    rw [← HAb] at HAh
    have HAW := Lib.hid HAw
    have HAB := Lib.hid HAb
    have HA := Lib.hid HAh
    clear HAw HAb HAh
    have HQ6 := Lib.hid (HQ4.out.keep (f5.trans HAk))
    have HK6 := Lib.hid (HK3.out.kept (f5.trans HAk) (fun h => h))
    have HL6 := Lib.hid (HL3.out.kept (f5.trans HAk) (fun h => h))
    have HS6 := Lib.hid (HS.out.kept (f5.trans HAk) (fun h => h))
    have HRK6 := Lib.hid (HRK.out.kept (f5.trans HAk) (fun _ _ h => h))
    have HSH6 := Lib.hid (HSH.out.kept (f5.trans HAk) (fun _ _ h => h))
    have HSA6 := Lib.hid (hsh5.kept HAk (fun _ _ h => h))
    clear f5 HAk hsh5 HQ4 HK3 HL3 HRK HRL HSH HDt
    have p0 := HQ6.out.b0.cell 0
    have p1 := HQ6.out.b0.cell 1
    have z0 := HQ6.out.b0.lt
    have u0 := HQ6.out.b2.cell 0
    have z2 := HQ6.out.b2.lt
    simp only [List.getElem?_toArray, List.getElem?_cons_succ, List.getElem?_cons_zero] at p0 p1 u0
    have l0 := HK6.out.cell 0
    have l1 := HK6.out.cell 1
    have zl := HK6.out.lt
    simp only [List.getElem?_toArray, List.getElem?_cons_succ, List.getElem?_cons_zero] at l0 l1
    rw [HKB.out] at l0 l1 zl
    rw [HAW.out] at p0 p1 z0 u0 z2 l0 l1 zl
    go_wp2_with fail
    rw [← HAW.out]
    refine (HDu.out _ HQ6.out.fr HRK6.out).mono ?_
    intro e w7 h7
    obtain ⟨st7, A7, n7, c7, sp7, rfl, f7, hc7⟩ := h7.any
    rcases hc7 with hc7 | ⟨_, rfl, hsh7⟩
    · exact absurd rfl hc7
    clear p0 p1 z0 u0 z2
    clear l0 l1 zl h7
    have HBh := Blk.new w7 36 #[.int .i64 st7, .slice A7 x.out.length c7, .int .i64 sp7]
    have HBk : Fr w7 (w7.alloc (.cells #[.int .i64 st7, .slice A7 x.out.length c7, .int .i64 sp7] 36)) := (Kept.refl _ w7).alloc _
    obtain ⟨w7a, HBw⟩ : ∃ w7a : World, w7a = w7.alloc (.cells #[.int .i64 st7, .slice A7 x.out.length c7, .int .i64 sp7] 36) := ⟨_, rfl⟩
    rw [← HBw] at HBh HBk
    obtain ⟨bb, HBb⟩ : ∃ bb : Nat, bb = w7.heap.size := ⟨_, rfl⟩
    rw [← HBb] at HBh
    have HBW := Lib.hid HBw
    have HBB := Lib.hid HBb
    have HB := Lib.hid HBh
    clear HBw HBb HBh
    have HQ8 := Lib.hid (HQ6.out.keep (f7.trans HBk))
    have HL8 := Lib.hid (HL6.out.kept (f7.trans HBk) (fun h => h))
    have HS8 := Lib.hid (HS6.out.kept (f7.trans HBk) (fun h => h))
    have HA8 := Lib.hid (HA.out.kept (f7.trans HBk) (fun h => h))
    have HSH8 := Lib.hid (HSH6.out.kept (f7.trans HBk) (fun _ _ h => h))
    have HSA8 := Lib.hid (HSA6.out.kept (f7.trans HBk) (fun _ _ h => h))
    have HSB8 := Lib.hid (hsh7.kept HBk (fun _ _ h => h))
    clear f7 HBk hsh7 HQ6 HL6 HK6 HS6 HSH6 HSA6 HRK6 HDu
    have HEQ : Hid (shEq x x = true) := by show _ = _; simp [shEq]
    have HS1 := Lib.hid (refShSame_any _ _ _ _ _ _ w7a HSA8.out HSH8.out)
    have HS2 := Lib.hid (fun w2 (f : Fr w7a w2) => refShSame_any _ _ _ _ _ _ w2 (HSB8.out.kept f (fun _ _ h => h)) (HSH8.out.kept f (fun _ _ h => h)))
    rw [HEQ.out] at HS1 HS2
    have s0 := HS8.out.cell 0
    have s1 := HS8.out.cell 1
    have s2 := HS8.out.cell 2
    have zs := HS8.out.lt
    have a0 := HA8.out.cell 0
    have a1 := HA8.out.cell 1
    have a2 := HA8.out.cell 2
    have za := HA8.out.lt
    simp only [List.getElem?_toArray, List.getElem?_cons_succ, List.getElem?_cons_zero] at s0 s1 s2 a0 a1 a2
    rw [HSB.out] at s0 s1 s2 zs
    rw [HAB.out] at a0 a1 a2 za
    rw [HBW.out] at s0 s1 s2 zs a0 a1 a2 za
    go_wp2_with fail
    rw [← HBW.out]
    refine HS1.out.mono ?_
    rintro e w9 ⟨rfl, f9⟩
    have HQ9 := Lib.hid (HQ8.out.keep f9)
    have HL9 := Lib.hid (HL8.out.kept f9 (fun h => h))
    have HS9 := Lib.hid (HS8.out.kept f9 (fun h => h))
    have HB9 := Lib.hid (HB.out.kept f9 (fun h => h))
    have HS3 := Lib.hid (HS2.out _ f9)
    clear f9 s0 s1 s2 zs a0 a1 a2 za HS1 HS2 HQ8 HL8 HS8
    have s0 := HS9.out.cell 0
    have s1 := HS9.out.cell 1
    have s2 := HS9.out.cell 2
    have zs := HS9.out.lt
    have a0 := HB9.out.cell 0
    have a1 := HB9.out.cell 1
    have a2 := HB9.out.cell 2
    have za := HB9.out.lt
    simp only [List.getElem?_toArray, List.getElem?_cons_succ, List.getElem?_cons_zero] at s0 s1 s2 a0 a1 a2
    rw [HSB.out] at s0 s1 s2 zs
    rw [HBB.out] at a0 a1 a2 za
    go_wp2_with fail
    refine HS3.out.mono ?_
    rintro e w10 ⟨rfl, f10⟩
    have HQ10 := Lib.hid (HQ9.out.keep f10)
    have hl10 := HL9.out.kept f10 (fun h => h)
    have l1 := hl10.cell 1
    have zl := hl10.lt
    have p1 := HQ10.out.b0.cell 1
    have z0 := HQ10.out.b0.lt
    simp only [List.getElem?_toArray, List.getElem?_cons_succ, List.getElem?_cons_zero] at l1 p1
    rw [HLB.out] at l1 zl
    have hcp : (0 : Int) < (p.code.length : Int) := by omega
    have hcp1 : 0 < p.code.length := by omega
    clear f10 hl10 s0 s1 s2 zs a0 a1 a2 za
    go_wp2
    go_ret
    exact ⟨rfl, Fr.below HQ10.out.fr⟩
set_option maxRecDepth 100000 in
theorem lifted (os : Os) (started : os.Started) (H : Type) (enc : TypeId × Value → H) :
    ReturnsInHanded {} Try.checked os 3 .any (Rows.buildRunsSpec.pre6 enc Try.prog Try.f3 Rows.buildRunsRow.domain false) (Rows.buildRunsSpec.post enc Try.prog Try.f3 false true false false) := by
  refine returnsInHanded_of_change (C := Try.checked) own started (by kernel_rfl) Try.func3
    (ChangeSpec.witness6 (enc := enc) (C := Try.checked) false ⟨#[], #[.agg #[.slice none 0 0, .slice none 0 0], .agg #[.int .i64 0], .agg #[.int .i64 0], .slice none 0 0, .int .i64 0], []⟩ 8 (by kernel_rfl) (by kernel_rfl) (by kernel_rfl) (by kernel_rfl)) ?_
  intro W base args ds gs before hval0 hW _ _
  have hval : ∀ (j : Nat) t v, Try.f3.params[j]? = some t → args[j]? = some v → Value.okWide Try.prog W .any base t v := hval0
  have hlt : ∀ x ∈ before, x.block < W.heap.size := fun x hx => hW.lt x hx
  have hW' := hW
  obtain ⟨p, q, hA0, hV, rfl, _, _⟩ := hW
  have hA : DataW.TrodAll enc Try.prog W 0 (fun _ => true) true Try.f3.params.toList args.toList ds p := hA0
  rw [Try.params3] at hA hval
  obtain ⟨v0, vs0, d0, ds0, p0, q0, hargs, rfl, rfl, h0, r0⟩ := trodAll_cons hA
  obtain ⟨v1, vs1, d1, ds1, p1, q1, rfl, rfl, rfl, h1, r1⟩ := trodAll_cons r0
  obtain ⟨v2, vs2, d2, ds2, p2, q2, rfl, rfl, rfl, h2, r2⟩ := trodAll_cons r1
  obtain ⟨v3, vs3, d3, ds3, p3, q3, rfl, rfl, rfl, h3, r3⟩ := trodAll_cons r2
  obtain ⟨v4, vs4, d4, ds4, p4, q4, rfl, rfl, rfl, h4, r4⟩ := trodAll_cons r3
  obtain ⟨rfl, rfl, rfl⟩ := trodAll_nil r4
  obtain rfl : args = #[v0, v1, v2, v3, v4] := by cases args; simp_all
  have hg : gs = [] := (trodVars_none hV).1
  subst hg
  suffices hwalk : Calls Try.prog 3 #[v0, v1, v2, v3, v4] W fun e W' => e = .returned (.bool true) ∧ Below W.heap.size W W' by
    refine hwalk.mono fun e W' ⟨he, hb⟩ => ?_
    subst he
    exact law_post (by kernel_rfl) rfl rfl hW' rfl hb
  obtain ⟨p, hp⟩ := open_pg (R := fun _ => True) (hval 0 25 v0 rfl rfl) h0 (fun _ _ => trivial)
  obtain ⟨sg, rfl⟩ := open_tg (hval 1 27 v1 rfl rfl) h1
  obtain ⟨su, rfl⟩ := open_tg (hval 2 27 v2 rfl rfl) h2
  obtain ⟨A, c, ins, rfl, hr, hi, h1', h2'⟩ := open_u32 (R := fun _ => True) (hval 3 28 v3 rfl rfl) h3 (fun _ _ => trivial)
  obtain ⟨steps, rfl, rfl, rfl, w2⟩ := open_int Try.underlying3 (hval 4 3 v4 rfl rfl) h4
  exact walk _ v0 p sg su A ins c steps W hp h1' h2' hr hi

theorem over : Rows.buildRunsRow.holds Try.pinned (OpenSpec.ofChange Rows.buildRunsSpec) :=
  OpenClaim.holds_of_wide 3 Try.f3 rfl rfl rfl rfl rfl rfl rfl ⟨rfl, rfl, rfl, rfl, rfl⟩ rfl rfl rfl rfl rfl (by kernel_rfl) Try.func3 (by kernel_rfl)
    (of_decide_eq_true (by kernel_rfl)) (by unfold Func.isWrapper; first | (rw [if_pos (by decide +kernel)]; kernel_rfl) | (rw [if_neg (by decide +kernel)]; exact ⟨rfl, rfl⟩))
    (fun os started H enc _ => lifted os started H enc)

/-- the statement -/
theorem proved : Rows.BuildRunsSaid := over
#print axioms proved
end Go.Proofs.Ytodmkjeankbieac.buildRuns
