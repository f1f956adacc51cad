/- What is taken does what the program does, plainly: the two runs, step by step. No program in sight. -/
import Derived.Test.YtodmkjeankbieabSoundPlain
namespace Go.Proofs.Ytodmkjeankbieab

theorem giveV_range {p : Pg} {τ : Int → Int} (ht : ∀ t, 0 ≤ τ t ∧ τ t < 18446744073709551616) (hnar : ∀ t, wd p.wide t = false → τ t < 4294967296) {i : In} (hi : InsOk p i) (hn : i.n < 4294967296) (hg : gvs i.op = true) {x : Int} (hx : 0 ≤ x ∧ x < 4294967296) :
    (0 ≤ giveV i (τ i.a) (τ i.b) x ∧ giveV i (τ i.a) (τ i.b) x < 18446744073709551616) ∧ (wd p.wide i.d = false → giveV i (τ i.a) (τ i.b) x < 4294967296) := by
  have ha := ht i.a
  have hb := ht i.b
  have hna := hnar i.a
  have hnb := hnar i.b
  generalize τ i.a = a at *
  generalize τ i.b = b at *
  rcases known_cases hi.kn with h | h | h | h | h | h | h | h | h | h | ⟨h1, h2⟩ | ⟨h1, h2⟩
  · unfold giveV; rw [if_pos h]; omega
  · unfold giveV; rw [if_neg (by omega), if_pos h]
    exact ⟨ha, fun hw => hna (by rw [← hi.w2 h]; exact hw)⟩
  · unfold giveV; rw [if_neg (by omega), if_neg (by omega), if_pos h]; omega
  · rw [h] at hg; exact absurd hg (by decide)
  · unfold giveV; rw [if_neg (by omega), if_neg (by omega), if_neg (by omega), if_pos h]
    obtain ⟨w1, w2, w3⟩ := hi.w5 h
    have := hna w2
    have := hnb w3
    exact ⟨by omega, fun hw => by rw [w1] at hw; cases hw⟩
  · unfold giveV; rw [if_neg (by omega), if_neg (by omega), if_neg (by omega), if_neg (by omega), if_pos h]; omega
  · unfold giveV; rw [if_neg (by omega), if_neg (by omega), if_neg (by omega), if_neg (by omega), if_neg (by omega), if_pos h]; omega
  · rw [h] at hg; exact absurd hg (by decide)
  · rw [h] at hg; exact absurd hg (by decide)
  · rw [h] at hg; exact absurd hg (by decide)
  · unfold giveV; rw [if_neg (by omega), if_neg (by omega), if_neg (by omega), if_neg (by omega), if_neg (by omega), if_neg (by omega), if_neg (by omega)]
    have := narrowOp_range (i.op - 20) (a % 4294967296) (b % 4294967296) (by omega) (by omega)
    omega
  · unfold giveV; rw [if_neg (by omega), if_neg (by omega), if_neg (by omega), if_neg (by omega), if_neg (by omega), if_neg (by omega), if_pos h1]
    have := wideOp_range (i.op - 40) a b (by omega) (by omega)
    have hw := (hi.w40 h1).1
    exact ⟨by omega, fun h => by rw [hw] at h; cases h⟩

/-- what an instruction gives hangs on what it takes alone -/
theorem giveV_same {i : In} (hk : known i.op = true) {a b a' b' x : Int} (ha : 0 < many i.op → a = a') (hb : 1 < many i.op → b = b') (hg : gvs i.op = true) : giveV i a b x = giveV i a' b' x := by
  rcases known_cases hk with h | h | h | h | h | h | h | h | h | h | ⟨h1, h2⟩ | ⟨h1, h2⟩
  case inr.inr.inr.inr.inr.inr.inr.inr.inr.inr.inl => rw [ha (by rw [many_op h1]; omega), hb (by rw [many_op h1]; omega)]
  case inr.inr.inr.inr.inr.inr.inr.inr.inr.inr.inr => rw [ha (by rw [many_op (by omega)]; omega), hb (by rw [many_op (by omega)]; omega)]
  all_goals
    rw [h] at ha hb hg
    simp [many, gvs] at ha hb hg
  all_goals first
    | (subst ha; subst hb; rfl)
    | (subst ha; unfold giveV; simp [h])
    | (unfold giveV; simp [h])
theorem shStep_same {code : List In} {s : Sh} (hk : known (inAt code s.pc).op = true) {a a' : Int} (ha : 0 < many (inAt code s.pc).op → a = a') : shStep code s a = shStep code s a' := by
  by_cases hm : 0 < many (inAt code s.pc).op
  · rw [ha hm]
  · have h4 : (inAt code s.pc).op ≠ 4 := fun h => hm (by rw [h]; decide)
    have h9 : (inAt code s.pc).op ≠ 9 := fun h => hm (by rw [h]; decide)
    have e : ∀ x, pcV (inAt code s.pc) s.pc x = if (inAt code s.pc).op = 8 then (inAt code s.pc).c.toNat else s.pc + 1 := by
      intro x
      unfold pcV
      by_cases h8 : (inAt code s.pc).op = 8
      · rw [if_pos (Or.inl h8), if_pos h8]
      · rw [if_neg (by rintro (h | ⟨h, _⟩) <;> contradiction), if_neg h8]
    unfold shStep stV
    simp only [e, h4, if_false]

/-- where a run goes on, an instruction goes on -/
theorem pc_next {p : Pg} {k : Nat} (hi : InsOk p (inAt p.code k)) {a : Int} (hs : stV p.code.length (inAt p.code k) k a = 0) : pcV (inAt p.code k) k a ∈ nx p.code k := by
  unfold stV at hs
  have h10 : (inAt p.code k).op ≠ 10 := fun h => by rw [if_pos h] at hs; cases hs
  rw [if_neg h10] at hs
  have hlt : pcV (inAt p.code k) k a < p.code.length := by
    rcases Nat.lt_or_ge (pcV (inAt p.code k) k a) p.code.length with h | h
    · exact h
    · rw [if_pos h] at hs; cases hs
  unfold nx
  rw [List.mem_filter]
  refine ⟨?_, decide_eq_true hlt⟩
  unfold pcV nexts
  by_cases h8 : (inAt p.code k).op = 8
  · rw [if_pos (Or.inl h8), if_pos h8]; simp
  · rw [if_neg h8, if_neg h10]
    by_cases h9 : (inAt p.code k).op = 9
    · rw [if_pos h9]
      by_cases ha : a = 0
      · rw [if_neg (by rintro (h | ⟨_, h⟩) <;> contradiction)]
        simp
      · rw [if_pos (Or.inr ⟨h9, ha⟩)]; simp
    · rw [if_neg h9, if_neg (by rintro (h | ⟨h, _⟩) <;> contradiction)]
      simp

/-- of what is written in memory: numbers of 32 bits -/
def MvsOk (rows : List Rw) : Prop := ∀ r ∈ rows, (∀ m ∈ r.before, m.n < 4294967296) ∧ ∀ m ∈ r.after, m.n < 4294967296

theorem rwB_facts {p : Pg} {sg sl : Int} {i : In} {r : Rw} (h : rwB p sg sl i r = true) (hk : known i.op = true) :
    (∀ m ∈ r.before, mvB sg sl m = true) ∧ (∀ m ∈ r.after, mvB sg sl m = true) ∧ (gvs i.op = true → IsReg p sg sl i.d r.d) ∧ (0 < many i.op → IsReg p sg sl i.a r.a) ∧ (1 < many i.op → IsReg p sg sl i.b r.b) ∧
    (8 ≤ i.op → i.op ≤ 10 → r.after = []) := by
  unfold rwB at h
  simp only [Bool.and_eq_true] at h
  obtain ⟨⟨⟨h0, h1⟩, h2⟩, ⟨h3, h4⟩, h5⟩ := h
  obtain ⟨s0, s1, s2⟩ := shape_there hk
  have hr : ∀ {l : UInt8} {t : Int} {a : PlaceV}, plB p.wide sg sl l t a = true → decide (l = 45) = false → IsReg p sg sl t a := by
    intro l t a hp hl
    have hl := of_decide_eq_false hl
    unfold plB kindV at hp
    rw [if_neg hl] at hp
    unfold IsReg
    cases hw : wd p.wide t <;> rw [hw] at hp <;> simp at hp <;> simpa using hp
  refine ⟨?_, ?_, fun hg => ?_, fun hg => ?_, fun hg => ?_, fun g1 g2 => ?_⟩
  · intro m hm
    unfold mvsB at h3
    simp only [Bool.and_eq_true, List.all_eq_true] at h3
    exact h3.1 m hm
  · intro m hm
    unfold mvsB at h4
    simp only [Bool.and_eq_true, List.all_eq_true] at h4
    exact h4.1 m hm
  · exact hr h0 (by rw [s0, hg]; rfl)
  · exact hr h1 (by rw [s1, decide_eq_true hg]; rfl)
  · exact hr h2 (by rw [s2, decide_eq_true hg]; rfl)
  · simp at h5
    rcases h5 with h5 | h5
    · omega
    · exact h5

section
variable {p : Pg} {sg : Int} {l : Pd}
theorem Kn_in (hm : mayL p sg l = true) : ∀ k, Come p.code k → InU p sg l.slots (Kn p sg l k) := by
  obtain ⟨mB, tB, s0, s1, hl⟩ := mayL_facts hm
  apply Come.ind
  · intro f hf
    exact ((Kn_sol (p := p) (sg := sg) (l := l)).1 f hf).1
  · intro k m hk hU hmk f hf
    have hkl := hk.lt (by have := mayB_len mB; omega)
    have hi := insOk (mayB_ins mB (inAt_mem hkl))
    obtain ⟨r1, r2, r3, _⟩ := rwB_facts (mayL_row hm hkl) hi.kn
    have := (Kn_sol (p := p) (sg := sg) (l := l)).2 k hk m hmk f hf
    refine movesF_in _ ?_ r2 f this
    unfold insF
    split
    · rename_i hg
      exact giveF_in (movesF_in _ hU r1) hi hg (r3 hg) (inAt_mem hkl)
    · exact movesF_in _ hU r1

/-- the two runs stand alike -/
structure Alike (p : Pg) (sg : Int) (l : Pd) (x : Sh × (Int → Int)) (y : Sh × Sto) : Prop where
  sh : x.1 = y.1
  come : x.1.state = 0 → Come p.code x.1.pc
  fits : Fits p y.2 x.2
  hold : x.1.state = 0 → ∀ f, Kn p sg l x.1.pc f → Holds y.2 x.2 f
  ins : ∀ n ∈ x.1.ins, 0 ≤ n ∧ n < 4294967296

theorem alike_step (hm : mayL p sg l = true) (hn : NumOk p) (hv : MvsOk l.rows) (ht : Taken p sg l) {x : Sh × (Int → Int)} {y : Sh × Sto} (h : Alike p sg l x y) (h0 : x.1.state = 0) :
    Alike p sg l (mStep p.code (mTemps p) x) (mStep p.code (mPlaces p l.rows) y) := by
  obtain ⟨mB, tB, s0, s1, hl⟩ := mayL_facts hm
  obtain ⟨s, τ⟩ := x
  obtain ⟨s', st⟩ := y
  obtain ⟨hsh, hcome, hfits, hhold, hins⟩ := h
  simp only at hsh hcome hfits hhold hins h0
  subst hsh
  have hc := hcome h0
  have hkl := hc.lt (by have := mayB_len mB; omega)
  have himem := inAt_mem hkl
  have hi := insOk (mayB_ins mB himem)
  obtain ⟨r1, r2, r3, r4, r5, _⟩ := rwB_facts (mayL_row hm hkl) hi.kn
  obtain ⟨v1, v2⟩ := hv _ (rwAt_mem (rows := l.rows) (k := s.pc) (by omega))
  have hU := Kn_in hm _ hc
  obtain ⟨hf1, hh1⟩ := movesF_hold hn (rwAt l.rows s.pc).before hU r1 v1 hfits (hhold h0)
  have hU1 := movesF_in (p := p) _ hU r1
  have hta := ht _ hc
  have ea : 0 < many (inAt p.code s.pc).op → getS (movesS st (rwAt l.rows s.pc).before) (rwAt l.rows s.pc).a = τ (inAt p.code s.pc).a := fun hg =>
    (holds_has (by have := isB_kind (r4 hg).2; omega)).1 (hh1 _ (hta.1 hg))
  have eb : 1 < many (inAt p.code s.pc).op → getS (movesS st (rwAt l.rows s.pc).before) (rwAt l.rows s.pc).b = τ (inAt p.code s.pc).b := fun hg =>
    (holds_has (by have := isB_kind (r5 hg).2; omega)).1 (hh1 _ (hta.2 hg))
  have hx : 0 ≤ s.ins.headD 0 ∧ s.ins.headD 0 < 4294967296 := by
    cases hsi : s.ins with
    | nil => simp
    | cons n r => exact hins n (by rw [hsi]; simp)
  unfold mStep
  simp only [mTemps, mPlaces]
  have e1 := shStep_same (code := p.code) (s := s) hi.kn ea
  have hmid : ∀ v, v = giveV (inAt p.code s.pc) (τ (inAt p.code s.pc).a) (τ (inAt p.code s.pc).b) (s.ins.headD 0) →
      Fits p (if gvs (inAt p.code s.pc).op = true then putS (movesS st (rwAt l.rows s.pc).before) (rwAt l.rows s.pc).d (giveV (inAt p.code s.pc) (getS (movesS st (rwAt l.rows s.pc).before) (rwAt l.rows s.pc).a) (getS (movesS st (rwAt l.rows s.pc).before) (rwAt l.rows s.pc).b) (s.ins.headD 0)) else movesS st (rwAt l.rows s.pc).before)
        (if gvs (inAt p.code s.pc).op = true then upd τ (inAt p.code s.pc).d v else τ) ∧
      ∀ f, insF (movesF p (Kn p sg l s.pc) (rwAt l.rows s.pc).before) (inAt p.code s.pc) (rwAt l.rows s.pc).d f →
        Holds (if gvs (inAt p.code s.pc).op = true then putS (movesS st (rwAt l.rows s.pc).before) (rwAt l.rows s.pc).d (giveV (inAt p.code s.pc) (getS (movesS st (rwAt l.rows s.pc).before) (rwAt l.rows s.pc).a) (getS (movesS st (rwAt l.rows s.pc).before) (rwAt l.rows s.pc).b) (s.ins.headD 0)) else movesS st (rwAt l.rows s.pc).before)
          (if gvs (inAt p.code s.pc).op = true then upd τ (inAt p.code s.pc).d v else τ) f := by
    rintro v rfl
    by_cases hg : gvs (inAt p.code s.pc).op = true
    · rw [if_pos hg, if_pos hg, giveV_same hi.kn ea eb hg]
      unfold insF
      rw [if_pos hg]
      obtain ⟨g1, g2⟩ := giveV_range hfits.tp hfits.nar hi (hn _ himem) hg hx
      exact giveF_hold hn hU1 hi hg himem (r3 hg) hf1 hh1 g1 g2 (fun h => by unfold giveV; rw [if_pos h]) (fun h => by unfold giveV; rw [if_neg (by omega), if_pos h])
    · rw [if_neg hg, if_neg hg]
      unfold insF
      rw [if_neg hg]
      exact ⟨hf1, hh1⟩
  obtain ⟨hf2, hh2⟩ := hmid _ rfl
  have hU2 : InU p sg l.slots (insF (movesF p (Kn p sg l s.pc) (rwAt l.rows s.pc).before) (inAt p.code s.pc) (rwAt l.rows s.pc).d) := by
    unfold insF
    split
    · rename_i hg
      exact giveF_in hU1 hi hg (r3 hg) himem
    · exact hU1
  obtain ⟨hf3, hh3⟩ := movesF_hold hn (rwAt l.rows s.pc).after hU2 r2 v2 hf2 hh2
  refine ⟨e1.symm, ?_, hf3, ?_, ?_⟩
  · intro hs
    exact hc.next (pc_next hi hs)
  · intro hs f hf
    exact hh3 f ((Kn_sol (p := p) (sg := sg) (l := l)).2 _ hc _ (pc_next hi hs) f hf)
  · intro n hnm
    unfold shStep at hnm
    simp only at hnm
    split at hnm
    · exact hins n (List.mem_of_mem_tail hnm)
    · exact hins n hnm

theorem alike_run (hm : mayL p sg l = true) (hn : NumOk p) (hv : MvsOk l.rows) (ht : Taken p sg l) : ∀ (n : Nat) {x : Sh × (Int → Int)} {y : Sh × Sto}, Alike p sg l x y →
    (mRun p.code (mTemps p) n x).1 = (mRun p.code (mPlaces p l.rows) n y).1
  | 0, _, _, h => h.sh
  | n + 1, x, y, h => by
    rw [mRun, mRun, ← h.sh]
    by_cases h0 : x.1.state = 0
    · rw [if_pos h0, if_pos h0]
      exact alike_run hm hn hv ht n (alike_step hm hn hv ht h h0)
    · rw [if_neg h0, if_neg h0]
      exact h.sh

theorem sound (hm : mayL p sg l = true) (hn : NumOk p) (hv : MvsOk l.rows) (ht : Taken p sg l) {ins : List Int} (hi : ∀ n ∈ ins, 0 ≤ n ∧ n < 4294967296) (n : Nat) : runV p ins n = doneV p l.rows ins n := by
  unfold runV doneV
  apply alike_run hm hn hv ht
  refine ⟨rfl, fun _ => Come.zero _, ?_, ?_, hi⟩
  · exact ⟨fun _ => by simp, fun _ => by simp, fun _ => by simp, fun _ _ => by simp⟩
  · intro _ f hf
    obtain ⟨hu, h0⟩ := (Kn_sol (p := p) (sg := sg) (l := l)).1 f hf
    have hz : ∀ a, getS ⟨fun _ => 0, fun _ => 0⟩ a = 0 := by
      intro a; unfold getS; simp
    unfold Holds
    simp [hz, h0]
end

end Go.Proofs.Ytodmkjeankbieab
