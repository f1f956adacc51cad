/- The walks of package run: Wrong, Machine.Do, Machine.Go. -/
import Derived.Test.YtodmkjeankbieabForm2
import Derived.Test.YtodmkjeankbieabNum
import Derived.Deep.Cut
import Derived.Test.YtodmkjeankbieabSoundPlain2
import Derived.Test.YtodmkjeankbieabRunPlain2
namespace Go.Proofs.Ytodmkjeankbieab
open Go.RowKit Go.Sort

/-- what is wrong with a run -/
def wrongV (p : Pg) (n : Nat) (steps : Int) : Int := if mayB p = false then 2 else if 40 < n then 1 else if steps < 0 ∨ 3000 < steps then 3 else 0

set_option maxHeartbeats 1000000 in
set_option maxRecDepth 100000 in
theorem Wrong_any (R : Nat → Prop) (v : Value) (p : Pg) (A : Option Addr) (n c : Nat) (steps : Int) (w : World) (h : RdPg w R v p) (hn : n ≤ 9223372036854775807) :
    Calls Try.prog 39 #[v, .slice A n c, .int .i64 steps] w fun e w' => e = .returned (.int .i64 (wrongV p n steps)) ∧ Fr w w' := by
  have H := Lib.hid h
  obtain ⟨vw, vc, rfl, ⟨A1, c1, rfl, hl, hr⟩, ⟨A', c', rfl, hl', hr', ho'⟩⟩ := h
  clear hr hr' ho' hl hl'
  have HM := Lib.hid (fun w2 (hf : Fr w w2) => May_any R _ p w2 (H.out.kept hf (fun _ _ h => h)))
  have HF0 := Lib.hid (show Fr w (w.alloc (.cells #[.slice A1 p.wide.length c1, .slice A' p.code.length c'] 25)) from (Kept.refl _ w).alloc _)
  go_enter Try.func39, Try.ntmps39
  go_wp2_with fail
  cases hm : mayB p with
  | false =>
    rw [hm] at HM
    have HW : Hid (wrongV p n steps = 2) := by show _ = _; unfold wrongV; rw [if_pos hm]
    clear hm
    refine (HM.out _ HF0.out).mono ?_
    rintro e w2 ⟨rfl, f2⟩
    have HF := Lib.hid (HF0.out.trans f2)
    clear f2
    go_wp2
    go_ret
    exact ⟨ret_i HW.out.symm, HF.out⟩
  | true =>
    rw [hm] at HM
    have HW : Hid (wrongV p n steps = if 40 < n then 1 else if steps < 0 ∨ 3000 < steps then 3 else 0) := by show _ = _; unfold wrongV; rw [if_neg (by rw [hm]; decide)]
    clear hm
    refine (HM.out _ HF0.out).mono ?_
    rintro e w2 ⟨rfl, f2⟩
    have HF := Lib.hid (HF0.out.trans f2)
    clear f2
    go_wp2
    all_goals go_ret
    all_goals refine ⟨ret_i ?_, HF.out⟩
    all_goals rw [HW.out]
    all_goals first
      | (rw [if_pos (by omega)]; done)
      | (rw [if_neg (by omega), if_pos (by omega)]; done)
      | (rw [if_neg (by omega), if_neg (by omega)]; done)

def u32s (l : List Int) : List Value := l.map (Value.int .u32)
/-- block g is a machine that stands at r; what it has told is the row vo, in a block from B on, what comes in in blocks below -/
structure Mc (w : World) (g B : Nat) (r : Sh) (vo : Value) : Prop where
  ow : w.ownsRow B 36 1 vo r.out.length (u32s r.out)
  ex : ∃ A c, Blk w g 85 #[.int .i64 (r.state : Int), vo, .int .i64 (r.steps : Int), .int .i64 (r.pc : Int), .slice A r.ins.length c] ∧
    r.ins.length ≤ c ∧ c ≤ maxLen ∧ Reads w (fun b => b < B) 1 A r.ins.length (u32s r.ins)
def McS (g : Nat) (vo : Value) (k : Nat) : Prop := k = g ∨ vo.ownBlock = some k
theorem Mc.blk {w w' : World} {g B b : Nat} {r : Sh} {vo : Value} {t : TypeId} {cs : Array Value} (h : Mc w g B r vo) (hk : Kept (McS g vo) w w') (hb : Blk w b t cs) (h1 : t ≠ 85) (h2 : 36 ≠ t) : Blk w' b t cs := by
  obtain ⟨A, c, hB, _⟩ := h.ex
  refine hb.kept hk ?_
  rintro (e | e)
  · exact hb.ne_ hB h1 e
  · exact own_blk_ne h.ow hb h2 e
theorem Mc.fr {w0 w w' : World} {g : Nat} {r : Sh} {vo : Value} (h : Mc w g w0.heap.size r vo) (hk : Kept (McS g vo) w w') (hg : w0.heap.size ≤ g) (hf : Fr w0 w) : Fr w0 w' :=
  hf.then hk fun i hi hs => by
    rcases hs with e | e
    · omega
    · have := (own_lt h.ow e).1; omega

theorem slU32 : SlTy Try.prog 26 36 1 4 := SlTy.mk' (z := .int .u32 0) Try.underlying26 (by kernel_rfl) rfl (by decide)

/-- where a slice goes on behind its first element -/
def cutA (b off c : Nat) : Option Addr := some (if c = 1 then ⟨b, off, none⟩ else ⟨b, off + 1, none⟩)
theorem cut_reads {w : World} {R : Nat → Prop} {b off n c : Nat} {x : Value} {xs : List Value} (h : Reads w R 1 (some ⟨b, off, none⟩) (n + 1) (x :: xs)) (hc : n + 1 ≤ c) : Reads w R 1 (cutA b off c) n xs := by
  refine ⟨by have := h.1; simp at this; omega, fun hn => ?_⟩
  obtain ⟨b', off', hA, hR, hcell⟩ := h.2 (by omega)
  simp only [Option.some.injEq, Addr.mk.injEq, and_true] at hA
  obtain ⟨rfl, rfl⟩ := hA
  refine ⟨b, off + 1, by simp [cutA]; omega, hR, fun j u hu => ?_⟩
  have := hcell (j + 1) u (by simpa using hu)
  rw [Nat.add_assoc, Nat.add_comm 1 j]
  exact this

/-- the machine behind the two counts -/
structure McW (w W : World) (g B : Nat) (r : Sh) (vo : Value) (A : Option Addr) (c : Nat) (op d a1 b1 cc : Int) (n : Nat) : Prop where
  blk : Blk W g 85 #[.int .i64 (r.state : Int), vo, .int .i64 ((r.steps + 1 : Nat) : Int), .int .i64 ((r.pc + 1 : Nat) : Int), .slice A r.ins.length c]
  ow : W.ownsRow B 36 1 vo r.out.length (u32s r.out)
  rd : Reads W (fun b => b < B) 1 A r.ins.length (u32s r.ins)
  ib : Blk W w.heap.size 45 #[.int .i64 op, .int .i64 d, .int .i64 a1, .int .i64 b1, .int .i64 cc, .int .u32 n]
  kp : Kept (McS g vo) w W

theorem McW.st {w W : World} {g B c : Nat} {r : Sh} {vo : Value} {A : Option Addr} {op d a1 b1 cc : Int} {n : Nat} (h : McW w W g B r vo A c op d a1 b1 cc n) (hg : B ≤ g) (j : Nat) (u : Value) :
    Blk (W.setCell ⟨g, j, none⟩ u) g 85 (#[Value.int .i64 (r.state : Int), vo, .int .i64 ((r.steps + 1 : Nat) : Int), .int .i64 ((r.pc + 1 : Nat) : Int), .slice A r.ins.length c].setIfInBounds j u) ∧
    (W.setCell ⟨g, j, none⟩ u).ownsRow B 36 1 vo r.out.length (u32s r.out) ∧ Reads (W.setCell ⟨g, j, none⟩ u) (fun b => b < B) 1 A r.ins.length (u32s r.ins) ∧ Kept (McS g vo) w (W.setCell ⟨g, j, none⟩ u) := by
  have hK : Kept (fun k => k = g) W (W.setCell ⟨g, j, none⟩ u) := (Kept.refl (fun k => k = g) W).setCell (p := ⟨g, j, none⟩) (fun _ => rfl) _
  exact ⟨h.blk.set_ j u, own_kept h.ow hK (fun k hk e => own_blk_ne h.ow h.blk (by decide) (e ▸ hk)), h.rd.kept hK (fun k hk e => by omega), h.kp.trans (hK.mono (fun i _ e => Or.inl e))⟩
theorem or_u64 (a b : Int) (ha : 0 ≤ a) (ha' : a < 4294967296) (hb : 0 ≤ b) (hb' : b < 4294967296) : bits .or .u64 (b * 4294967296) a = b * 4294967296 + a := by
  have := bits_join .u64 64 (by decide) (fun n h h' => by rw [IntKind.wrap_u64]; exact Int.emod_eq_of_lt h (by simpa using h')) 32 (x := b * 4294967296) (y := a)
  have h2 : (2 : Int) ^ 32 = 4294967296 := by decide
  have h3 : (2 : Int) ^ 64 = 18446744073709551616 := by decide
  rw [h2, h3] at this
  exact this (by omega) (by omega) (by omega) (by omega) (by omega) (by omega)
theorem and_u64 (a : Int) (ha : 0 ≤ a) (ha' : a < 18446744073709551616) : bits .and .u64 a 4294967295 = a % 4294967296 := by
  rw [(bits_u64 a 4294967295 ha (by omega) (by omega) (by omega)).1]
  have e : (4294967295 : Int).toNat = 2 ^ 32 - 1 := by decide
  unfold bw
  rw [if_pos rfl, e, Nat.and_two_pow_sub_one_eq_mod]
  have e2 : (2 : Nat) ^ 32 = 4294967296 := by decide
  rw [e2]
  omega
theorem raw_plain {r : Sh} {op d a1 b1 cc a : Int} {n : Nat} (h3 : op ≠ 3) (h4 : op ≠ 4) (h8 : op ≠ 8) (h9 : op ≠ 9) (h10 : op ≠ 10) : rawStep r ⟨op, d, a1, b1, cc, n⟩ a = ⟨r.pc + 1, r.ins, r.out, r.steps + 1, r.state⟩ := by
  unfold rawStep pcV
  simp only
  rw [if_neg (by omega), if_neg h3, if_neg h4, if_neg h10]
theorem McW.plain {w W : World} {g B c : Nat} {r : Sh} {vo : Value} {A : Option Addr} {op d a1 b1 cc a : Int} {n : Nat} (h : McW w W g B r vo A c op d a1 b1 cc n) (hl : r.ins.length ≤ c) (hcm : c ≤ maxLen)
    (h3 : op ≠ 3) (h4 : op ≠ 4) (h8 : op ≠ 8) (h9 : op ≠ 9) (h10 : op ≠ 10) : Mc W g B (rawStep r ⟨op, d, a1, b1, cc, n⟩ a) vo := by
  rw [raw_plain h3 h4 h8 h9 h10]
  exact ⟨h.ow, A, c, h.blk, hl, hcm, h.rd⟩

set_option maxHeartbeats 4000000 in
set_option maxRecDepth 100000 in
theorem Do_any (g B : Nat) (r : Sh) (vo : Value) (i : In) (a b : Int) (w : World) (h : Mc w g B r vo) (hg : B ≤ g) (hk : known i.op = true) (hin : i.n < 4294967296) (ha : 0 ≤ a ∧ a < 18446744073709551616) (hb : 0 ≤ b ∧ b < 18446744073709551616)
    (h5 : i.op = 5 → a < 4294967296 ∧ b < 4294967296) (hs : r.steps ≤ 100000) (ho : r.out.length ≤ 100000) (hp : r.pc ≤ 100000) (hc : i.op = 8 ∨ i.op = 9 → 0 ≤ i.c) (hi : ∀ n ∈ r.ins, 0 ≤ n ∧ n < 4294967296) :
    Calls Try.prog 42 #[.pointer (some ⟨g, 0, none⟩), i.val, .int .u64 a, .int .u64 b] w fun e w' => ∃ v, e = .returned (.int .u64 v) ∧ (gvs i.op = true → v = giveV i a b (r.ins.headD 0)) ∧ (∃ vo', Mc w' g B (rawStep r i a) vo') ∧ Kept (McS g vo) w w' := by
  obtain ⟨hO0, A, c, hB0, hl, hcm, hr0⟩ := h
  have q0 := hB0.cell 0
  have q1 := hB0.cell 1
  have q2 := hB0.cell 2
  have q3 := hB0.cell 3
  have q4 := hB0.cell 4
  have y2 := hB0.frozen 2
  have y3 := hB0.frozen 3
  simp only [List.getElem?_toArray, List.getElem?_cons_succ, List.getElem?_cons_zero] at q0 q1 q2 q3 q4
  have z0 := hB0.lt
  obtain ⟨op, d, a1, b1, cc, n⟩ := i
  obtain ⟨pc, ins, out, steps, state⟩ := r
  unfold In.val
  simp only at *
  have hK1 : Kept (fun k => k = g) w (((w.setCell ⟨g, 3, none⟩ (.int .i64 ((pc : Int) + 1))).setCell ⟨g, 2, none⟩ (.int .i64 ((steps : Int) + 1))).alloc (.cells #[.int .i64 op, .int .i64 d, .int .i64 a1, .int .i64 b1, .int .i64 cc, .int .u32 n] 45)) :=
    (((Kept.refl (fun k => k = g) w).setCell (p := ⟨g, 3, none⟩) (fun _ => rfl) _).setCell (p := ⟨g, 2, none⟩) (fun _ => rfl) _).alloc _
  have HW := Lib.hid (show McW w (((w.setCell ⟨g, 3, none⟩ (.int .i64 ((pc : Int) + 1))).setCell ⟨g, 2, none⟩ (.int .i64 ((steps : Int) + 1))).alloc (.cells #[.int .i64 op, .int .i64 d, .int .i64 a1, .int .i64 b1, .int .i64 cc, .int .u32 n] 45)) g B ⟨pc, ins, out, steps, state⟩ vo A c op d a1 b1 cc n from by
    refine ⟨?_, ?_, ?_, ?_, hK1.mono (fun i _ e => Or.inl e)⟩
    · exact (((hB0.set_ 3 (.int .i64 ((pc : Int) + 1))).set_ 2 (.int .i64 ((steps : Int) + 1))).alloc _)
    · exact own_kept hO0 hK1 (fun k hk e => own_blk_ne hO0 hB0 (by decide) (e ▸ hk))
    · exact hr0.kept hK1 (fun k hk e => by omega)
    · have := Blk.new ((w.setCell ⟨g, 3, none⟩ (.int .i64 ((pc : Int) + 1))).setCell ⟨g, 2, none⟩ (.int .i64 ((steps : Int) + 1))) 45 #[.int .i64 op, .int .i64 d, .int .i64 a1, .int .i64 b1, .int .i64 cc, .int .u32 n]
      simpa [World.setCell] using this)
  clear hB0 hO0 hr0 hK1
  have HI := Lib.hid hi
  have HK := Lib.hid hk
  have H5 := Lib.hid h5
  have HC := Lib.hid hc
  clear hi hk h5 hc
  obtain ⟨a0, a1'⟩ := ha
  obtain ⟨b0, b1'⟩ := hb
  go_enter Try.func42, Try.ntmps42
  go_upto_region 3 with (fail)
  clear q0 q1 q2 q3 q4 y2 y3
  generalize ((w.setCell ⟨g, 3, none⟩ (.int .i64 ((pc : Int) + 1))).setCell ⟨g, 2, none⟩ (.int .i64 ((steps : Int) + 1))).alloc (.cells #[.int .i64 op, .int .i64 d, .int .i64 a1, .int .i64 b1, .int .i64 cc, .int .u32 n] 45) = W at *
  have e0 := HW.out.ib.cell 0
  have e4 := HW.out.ib.cell 4
  have e5 := HW.out.ib.cell 5
  have q0 := HW.out.blk.cell 0
  have q1 := HW.out.blk.cell 1
  have q3 := HW.out.blk.cell 3
  have q4 := HW.out.blk.cell 4
  have y0 := HW.out.blk.frozen 0
  have y1 := HW.out.blk.frozen 1
  have y3 := HW.out.blk.frozen 3
  have y4 := HW.out.blk.frozen 4
  simp only [List.getElem?_toArray, List.getElem?_cons_succ, List.getElem?_cons_zero] at e0 e4 e5 q0 q1 q3 q4
  have z1 := HW.out.blk.lt
  have z2 := HW.out.ib.lt
  rcases known_cases HK.out with h | h | h | h | h | h | h | h | h | h | ⟨h1, h2⟩ | ⟨h1, h2⟩
  · subst h
    go_wp2
    go_ret
    refine ⟨_, rfl, fun _ => ?_, ⟨vo, HW.out.plain hl hcm (by decide) (by decide) (by decide) (by decide) (by decide)⟩, HW.out.kp⟩
    rfl
  · subst h
    go_wp2
    go_ret
    refine ⟨_, rfl, fun _ => ?_, ⟨vo, HW.out.plain hl hcm (by decide) (by decide) (by decide) (by decide) (by decide)⟩, HW.out.kp⟩
    rfl
  · subst h
    cases ins with
    | nil =>
      go_wp2
      go_ret
      refine ⟨_, rfl, fun _ => rfl, ⟨vo, ⟨HW.out.ow, A, c, HW.out.blk, hl, hcm, HW.out.rd⟩⟩, HW.out.kp⟩
    | cons x rest =>
      obtain ⟨b3, o3, rfl, hR3, hcell⟩ := HW.out.rd.2 (by simp)
      have s0 := hcell 0 (.int .u32 x) rfl
      rw [Nat.add_zero] at s0
      have hb3 := cell_lt s0
      have hx := HI.out x (by simp)
      obtain ⟨x0, x1⟩ := hx
      have hcut := Lib.hid (cut_reads HW.out.rd hl)
      simp only [List.length_cons] at *
      have hsl : ∀ w', (Instr.slice 26 (.slice (some ⟨b3, o3, none⟩) (rest.length + 1) c) (some (.int .i64 1)) none none).run Try.prog w' = .ok (.slice (cutA b3 o3 c) rest.length (c - 1)) w' := by
        intro w'
        unfold maxLen at hcm
        go_simp
        rw [if_pos (by omega)]
        unfold cutA
        by_cases hc1 : c = 1
        · rw [if_pos hc1, if_pos hc1]
        · rw [if_neg hc1, if_neg hc1]
      clear hcell
      go_wp2
      go_ret
      obtain ⟨s1, s2, s3, s4⟩ := HW.out.st hg 4 (.slice (cutA b3 o3 c) rest.length (c - 1))
      refine ⟨_, rfl, fun _ => rfl, ⟨vo, ⟨s2, cutA b3 o3 c, c - 1, s1, by show rest.length ≤ c - 1; omega, by omega, hcut.out.kept ((Kept.refl (fun k => k = g) W).setCell (p := ⟨g, 4, none⟩) (fun _ => rfl) _) (fun k hk e => by omega)⟩⟩, s4⟩
  · subst h
    have hne := own_blk_ne HW.out.ow HW.out.blk (by decide)
    go_wp2_with (at_builtin
                 refine wpList_app (base := B) _ rfl slU32 (.tmp 72) (.tmp 75) rfl vo _ _ rfl (World.ownsRow.alloc HW.out.ow _) (fun _ => True) _ 1 1 _ rfl (Reads.lit' (by simp) trivial rfl) ?_ ?_ ?_ ?_ ?_
                 · simp [Value.oneCell']
                 · simp only; omega
                 · unfold maxLen; simp only; omega
                 · simp; omega
                 intro v9 w9 hown9 hk9 hat9
                 obtain ⟨A9, c9, rfl, _, _⟩ := own_reads hown9
                 have hb9 := (HW.out.blk.alloc _).kept hk9 hne
                 have p1 := hb9.cell 1
                 have x1 := hb9.frozen 1
                 simp only [List.getElem?_toArray, List.getElem?_cons_succ, List.getElem?_cons_zero] at p1
                 have z9 := hb9.lt)
    have hK : Kept (fun k => k = g) w9 (w9.setCell ⟨g, 1, none⟩ (.slice A9 (out.length + 1) c9)) := (Kept.refl (fun k => k = g) w9).setCell (p := ⟨g, 1, none⟩) (fun _ => rfl) _
    have hx : u32s out ++ [Value.int .u32 (a % 4294967296)] = u32s (out ++ [a % 4294967296]) := by simp [u32s]
    go_ret
    refine ⟨_, rfl, fun h => by simp [gvs] at h, ⟨.slice A9 (out.length + 1) c9, ⟨?_, A, c, ?_, hl, hcm, ?_⟩⟩, ?_⟩
    · have := own_kept hown9 hK (fun k hk e => own_blk_ne hown9 hb9 (by decide) (e ▸ hk))
      rw [hx] at this
      simpa [rawStep] using this
    · have := hb9.set_ 1 (.slice A9 (out.length + 1) c9)
      simpa [rawStep, pcV] using this
    · have h2 := HW.out.rd.kept (((Kept.refl (fun k => vo.ownBlock = some k) W).alloc _).trans hk9) (fun k hk e => by have := (own_lt HW.out.ow e).1; omega)
      exact h2.kept hK (fun k hk e => by omega)
    · exact ((HW.out.kp.alloc _).trans (hk9.mono (fun i _ e => Or.inr e))).trans (hK.mono (fun i _ e => Or.inl e))
  · subst h
    obtain ⟨g1, g2⟩ := H5.out rfl
    go_wp2
    go_ret
    refine ⟨_, rfl, fun _ => ?_, ⟨vo, HW.out.plain hl hcm (by decide) (by decide) (by decide) (by decide) (by decide)⟩, HW.out.kp⟩
    exact or_u64 a b a0 g1 b0 g2
  · subst h
    go_wp2
    go_ret
    refine ⟨_, rfl, fun _ => ?_, ⟨vo, HW.out.plain hl hcm (by decide) (by decide) (by decide) (by decide) (by decide)⟩, HW.out.kp⟩
    exact and_u64 a a0 a1'
  · subst h
    go_wp2
    go_ret
    refine ⟨_, rfl, fun _ => ?_, ⟨vo, HW.out.plain hl hcm (by decide) (by decide) (by decide) (by decide) (by decide)⟩, HW.out.kp⟩
    rfl
  · subst h
    have hcc := HC.out (Or.inl rfl)
    obtain ⟨cn, rfl⟩ : ∃ cn : Nat, cc = (cn : Int) := ⟨cc.toNat, by omega⟩
    go_wp2
    go_ret
    obtain ⟨s1, s2, s3, s4⟩ := HW.out.st hg 3 (.int .i64 (cn : Int))
    refine ⟨_, rfl, fun h => by simp [gvs] at h, ⟨vo, ⟨s2, A, c, ?_, hl, hcm, s3⟩⟩, s4⟩
    simpa [rawStep, pcV] using s1
  · subst h
    have hcc := HC.out (Or.inr rfl)
    by_cases ha0 : a = 0
    · subst ha0
      go_wp2
      go_ret
      refine ⟨_, rfl, fun h => by simp [gvs] at h, ⟨vo, ⟨HW.out.ow, A, c, HW.out.blk, hl, hcm, HW.out.rd⟩⟩, HW.out.kp⟩
    · have hne : (a != 0) = true := by simpa using ha0
      have HA0 := Lib.hid ha0
      clear ha0
      obtain ⟨cn, rfl⟩ : ∃ cn : Nat, cc = (cn : Int) := ⟨cc.toNat, by omega⟩
      go_wp2
      go_ret
      obtain ⟨s1, s2, s3, s4⟩ := HW.out.st hg 3 (.int .i64 (cn : Int))
      refine ⟨_, rfl, fun h => by simp [gvs] at h, ⟨vo, ⟨s2, A, c, ?_, hl, hcm, s3⟩⟩, s4⟩
      simpa [rawStep, pcV, HA0.out] using s1
  · subst h
    go_wp2
    go_ret
    obtain ⟨s1, s2, s3, s4⟩ := HW.out.st hg 0 (.int .i64 1)
    refine ⟨_, rfl, fun h => by simp [gvs] at h, ⟨vo, ⟨s2, A, c, ?_, hl, hcm, s3⟩⟩, s4⟩
    simpa [rawStep, pcV] using s1
  · have e : ∀ k : Int, k ≤ 20 → (op == k) = false := fun k hk => by rw [beq_eq_false_iff_ne]; omega
    have e1 := e 1 (by omega)
    have e2 := e 2 (by omega)
    have e3 := e 3 (by omega)
    have e4' := e 4 (by omega)
    have e5' := e 5 (by omega)
    have e6 := e 6 (by omega)
    have e7 := e 7 (by omega)
    have e8 := e 8 (by omega)
    have e9 := e 9 (by omega)
    have e10 := e 10 (by omega)
    clear e
    have HNr := Lib.hid (fun w => Narrow_any (op - 20) (a % 4294967296) (b % 4294967296) (by omega) (by omega) (by omega) (by omega) w)
    go_wp2_with (go_at_call 80; refine (HNr.out _).mono ?_; rintro e w' ⟨rfl, rfl⟩)
    go_ret
    refine ⟨_, rfl, fun _ => ?_, ⟨vo, HW.out.plain hl hcm (by omega) (by omega) (by omega) (by omega) (by omega)⟩, HW.out.kp⟩
    have hnr := narrowOp_range (op - 20) (a % 4294967296) (b % 4294967296) (by omega) (by omega)
    rw [IntKind.wrap_u64, Int.emod_eq_of_lt (by omega) (by omega)]
    unfold giveV
    simp only
    rw [if_neg (by omega), if_neg (by omega), if_neg (by omega), if_neg (by omega), if_neg (by omega), if_neg (by omega), if_neg (by omega)]
  · have e : ∀ k : Int, k ≤ 40 → (op == k) = false := fun k hk => by rw [beq_eq_false_iff_ne]; omega
    have e1 := e 1 (by omega)
    have e2 := e 2 (by omega)
    have e3 := e 3 (by omega)
    have e4' := e 4 (by omega)
    have e5' := e 5 (by omega)
    have e6 := e 6 (by omega)
    have e7 := e 7 (by omega)
    have e8 := e 8 (by omega)
    have e9 := e 9 (by omega)
    have e10 := e 10 (by omega)
    clear e
    have HNr := Lib.hid (fun w => Wide_any (op - 40) a b (by omega) (by omega) (by omega) (by omega) w)
    go_wp2_with (go_at_call 79; refine (HNr.out _).mono ?_; rintro e w' ⟨rfl, rfl⟩)
    go_ret
    refine ⟨_, rfl, fun _ => ?_, ⟨vo, HW.out.plain hl hcm (by omega) (by omega) (by omega) (by omega) (by omega)⟩, HW.out.kp⟩
    unfold giveV
    simp only
    rw [if_neg (by omega), if_neg (by omega), if_neg (by omega), if_neg (by omega), if_neg (by omega), if_neg (by omega), if_pos h1]
end Go.Proofs.Ytodmkjeankbieab
