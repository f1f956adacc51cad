/- Texts of this claim, packed. -/
import Derived.Test.YtodmkjeankbieaaGreatDoorKAllk3
import Derived.Deep.Cut
set_option linter.all false
namespace Go.Proofs.YtodmkjeankbieaaGreatDoor
open Go.RowKit Go.Sort

def wrongV (p : Pg) (n : Nat) (steps : Int) : Int := if mayB p = false then 2 else if 40 < n then 1 else if steps < 0 ∨ 3000 < steps then 3 else 0

set_option maxHeartbeats 1000000 in
set_option maxRecDepth 100000 in
theorem Wrong_any (R : Nat → Prop) (v : Value) (p : Pg) (A : Option Addr) (n c : Nat) (steps : Int) (w : World) (h : RdPg w R v p) (hn : n ≤ 9223372036854775807) :
   Calls Tryz.prog 23 #[v, .slice A n c, .int .i64 steps] w fun e w' => e = .returned (.int .i64 (wrongV p n steps)) ∧ Fr w w' := by
 have H := Lib.hid h
 obtain ⟨vw, vc, rfl, ⟨A1, c1, rfl, hl, hr⟩, ⟨A', c', rfl, hl', hr', ho'⟩⟩ := h
 clear hr hr' ho' hl hl'
 have HM := Lib.hid (fun w2 (hf : Fr w w2) => May_any R _ p w2 (H.out.kept hf (fun _ _ h => h)))
 have HF0 := Lib.hid (show Fr w (w.alloc (.cells #[.slice A1 p.wide.length c1, .slice A' p.code.length c'] 28)) from (Kept.refl _ w).alloc _)
 go_enter Tryz.func23, Tryz.ntmps23
 go_wp2_with fail
 cases hm : mayB p with
 | false =>
   rw [hm] at HM
   have HW : Hid (wrongV p n steps = 2) := by show _ = _; unfold wrongV; rw [if_pos hm]
   clear hm
   refine (HM.out _ HF0.out).mono ?_
   rintro e w2 ⟨rfl, f2⟩
   have HF := Lib.hid (HF0.out.trans f2)
   clear f2
   go_wp2
   go_ret
   exact ⟨ret_i HW.out.symm, HF.out⟩
 | true =>
   rw [hm] at HM
   have HW : Hid (wrongV p n steps = if 40 < n then 1 else if steps < 0 ∨ 3000 < steps then 3 else 0) := by show _ = _; unfold wrongV; rw [if_neg (by rw [hm]; decide)]
   clear hm
   refine (HM.out _ HF0.out).mono ?_
   rintro e w2 ⟨rfl, f2⟩
   have HF := Lib.hid (HF0.out.trans f2)
   clear f2
   go_wp2
   all_goals go_ret
   all_goals refine ⟨ret_i ?_, HF.out⟩
   all_goals rw [HW.out]
   all_goals first
     | (rw [if_pos (by omega)]; done)
     | (rw [if_neg (by omega), if_pos (by omega)]; done)
     | (rw [if_neg (by omega), if_neg (by omega)]; done)

def u32s (l : List Int) : List Value := l.map (Value.int .u32)
structure Mc (w : World) (g B : Nat) (r : Sh) (vo : Value) : Prop where
 ow : w.ownsRow B 35 1 vo r.out.length (u32s r.out)
 ex : ∃ A c, Blk w g 75 #[.int .i64 (r.state : Int), vo, .int .i64 (r.steps : Int), .int .i64 (r.pc : Int), .slice A r.ins.length c] ∧
   r.ins.length ≤ c ∧ c ≤ maxLen ∧ Reads w (fun b => b < B) 1 A r.ins.length (u32s r.ins)
def McS (g : Nat) (vo : Value) (k : Nat) : Prop := k = g ∨ vo.ownBlock = some k
theorem Mc.blk {w w' : World} {g B b : Nat} {r : Sh} {vo : Value} {t : TypeId} {cs : Array Value} (h : Mc w g B r vo) (hk : Kept (McS g vo) w w') (hb : Blk w b t cs) (h1 : t ≠ 75) (h2 : 35 ≠ t) : Blk w' b t cs := by
 obtain ⟨A, c, hB, _⟩ := h.ex
 refine hb.kept hk ?_
 rintro (e | e)
 · exact hb.ne_ hB h1 e
 · exact own_blk_ne h.ow hb h2 e
theorem slU32 : SlTy Tryz.prog 29 35 1 4 := SlTy.mk' (z := .int .u32 0) Tryz.underlying29 (by kernel_rfl) rfl (by decide)

def cutA (b off c : Nat) : Option Addr := some (if c = 1 then ⟨b, off, none⟩ else ⟨b, off + 1, none⟩)
theorem cut_reads {w : World} {R : Nat → Prop} {b off n c : Nat} {x : Value} {xs : List Value} (h : Reads w R 1 (some ⟨b, off, none⟩) (n + 1) (x :: xs)) (hc : n + 1 ≤ c) : Reads w R 1 (cutA b off c) n xs := by
 refine ⟨by have := h.1; simp at this; omega, fun hn => ?_⟩
 obtain ⟨b', off', hA, hR, hcell⟩ := h.2 (by omega)
 simp only [Option.some.injEq, Addr.mk.injEq, and_true] at hA
 obtain ⟨rfl, rfl⟩ := hA
 refine ⟨b, off + 1, by simp [cutA]; omega, hR, fun j u hu => ?_⟩
 have := hcell (j + 1) u (by simpa using hu)
 rw [Nat.add_assoc, Nat.add_comm 1 j]
 exact this

structure McW (w W : World) (g B : Nat) (r : Sh) (vo : Value) (A : Option Addr) (c : Nat) (op d a1 b1 cc : Int) (n : Nat) : Prop where
 blk : Blk W g 75 #[.int .i64 (r.state : Int), vo, .int .i64 ((r.steps + 1 : Nat) : Int), .int .i64 ((r.pc + 1 : Nat) : Int), .slice A r.ins.length c]
 ow : W.ownsRow B 35 1 vo r.out.length (u32s r.out)
 rd : Reads W (fun b => b < B) 1 A r.ins.length (u32s r.ins)
 ib : Blk W w.heap.size 45 #[.int .i64 op, .int .i64 d, .int .i64 a1, .int .i64 b1, .int .i64 cc, .int .u32 n]
 kp : Kept (McS g vo) w W

theorem McW.st {w W : World} {g B c : Nat} {r : Sh} {vo : Value} {A : Option Addr} {op d a1 b1 cc : Int} {n : Nat} (h : McW w W g B r vo A c op d a1 b1 cc n) (hg : B ≤ g) (j : Nat) (u : Value) :
   Blk (W.setCell ⟨g, j, none⟩ u) g 75 (#[Value.int .i64 (r.state : Int), vo, .int .i64 ((r.steps + 1 : Nat) : Int), .int .i64 ((r.pc + 1 : Nat) : Int), .slice A r.ins.length c].setIfInBounds j u) ∧
   (W.setCell ⟨g, j, none⟩ u).ownsRow B 35 1 vo r.out.length (u32s r.out) ∧ Reads (W.setCell ⟨g, j, none⟩ u) (fun b => b < B) 1 A r.ins.length (u32s r.ins) ∧ Kept (McS g vo) w (W.setCell ⟨g, j, none⟩ u) := by
 have hK : Kept (fun k => k = g) W (W.setCell ⟨g, j, none⟩ u) := (Kept.refl (fun k => k = g) W).setCell (p := ⟨g, j, none⟩) (fun _ => rfl) _
 exact ⟨h.blk.set_ j u, own_kept h.ow hK (fun k hk e => own_blk_ne h.ow h.blk (by decide) (e ▸ hk)), h.rd.kept hK (fun k hk e => by omega), h.kp.trans (hK.mono (fun i _ e => Or.inl e))⟩
theorem or_u64 (a b : Int) (ha : 0 ≤ a) (ha' : a < 4294967296) (hb : 0 ≤ b) (hb' : b < 4294967296) : bits .or .u64 (b * 4294967296) a = b * 4294967296 + a := by
 have := bits_join .u64 64 (by decide) (fun n h h' => by rw [IntKind.wrap_u64]; exact Int.emod_eq_of_lt h (by simpa using h')) 32 (x := b * 4294967296) (y := a)
 have h2 : (2 : Int) ^ 32 = 4294967296 := by decide
 have h3 : (2 : Int) ^ 64 = 18446744073709551616 := by decide
 rw [h2, h3] at this
 exact this (by omega) (by omega) (by omega) (by omega) (by omega) (by omega)
theorem and_u64 (a : Int) (ha : 0 ≤ a) (ha' : a < 18446744073709551616) : bits .and .u64 a 4294967295 = a % 4294967296 := by
 rw [(bits_u64 a 4294967295 ha (by omega) (by omega) (by omega)).1]
 have e : (4294967295 : Int).toNat = 2 ^ 32 - 1 := by decide
 unfold bw
 rw [if_pos rfl, e, Nat.and_two_pow_sub_one_eq_mod]
 have e2 : (2 : Nat) ^ 32 = 4294967296 := by decide
 rw [e2]
 omega
theorem raw_plain {r : Sh} {op d a1 b1 cc a : Int} {n : Nat} (h3 : op ≠ 3) (h4 : op ≠ 4) (h8 : op ≠ 8) (h9 : op ≠ 9) (h10 : op ≠ 10) : rawStep r ⟨op, d, a1, b1, cc, n⟩ a = ⟨r.pc + 1, r.ins, r.out, r.steps + 1, r.state⟩ := by
 unfold rawStep pcV
 simp only
 rw [if_neg (by omega), if_neg h3, if_neg h4, if_neg h10]
theorem McW.plain {w W : World} {g B c : Nat} {r : Sh} {vo : Value} {A : Option Addr} {op d a1 b1 cc a : Int} {n : Nat} (h : McW w W g B r vo A c op d a1 b1 cc n) (hl : r.ins.length ≤ c) (hcm : c ≤ maxLen)
   (h3 : op ≠ 3) (h4 : op ≠ 4) (h8 : op ≠ 8) (h9 : op ≠ 9) (h10 : op ≠ 10) : Mc W g B (rawStep r ⟨op, d, a1, b1, cc, n⟩ a) vo := by
 rw [raw_plain h3 h4 h8 h9 h10]
 exact ⟨h.ow, A, c, h.blk, hl, hcm, h.rd⟩

set_option maxHeartbeats 4000000 in
set_option maxRecDepth 100000 in
theorem Do_any (g B : Nat) (r : Sh) (vo : Value) (i : In) (a b : Int) (w : World) (h : Mc w g B r vo) (hg : B ≤ g) (hk : known i.op = true) (hin : i.n < 4294967296) (ha : 0 ≤ a ∧ a < 18446744073709551616) (hb : 0 ≤ b ∧ b < 18446744073709551616)
   (h5 : i.op = 5 → a < 4294967296 ∧ b < 4294967296) (hs : r.steps ≤ 100000) (ho : r.out.length ≤ 100000) (hp : r.pc ≤ 100000) (hc : i.op = 8 ∨ i.op = 9 → 0 ≤ i.c) (hi : ∀ n ∈ r.ins, 0 ≤ n ∧ n < 4294967296) :
   Calls Tryz.prog 26 #[.pointer (some ⟨g, 0, none⟩), i.val, .int .u64 a, .int .u64 b] w fun e w' => ∃ v, e = .returned (.int .u64 v) ∧ (gvs i.op = true → v = giveV i a b (r.ins.headD 0)) ∧ (∃ vo', Mc w' g B (rawStep r i a) vo') ∧ Kept (McS g vo) w w' := by
 obtain ⟨hO0, A, c, hB0, hl, hcm, hr0⟩ := h
 have q0 := hB0.cell 0
 have q1 := hB0.cell 1
 have q2 := hB0.cell 2
 have q3 := hB0.cell 3
 have q4 := hB0.cell 4
 have y2 := hB0.frozen 2
 have y3 := hB0.frozen 3
 simp only [List.getElem?_toArray, List.getElem?_cons_succ, List.getElem?_cons_zero] at q0 q1 q2 q3 q4
 have z0 := hB0.lt
 obtain ⟨op, d, a1, b1, cc, n⟩ := i
 obtain ⟨pc, ins, out, steps, state⟩ := r
 unfold In.val
 simp only at *
 have hK1 : Kept (fun k => k = g) w (((w.setCell ⟨g, 3, none⟩ (.int .i64 ((pc : Int) + 1))).setCell ⟨g, 2, none⟩ (.int .i64 ((steps : Int) + 1))).alloc (.cells #[.int .i64 op, .int .i64 d, .int .i64 a1, .int .i64 b1, .int .i64 cc, .int .u32 n] 45)) :=
   (((Kept.refl (fun k => k = g) w).setCell (p := ⟨g, 3, none⟩) (fun _ => rfl) _).setCell (p := ⟨g, 2, none⟩) (fun _ => rfl) _).alloc _
 have HW := Lib.hid (show McW w (((w.setCell ⟨g, 3, none⟩ (.int .i64 ((pc : Int) + 1))).setCell ⟨g, 2, none⟩ (.int .i64 ((steps : Int) + 1))).alloc (.cells #[.int .i64 op, .int .i64 d, .int .i64 a1, .int .i64 b1, .int .i64 cc, .int .u32 n] 45)) g B ⟨pc, ins, out, steps, state⟩ vo A c op d a1 b1 cc n from by
   refine ⟨?_, ?_, ?_, ?_, hK1.mono (fun i _ e => Or.inl e)⟩
   · exact (((hB0.set_ 3 (.int .i64 ((pc : Int) + 1))).set_ 2 (.int .i64 ((steps : Int) + 1))).alloc _)
   · exact own_kept hO0 hK1 (fun k hk e => own_blk_ne hO0 hB0 (by decide) (e ▸ hk))
   · exact hr0.kept hK1 (fun k hk e => by omega)
   · have := Blk.new ((w.setCell ⟨g, 3, none⟩ (.int .i64 ((pc : Int) + 1))).setCell ⟨g, 2, none⟩ (.int .i64 ((steps : Int) + 1))) 45 #[.int .i64 op, .int .i64 d, .int .i64 a1, .int .i64 b1, .int .i64 cc, .int .u32 n]
     simpa [World.setCell] using this)
 clear hB0 hO0 hr0 hK1
 have HI := Lib.hid hi
 have HK := Lib.hid hk
 have H5 := Lib.hid h5
 have HC := Lib.hid hc
 clear hi hk h5 hc
 obtain ⟨a0, a1'⟩ := ha
 obtain ⟨b0, b1'⟩ := hb
 go_enter Tryz.func26, Tryz.ntmps26
 go_upto_region 3 with (fail)
 clear q0 q1 q2 q3 q4 y2 y3
 generalize ((w.setCell ⟨g, 3, none⟩ (.int .i64 ((pc : Int) + 1))).setCell ⟨g, 2, none⟩ (.int .i64 ((steps : Int) + 1))).alloc (.cells #[.int .i64 op, .int .i64 d, .int .i64 a1, .int .i64 b1, .int .i64 cc, .int .u32 n] 45) = W at *
 have e0 := HW.out.ib.cell 0
 have e4 := HW.out.ib.cell 4
 have e5 := HW.out.ib.cell 5
 have q0 := HW.out.blk.cell 0
 have q1 := HW.out.blk.cell 1
 have q3 := HW.out.blk.cell 3
 have q4 := HW.out.blk.cell 4
 have y0 := HW.out.blk.frozen 0
 have y1 := HW.out.blk.frozen 1
 have y3 := HW.out.blk.frozen 3
 have y4 := HW.out.blk.frozen 4
 simp only [List.getElem?_toArray, List.getElem?_cons_succ, List.getElem?_cons_zero] at e0 e4 e5 q0 q1 q3 q4
 have z1 := HW.out.blk.lt
 have z2 := HW.out.ib.lt
 rcases known_cases HK.out with h | h | h | h | h | h | h | h | h | h | ⟨h1, h2⟩ | ⟨h1, h2⟩
 · subst h
   go_wp2
   go_ret
   refine ⟨_, rfl, fun _ => ?_, ⟨vo, HW.out.plain hl hcm (by decide) (by decide) (by decide) (by decide) (by decide)⟩, HW.out.kp⟩
   rfl
 · subst h
   go_wp2
   go_ret
   refine ⟨_, rfl, fun _ => ?_, ⟨vo, HW.out.plain hl hcm (by decide) (by decide) (by decide) (by decide) (by decide)⟩, HW.out.kp⟩
   rfl
 · subst h
   cases ins with
   | nil =>
     go_wp2
     go_ret
     refine ⟨_, rfl, fun _ => rfl, ⟨vo, ⟨HW.out.ow, A, c, HW.out.blk, hl, hcm, HW.out.rd⟩⟩, HW.out.kp⟩
   | cons x rest =>
     obtain ⟨b3, o3, rfl, hR3, hcell⟩ := HW.out.rd.2 (by simp)
     have s0 := hcell 0 (.int .u32 x) rfl
     rw [Nat.add_zero] at s0
     have hb3 := cell_lt s0
     have hx := HI.out x (by simp)
     obtain ⟨x0, x1⟩ := hx
     have hcut := Lib.hid (cut_reads HW.out.rd hl)
     simp only [List.length_cons] at *
     have hsl : ∀ w', (Instr.slice 29 (.slice (some ⟨b3, o3, none⟩) (rest.length + 1) c) (some (.int .i64 1)) none none).run Tryz.prog w' = .ok (.slice (cutA b3 o3 c) rest.length (c - 1)) w' := by
       intro w'
       unfold maxLen at hcm
       go_simp
       rw [if_pos (by omega)]
       unfold cutA
       by_cases hc1 : c = 1
       · rw [if_pos hc1, if_pos hc1]
       · rw [if_neg hc1, if_neg hc1]
     clear hcell
     go_wp2
     go_ret
     obtain ⟨s1, s2, s3, s4⟩ := HW.out.st hg 4 (.slice (cutA b3 o3 c) rest.length (c - 1))
     refine ⟨_, rfl, fun _ => rfl, ⟨vo, ⟨s2, cutA b3 o3 c, c - 1, s1, by show rest.length ≤ c - 1; omega, by omega, hcut.out.kept ((Kept.refl (fun k => k = g) W).setCell (p := ⟨g, 4, none⟩) (fun _ => rfl) _) (fun k hk e => by omega)⟩⟩, s4⟩
 · subst h
   have hne := own_blk_ne HW.out.ow HW.out.blk (by decide)
   go_wp2_with (at_builtin
                refine wpList_app (base := B) _ rfl slU32 (.tmp 72) (.tmp 75) rfl vo _ _ rfl (World.ownsRow.alloc HW.out.ow _) (fun _ => True) _ 1 1 _ rfl (Reads.lit' (by simp) trivial rfl) ?_ ?_ ?_ ?_ ?_
                · simp [Value.oneCell']
                · simp only; omega
                · unfold maxLen; simp only; omega
                · simp; omega
                intro v9 w9 hown9 hk9 hat9
                obtain ⟨A9, c9, rfl, _, _⟩ := own_reads hown9
                have hb9 := (HW.out.blk.alloc _).kept hk9 hne
                have p1 := hb9.cell 1
                have x1 := hb9.frozen 1
                simp only [List.getElem?_toArray, List.getElem?_cons_succ, List.getElem?_cons_zero] at p1
                have z9 := hb9.lt)
   have hK : Kept (fun k => k = g) w9 (w9.setCell ⟨g, 1, none⟩ (.slice A9 (out.length + 1) c9)) := (Kept.refl (fun k => k = g) w9).setCell (p := ⟨g, 1, none⟩) (fun _ => rfl) _
   have hx : u32s out ++ [Value.int .u32 (a % 4294967296)] = u32s (out ++ [a % 4294967296]) := by simp [u32s]
   go_ret
   refine ⟨_, rfl, fun h => by simp [gvs] at h, ⟨.slice A9 (out.length + 1) c9, ⟨?_, A, c, ?_, hl, hcm, ?_⟩⟩, ?_⟩
   · have := own_kept hown9 hK (fun k hk e => own_blk_ne hown9 hb9 (by decide) (e ▸ hk))
     rw [hx] at this
     simpa [rawStep] using this
   · have := hb9.set_ 1 (.slice A9 (out.length + 1) c9)
     simpa [rawStep, pcV] using this
   · have h2 := HW.out.rd.kept (((Kept.refl (fun k => vo.ownBlock = some k) W).alloc _).trans hk9) (fun k hk e => by have := (own_lt HW.out.ow e).1; omega)
     exact h2.kept hK (fun k hk e => by omega)
   · exact ((HW.out.kp.alloc _).trans (hk9.mono (fun i _ e => Or.inr e))).trans (hK.mono (fun i _ e => Or.inl e))
 · subst h
   obtain ⟨g1, g2⟩ := H5.out rfl
   go_wp2
   go_ret
   refine ⟨_, rfl, fun _ => ?_, ⟨vo, HW.out.plain hl hcm (by decide) (by decide) (by decide) (by decide) (by decide)⟩, HW.out.kp⟩
   exact or_u64 a b a0 g1 b0 g2
 · subst h
   go_wp2
   go_ret
   refine ⟨_, rfl, fun _ => ?_, ⟨vo, HW.out.plain hl hcm (by decide) (by decide) (by decide) (by decide) (by decide)⟩, HW.out.kp⟩
   exact and_u64 a a0 a1'
 · subst h
   go_wp2
   go_ret
   refine ⟨_, rfl, fun _ => ?_, ⟨vo, HW.out.plain hl hcm (by decide) (by decide) (by decide) (by decide) (by decide)⟩, HW.out.kp⟩
   rfl
 · subst h
   have hcc := HC.out (Or.inl rfl)
   obtain ⟨cn, rfl⟩ : ∃ cn : Nat, cc = (cn : Int) := ⟨cc.toNat, by omega⟩
   go_wp2
   go_ret
   obtain ⟨s1, s2, s3, s4⟩ := HW.out.st hg 3 (.int .i64 (cn : Int))
   refine ⟨_, rfl, fun h => by simp [gvs] at h, ⟨vo, ⟨s2, A, c, ?_, hl, hcm, s3⟩⟩, s4⟩
   simpa [rawStep, pcV] using s1
 · subst h
   have hcc := HC.out (Or.inr rfl)
   by_cases ha0 : a = 0
   · subst ha0
     go_wp2
     go_ret
     refine ⟨_, rfl, fun h => by simp [gvs] at h, ⟨vo, ⟨HW.out.ow, A, c, HW.out.blk, hl, hcm, HW.out.rd⟩⟩, HW.out.kp⟩
   · have hne : (a != 0) = true := by simpa using ha0
     have HA0 := Lib.hid ha0
     clear ha0
     obtain ⟨cn, rfl⟩ : ∃ cn : Nat, cc = (cn : Int) := ⟨cc.toNat, by omega⟩
     go_wp2
     go_ret
     obtain ⟨s1, s2, s3, s4⟩ := HW.out.st hg 3 (.int .i64 (cn : Int))
     refine ⟨_, rfl, fun h => by simp [gvs] at h, ⟨vo, ⟨s2, A, c, ?_, hl, hcm, s3⟩⟩, s4⟩
     simpa [rawStep, pcV, HA0.out] using s1
 · subst h
   go_wp2
   go_ret
   obtain ⟨s1, s2, s3, s4⟩ := HW.out.st hg 0 (.int .i64 1)
   refine ⟨_, rfl, fun h => by simp [gvs] at h, ⟨vo, ⟨s2, A, c, ?_, hl, hcm, s3⟩⟩, s4⟩
   simpa [rawStep, pcV] using s1
 · have e : ∀ k : Int, k ≤ 20 → (op == k) = false := fun k hk => by rw [beq_eq_false_iff_ne]; omega
   have e1 := e 1 (by omega)
   have e2 := e 2 (by omega)
   have e3 := e 3 (by omega)
   have e4' := e 4 (by omega)
   have e5' := e 5 (by omega)
   have e6 := e 6 (by omega)
   have e7 := e 7 (by omega)
   have e8 := e 8 (by omega)
   have e9 := e 9 (by omega)
   have e10 := e 10 (by omega)
   clear e
   have HNr := Lib.hid (fun w => Narrow_any (op - 20) (a % 4294967296) (b % 4294967296) (by omega) (by omega) (by omega) (by omega) w)
   go_wp2_with (go_at_call 54; refine (HNr.out _).mono ?_; rintro e w' ⟨rfl, rfl⟩)
   go_ret
   refine ⟨_, rfl, fun _ => ?_, ⟨vo, HW.out.plain hl hcm (by omega) (by omega) (by omega) (by omega) (by omega)⟩, HW.out.kp⟩
   have hnr := narrowOp_range (op - 20) (a % 4294967296) (b % 4294967296) (by omega) (by omega)
   rw [IntKind.wrap_u64, Int.emod_eq_of_lt (by omega) (by omega)]
   unfold giveV
   simp only
   rw [if_neg (by omega), if_neg (by omega), if_neg (by omega), if_neg (by omega), if_neg (by omega), if_neg (by omega), if_neg (by omega)]
 · have e : ∀ k : Int, k ≤ 40 → (op == k) = false := fun k hk => by rw [beq_eq_false_iff_ne]; omega
   have e1 := e 1 (by omega)
   have e2 := e 2 (by omega)
   have e3 := e 3 (by omega)
   have e4' := e 4 (by omega)
   have e5' := e 5 (by omega)
   have e6 := e 6 (by omega)
   have e7 := e 7 (by omega)
   have e8 := e 8 (by omega)
   have e9 := e 9 (by omega)
   have e10 := e 10 (by omega)
   clear e
   have HNr := Lib.hid (fun w => Wide_any (op - 40) a b (by omega) (by omega) (by omega) (by omega) w)
   go_wp2_with (go_at_call 53; refine (HNr.out _).mono ?_; rintro e w' ⟨rfl, rfl⟩)
   go_ret
   refine ⟨_, rfl, fun _ => ?_, ⟨vo, HW.out.plain hl hcm (by omega) (by omega) (by omega) (by omega) (by omega)⟩, HW.out.kp⟩
   unfold giveV
   simp only
   rw [if_neg (by omega), if_neg (by omega), if_neg (by omega), if_neg (by omega), if_neg (by omega), if_neg (by omega), if_pos h1]
end Go.Proofs.YtodmkjeankbieaaGreatDoor


namespace Go.Proofs.YtodmkjeankbieaaGreatDoor
open Go.RowKit Go.Sort

theorem Mc.ended {w : World} {g B : Nat} {r : Sh} {vo : Value} (h : Mc w g B r vo) (hg : B ≤ g) : Mc (w.setCell ⟨g, 0, none⟩ (.int .i64 2)) g B ⟨r.pc, r.ins, r.out, r.steps, 2⟩ vo := by
 obtain ⟨how, A, c, hb, h1, h2, hr⟩ := h
 have hK : Kept (fun k => k = g) w (w.setCell ⟨g, 0, none⟩ (.int .i64 2)) := (Kept.refl (fun k => k = g) w).setCell (p := ⟨g, 0, none⟩) (fun _ => rfl) _
 exact ⟨own_kept how hK (fun k hk e => own_blk_ne how hb (by decide) (e ▸ hk)), A, c, hb.set_ 0 (.int .i64 2), h1, h2, hr.kept hK (fun b hb e => by omega)⟩

def GoPost {σ : Type} (g B n : Nat) (code : List In) (M : Mach σ) (x0 : Sh × σ) (I : World → Sh × σ → Prop) (w' : World) : Prop :=
 ∃ (w1 : World) (vo : Value), I w1 (mRun code M n x0) ∧ Mc w' g B (mRun code M n x0).1 vo ∧ Kept (fun k => k = g) w1 w'
theorem GoPost.of {σ : Type} {g B n : Nat} {code : List In} {M : Mach σ} {x0 x : Sh × σ} {I : World → Sh × σ → Prop} {w1 w' : World} {vo : Value} (hi : I w1 x) (he : x = mRun code M n x0) (hm : Mc w' g B x.1 vo) (hk : Kept (fun k => k = g) w1 w') :
   GoPost g B n code M x0 I w' := by subst he; exact ⟨w1, vo, hi, hm, hk⟩

set_option maxHeartbeats 1000000 in
set_option maxRecDepth 100000 in
theorem Go_any {σ : Type} (f : Nat) (hf : ∀ args w, Sem.run Tryz.prog (callFunc f args) w = .ok (.enter f args) w) (cap : Array Value) (g B n c : Nat) (A : Option Addr) (code : List In) (M : Mach σ) (x0 : Sh × σ) (I : World → Sh × σ → Prop)
   (hI : ∀ w x, I w x → ∃ vo, Mc w g B (unF x.1) vo)
   (hstep : ∀ w x, I w x → At code M x0 n x → x.1.state = 0 → x.1.steps < n → Calls Tryz.prog f (#[.int .i64 (x.1.pc : Int)] ++ cap) w fun e w' => e = .returned (.tuple #[]) ∧ I w' (mStep code M x))
   (w : World) (hg : B ≤ g) (hc : code.length ≤ 1000) (hn : n ≤ 100000) (h0 : I w x0) (hat : At code M x0 n x0) :
   Calls Tryz.prog 24 #[.pointer (some ⟨g, 0, none⟩), .slice A code.length c, .int .i64 (n : Int), .func (.func f) #[] cap] w fun e w' =>
     e = .returned (.tuple #[]) ∧ GoPost g B n code M x0 I w' := by
 have HS := Lib.hid hstep
 have H0 := Lib.hid h0
 have HA := Lib.hid hat
 clear hstep h0 hat
 go_enter Tryz.func24, Tryz.ntmps24
 go_wp2
 go_loopw [] (fun wr => ∃ x, Hid (I wr x) ∧ Hid (At code M x0 n x)) (fun wr => n - (match wr.cell? ⟨g, 2, none⟩ with | some v => (intOf v).toNat | none => 0))
 case atStart => exact ⟨x0, H0.out, HA.out⟩
 case round =>
   obtain ⟨x, hi, ha⟩ := hrel
   obtain ⟨vo, hM⟩ := hI _ _ hi.out
   obtain ⟨how, Ai, ci, hB, hl, hcm, hr⟩ := id hM
   have q0 := hB.cell 0
   have q2 := hB.cell 2
   have q3 := hB.cell 3
   have z0 := hB.lt
   have y0 := hB.frozen 0
   have hle := ha.out.le
   simp only [List.getElem?_toArray, List.getElem?_cons_succ, List.getElem?_cons_zero] at q0 q2 q3
   have HM := Lib.hid hM
   clear hM how hB hl hcm hr
   have e2 : (unF x.1).steps = x.1.steps := rfl
   have e3 : (unF x.1).pc = x.1.pc := rfl
   rw [e2] at q2
   rw [e3] at q3
   by_cases hst : x.1.state = 0
   · have e0 : (unF x.1).state = 0 := by unfold unF; simp [hst]
     rw [e0] at q0
     have hpc := ha.out.st0 hst
     have hp0 : (x.1.pc : Int) < (code.length : Int) := by omega
     by_cases hs : x.1.steps < n
     · have hs0 : (x.1.steps : Int) < (n : Int) := by omega
       have HX := Lib.hid (HS.out wr x hi.out ha.out hst hs)
       have HA2 := Lib.hid (ha.out.step hst hs)
       have hq2 := q2
       go_wp2_with fail
       refine HX.out.mono ?_
       rintro e w1 ⟨rfl, h1⟩
       obtain ⟨vo1, hM1⟩ := hI _ _ h1
       obtain ⟨_, A1, c1, hB1, _⟩ := hM1
       have r2 := hB1.cell 2
       simp only [List.getElem?_toArray, List.getElem?_cons_succ, List.getElem?_cons_zero] at r2
       rw [show (unF (mStep code M x).1).steps = x.1.steps + 1 from rfl] at r2
       go_wp2
       go_roundw
       case rel => exact ⟨_, h1, HA2.out⟩
       case measure =>
         rw [q2, r2]
         simp [intOf]
         omega
     · have hs0 : ¬ (x.1.steps : Int) < (n : Int) := by omega
       have hE := Lib.hid (ha.out.stop (Or.inr hs))
       have hSame := Lib.hid (ha.out.same (Or.inr hpc))
       go_wp2
       go_end0
       refine ⟨rfl, GoPost.of hi.out hE.out (vo := vo) ?_ (Kept.refl _ _)⟩
       have := HM.out
       rwa [hSame.out] at this
   · have hE := Lib.hid (ha.out.stop (Or.inl hst))
     by_cases h1 : x.1.state = 1
     · have e0 : (unF x.1).state = 1 := by unfold unF; simp [h1]
       have hSame := Lib.hid (ha.out.same (Or.inl (by rw [e0]; decide)))
       rw [e0] at q0
       go_wp2
       go_end0
       refine ⟨rfl, GoPost.of hi.out hE.out (vo := vo) ?_ (Kept.refl _ _)⟩
       have := HM.out
       rwa [hSame.out] at this
     · have h2 : x.1.state = 2 := by have := ha.out.st; omega
       have e0 : (unF x.1).state = 0 := by unfold unF; simp [h2]
       have hpc := ha.out.st2 h2
       have hp0 : ¬ (x.1.pc : Int) < (code.length : Int) := by omega
       have hEnd := Lib.hid (ha.out.ended e0 hpc)
       rw [e0] at q0
       go_wp2
       go_end0
       refine ⟨rfl, GoPost.of hi.out hE.out (vo := vo) ?_ ((Kept.refl (fun k => k = g) wr).setCell (p := ⟨g, 0, none⟩) (fun _ => rfl) _)⟩
       rw [hEnd.out]
       exact HM.out.ended hg
end Go.Proofs.YtodmkjeankbieaaGreatDoor


namespace Go.Proofs.YtodmkjeankbieaaGreatDoor
open Go.RowKit Go.Sort

def mkU (n : Nat) (f : Int → Int) : Array Value := ((List.range n).map fun (t : Nat) => Value.int .u64 (f (t : Int))).toArray
theorem mkU_at {n : Nat} {f : Int → Int} {t : Nat} (h : t < n) : (mkU n f)[t]? = some (.int .u64 (f t)) := by
 unfold mkU
 simp [List.getElem?_range h]
theorem mkU_set {n : Nat} {f : Int → Int} {t : Nat} {x : Int} : (mkU n f).setIfInBounds t (.int .u64 x) = mkU n (upd f t x) := by
 unfold mkU upd
 rw [List.setIfInBounds_toArray]
 congr 1
 apply List.ext_getElem
 · simp
 · intro i h1 h2
   simp at h1
   rw [List.getElem_set]
   by_cases h : t = i
   · subst h; simp
   · rw [if_neg h]
     simp
     intro e; exact absurd (by omega) h
theorem Blk.ucell {w : World} {g : Nat} {e : TypeId} {n : Nat} {f : Int → Int} (h : Blk w g e (mkU n f)) {t : Nat} (ht : t < n) : w.cell? ⟨g, t, none⟩ = some (.int .u64 (f t)) := by
 rw [h.cell, mkU_at ht]
theorem Blk.uset {w : World} {g : Nat} {e : TypeId} {n : Nat} {f : Int → Int} (h : Blk w g e (mkU n f)) (t : Nat) (x : Int) : Blk (w.setCell ⟨g, t, none⟩ (.int .u64 x)) g e (mkU n (upd f t x)) := by
 have := h.set_ t (.int .u64 x)
 rwa [mkU_set] at this

structure Clo (w : World) (bp bm bt g B : Nat) (p : Pg) (A1 : Option Addr) (c1 : Nat) (A : Option Addr) (c : Nat) (T : Int → Int) : Prop where
 pb : Blk w bp 28 #[.slice A1 p.wide.length c1, .slice A p.code.length c]
 mb : Blk w bm 73 #[.pointer (some ⟨g, 0, none⟩)]
 tb : Blk w bt 72 (mkU 12 T)
 rd : Reads w (fun b => b < B) 6 A p.code.length (p.code.flatMap In.cells)

theorem Clo.keep {w w' : World} {bp bm bt g B : Nat} {p : Pg} {A1 A : Option Addr} {c1 c : Nat} {T : Int → Int} {r : Sh} {vo : Value} (h : Clo w bp bm bt g B p A1 c1 A c T) (hm : Mc w g B r vo) (hg : B ≤ g)
   (hk : Kept (McS g vo) w w') : Clo w' bp bm bt g B p A1 c1 A c T :=
 ⟨hm.blk hk h.pb (by decide) (by decide), hm.blk hk h.mb (by decide) (by decide), hm.blk hk h.tb (by decide) (by decide), h.rd.kept hk (fun b hb e => by
   rcases e with e | e
   · omega
   · have := (own_lt hm.ow e).1; omega)⟩
theorem Mc.kept {w w' : World} {S : Nat → Prop} {g B : Nat} {r : Sh} {vo : Value} (h : Mc w g B r vo) (hk : Kept S w w') (hg : ¬ S g) (ho : ∀ k, vo.ownBlock = some k → ¬ S k) (hB : ∀ b, b < B → ¬ S b) : Mc w' g B r vo := by
 obtain ⟨how, A, c, hb, h1, h2, hr⟩ := h
 exact ⟨own_kept how hk ho, A, c, hb.kept hk hg, h1, h2, hr.kept hk hB⟩
theorem Mc.fr_ {w w' : World} {g B : Nat} {r : Sh} {vo : Value} (h : Mc w g B r vo) (hk : Fr w w') : Mc w' g B r vo := h.kept hk (fun h => h) (fun _ _ h => h) (fun _ _ h => h)
theorem Clo.fr_ {w w' : World} {bp bm bt g B : Nat} {p : Pg} {A1 A : Option Addr} {c1 c : Nat} {T : Int → Int} (h : Clo w bp bm bt g B p A1 c1 A c T) (hk : Fr w w') : Clo w' bp bm bt g B p A1 c1 A c T :=
 ⟨h.pb.kept hk (fun h => h), h.mb.kept hk (fun h => h), h.tb.kept hk (fun h => h), h.rd.kept hk (fun _ _ h => h)⟩

def RunS (bt g : Nat) (vo : Value) (k : Nat) : Prop := k = bt ∨ McS g vo k

set_option maxHeartbeats 4000000 in
set_option maxRecDepth 100000 in
theorem Run1_any (bp bm bt g B : Nat) (p : Pg) (A1 : Option Addr) (c1 : Nat) (A : Option Addr) (c : Nat) (T : Int → Int) (r : Sh) (vo : Value) (w : World) (hC : Clo w bp bm bt g B p A1 c1 A c T) (hM : Mc w g B r vo) (hg : B ≤ g) (hbt : B ≤ bt)
   (hm : mayB p = true) (hn : (inAt p.code r.pc).n < 4294967296) (hpc : r.pc < p.code.length) (hT : ∀ t, 0 ≤ T t ∧ T t < 18446744073709551616) (hw : ∀ t, wd p.wide t = false → T t < 4294967296)
   (hs : r.steps ≤ 100000) (ho : r.out.length ≤ 100000) (hi : ∀ n ∈ r.ins, 0 ≤ n ∧ n < 4294967296) :
   Calls Tryz.prog 25 #[.int .i64 (r.pc : Int), .pointer (some ⟨bp, 0, none⟩), .pointer (some ⟨bm, 0, none⟩), .pointer (some ⟨bt, 0, none⟩)] w fun e w' => e = .returned (.tuple #[]) ∧
     (∃ vo', Mc w' g B (rawStep r (inAt p.code r.pc) (T (inAt p.code r.pc).a)) vo') ∧
     Clo w' bp bm bt g B p A1 c1 A c (if gvs (inAt p.code r.pc).op then upd T (inAt p.code r.pc).d (giveV (inAt p.code r.pc) (T (inAt p.code r.pc).a) (T (inAt p.code r.pc).b) (r.ins.headD 0)) else T) ∧ Kept (RunS bt g vo) w w' := by
 have hl := mayB_len hm
 have hI := mayB_ins hm (inAt_mem hpc)
 obtain ⟨⟨ha0, ha1⟩, ⟨hb0, hb1⟩, ⟨hd0, hd1⟩, hc0⟩ := ins_fields hI hl.1
 have hok := insOk hI
 have hx : p.code[r.pc]? = some (inAt p.code r.pc) := by rw [inAt_get hpc]; exact List.getElem?_eq_getElem hpc
 obtain ⟨b, off, rfl, hbB, d0, d1, d2, d3, d4, d5⟩ := hC.rd.ins hx
 have h5 : (inAt p.code r.pc).op = 5 → T (inAt p.code r.pc).a < 4294967296 ∧ T (inAt p.code r.pc).b < 4294967296 := fun h => ⟨hw _ (hok.w5 h).2.1, hw _ (hok.w5 h).2.2⟩
 have hk := hok.kn
 have hTa := hT (inAt p.code r.pc).a
 have hTb := hT (inAt p.code r.pc).b
 clear hI hok hx hw hT hm
 generalize inAt p.code r.pc = i at *
 obtain ⟨op, d, a, b1, cc, n⟩ := i
 simp only at *
 obtain ⟨an, rfl⟩ : ∃ an : Nat, a = (an : Int) := ⟨a.toNat, by omega⟩
 obtain ⟨bn, rfl⟩ : ∃ bn : Nat, b1 = (bn : Int) := ⟨b1.toNat, by omega⟩
 obtain ⟨dn, rfl⟩ : ∃ dn : Nat, d = (dn : Int) := ⟨d.toNat, by omega⟩
 have p0 := hC.pb.cell 1
 have m0 := hC.mb.cell 0
 simp only [List.getElem?_toArray, List.getElem?_cons_succ, List.getElem?_cons_zero] at p0 m0
 have ta := hC.tb.ucell (t := an) (by omega)
 have tb := hC.tb.ucell (t := bn) (by omega)
 have zb := cell_lt d0
 have zm := hC.mb.lt
 have zt := hC.tb.lt
 have zp := hC.pb.lt
 have hp0 : (0 : Int) ≤ (r.pc : Int) := Int.natCast_nonneg _
 have hp1 : (r.pc : Int) < (p.code.length : Int) := by omega
 have HC := Lib.hid hC
 have HM := Lib.hid hM
 have H5 := Lib.hid h5
 have HK := Lib.hid hk
 have HI := Lib.hid hi
 clear hC hM h5 hk hi
 have HD := Lib.hid (fun w (hm : Mc w g B r vo) => Do_any g B r vo ⟨op, dn, an, bn, cc, n⟩ (T an) (T bn) w hm hg HK.out hn hTa hTb H5.out hs ho (by omega) (fun _ => hc0) HI.out)
 have HG := Lib.hid (fun w => Gives_any ⟨op, dn, an, bn, cc, n⟩ w HK.out)
 unfold In.val at HD HG
 simp only at HD HG
 obtain ⟨pc, ins, out, steps, state⟩ := r
 simp only at *
 generalize hT' : (if gvs op = true then upd T (dn : Int) (giveV ⟨op, (dn : Int), (an : Int), (bn : Int), cc, n⟩ (T (an : Int)) (T (bn : Int)) (ins.headD 0)) else T) = T'
 have HT := Lib.hid hT'
 clear hT'
 go_enter Tryz.func25, Tryz.ntmps25
 go_wp2
 have HB := Lib.hid (Blk.new w 45 #[.int .i64 op, .int .i64 dn, .int .i64 an, .int .i64 bn, .int .i64 cc, .int .u32 n])
 have HF : Hid (Fr w (w.alloc (.cells #[.int .i64 op, .int .i64 dn, .int .i64 an, .int .i64 bn, .int .i64 cc, .int .u32 n] 45))) := (Kept.refl _ w).alloc _
 generalize w.alloc (.cells #[.int .i64 op, .int .i64 dn, .int .i64 an, .int .i64 bn, .int .i64 cc, .int .u32 n] 45) = W at *
 have HC1 := Lib.hid (HC.out.fr_ HF.out)
 have HM1 := Lib.hid (HM.out.fr_ HF.out)
 clear d0 d1 d2 d3 d4 d5 p0 m0 ta tb zb zm zt zp
 have m0 := HC1.out.mb.cell 0
 have e0 := HB.out.cell 0
 have e1 := HB.out.cell 1
 have e2 := HB.out.cell 2
 have e3 := HB.out.cell 3
 have e4 := HB.out.cell 4
 have e5 := HB.out.cell 5
 simp only [List.getElem?_toArray, List.getElem?_cons_succ, List.getElem?_cons_zero] at m0 e0 e1 e2 e3 e4 e5
 have ta := HC1.out.tb.ucell (t := an) (by omega)
 have tb := HC1.out.tb.ucell (t := bn) (by omega)
 have zt := HC1.out.tb.lt
 have hTi1 : (an : Int) < 12 := by omega
 have hTi2 : (bn : Int) < 12 := by omega
 go_region_held3 (fun w' => w'.cell? ⟨bm, 0, none⟩ = some (.pointer (some ⟨g, 0, none⟩)) ∧ w'.cell? ⟨w.heap.size, 0, none⟩ = some (.int .i64 op) ∧ w'.cell? ⟨w.heap.size, 1, none⟩ = some (.int .i64 dn) ∧ w'.cell? ⟨w.heap.size, 2, none⟩ = some (.int .i64 an) ∧
     w'.cell? ⟨w.heap.size, 3, none⟩ = some (.int .i64 bn) ∧ w'.cell? ⟨w.heap.size, 4, none⟩ = some (.int .i64 cc) ∧ w'.cell? ⟨w.heap.size, 5, none⟩ = some (.int .u32 n) ∧
     w'.cell? ⟨bt, an, none⟩ = some (.int .u64 (T an)) ∧ w'.cell? ⟨bt, bn, none⟩ = some (.int .u64 (T bn)))
   (first
     | go_keep
     | (go_split_ands
        have hC3 := HC1.out.keep HM1.out hg (((Kept.refl (McS g vo) W).drew).trans hk3)
        have hB3 := HM1.out.blk (((Kept.refl (McS g vo) W).drew).trans hk3) HB.out (by decide) (by decide)
        refine ⟨?_, ?_, ?_, ?_, ?_, ?_, ?_, ?_, ?_⟩
        · exact hC3.mb.cell 0
        · exact hB3.cell 0
        · exact hB3.cell 1
        · exact hB3.cell 2
        · exact hB3.cell 3
        · exact hB3.cell 4
        · exact hB3.cell 5
        · exact hC3.tb.ucell (t := an) (by omega)
        · exact hC3.tb.ucell (t := bn) (by omega)))
   (first
     | (go_at_call 26; refine (HD.out _ (HM1.out.fr_ ((Kept.refl _ W).drew))).mono ?_; rintro e w3 ⟨v, rfl, hv, ⟨vo3, hm3⟩, hk3⟩))
 rename_i hHeld
 obtain ⟨-, e0, e1, e2, e3, e4, e5, -, -⟩ := hHeld
 have hk3' : Kept (McS g vo) W w3 := ((Kept.refl (McS g vo) W).drew).trans hk3
 have HC3 := Lib.hid (HC1.out.keep HM1.out hg hk3')
 have HB3 := Lib.hid (HM1.out.blk hk3' HB.out (by decide) (by decide))
 have HM3 := Lib.hid hm3
 have HV := Lib.hid hv
 have HK3 : Hid (Kept (RunS bt g vo) w w3) := (HF.out.mono (fun i _ h => h.elim)).trans (hk3'.mono (fun i _ h => Or.inr h))
 clear hm3 hv hk3 hk3' HD HM HM1 HC HC1 HB HF m0 ta tb zt
 cases hgv : gvs op with
 | false =>
   have h' := HT.out
   rw [if_neg (by rw [hgv]; decide)] at h'
   subst h'
   rw [hgv] at HG
   clear hgv HV HT
   go_wp2_with (go_at_call 21; refine (HG.out _).mono ?_; rintro e w4 ⟨rfl, f4⟩)
   go_end0
   exact ⟨rfl, ⟨vo3, HM3.out.fr_ f4⟩, HC3.out.fr_ f4, HK3.out.trans (f4.mono (fun i _ h => h.elim))⟩
 | true =>
   have h' := HT.out
   rw [if_pos hgv, ← HV.out hgv] at h'
   have HT2 := Lib.hid h'
   rw [hgv] at HG
   clear hgv HV HT h'
   have z0 := HB3.out.lt
   have zt := HC3.out.tb.lt
   go_wp2_with (go_at_call 21; refine (HG.out _).mono ?_; rintro e w4 ⟨rfl, f4⟩; have g1 := (f4.cell z0).trans e1; have hC4 := HC3.out.fr_ f4; have t4 := hC4.tb.ucell (t := dn) (by omega); have t5 := hC4.tb.frozen dn; have z4 := hC4.tb.lt)
   have hKs : Kept (fun k => k = bt) w4 (w4.setCell ⟨bt, dn, none⟩ (.int .u64 v)) := (Kept.refl (fun k => k = bt) w4).setCell (p := ⟨bt, dn, none⟩) (fun _ => rfl) _
   have hM4 := HM3.out.fr_ f4
   obtain ⟨how, Am, cm, hbm, _⟩ := id hM4
   go_end0
   refine ⟨rfl, ⟨vo3, hM4.kept hKs (fun e => hbm.ne_ hC4.tb (by decide) e) (fun k hk e => own_blk_ne how hC4.tb (by decide) (e ▸ hk)) (fun b hb e => by omega)⟩, ?_, ?_⟩
   · rw [← HT2.out]
     exact ⟨hC4.pb.kept hKs (hC4.pb.ne_ hC4.tb (by decide)), hC4.mb.kept hKs (hC4.mb.ne_ hC4.tb (by decide)), hC4.tb.uset dn v, hC4.rd.kept hKs (fun b hb e => by omega)⟩
   · exact (HK3.out.trans (f4.mono (fun i _ h => h.elim))).trans (hKs.mono fun i _ e => Or.inl e)
end Go.Proofs.YtodmkjeankbieaaGreatDoor


namespace Go.Proofs.YtodmkjeankbieaaGreatDoor
open Go.RowKit Go.Sort

theorem Reads.old {w : World} {R : Nat → Prop} {size n : Nat} {A : Option Addr} {xs : List Value} (h : Reads w R size A n xs) (hs : 0 < size) : Reads w (fun b => b < w.heap.size) size A n xs := by
 refine ⟨h.1, fun hn => ?_⟩
 obtain ⟨b, off, e, _, hc⟩ := h.2 hn
 have hl : 0 < xs.length := by rw [h.1]; exact Nat.mul_pos hn hs
 exact ⟨b, off, e, cell_lt (hc 0 xs[0] (List.getElem?_eq_getElem hl)), hc⟩

def RdSh (w : World) (R : Nat → Prop) (v : Value) (x : Sh) : Prop :=
 ∃ A c, v = .agg #[.int .i64 (x.state : Int), .slice A x.out.length c, .int .i64 (x.steps : Int)] ∧ x.out.length ≤ 100000 ∧ Reads w R 1 A x.out.length (u32s x.out)
theorem RdSh.zero (w : World) (R : Nat → Prop) : RdSh w R (.agg #[.int .i64 0, .slice none 0 0, .int .i64 0]) (sh0 []) := ⟨none, 0, rfl, by simp [sh0], Reads.none_⟩
def RunPost (w : World) (wr : Int) (x : Sh) (e : Ending) (w' : World) : Prop :=
 Fr w w' ∧ ((wr ≠ 0 ∧ e = .returned (.tuple #[.agg #[.int .i64 0, .slice none 0 0, .int .i64 0], .int .i64 wr])) ∨ (wr = 0 ∧ ∃ v, e = .returned (.tuple #[v, .int .i64 0]) ∧ RdSh w' (fun b => w.heap.size ≤ b) v x))

def runW (w2 : World) (ins : Value) : World :=
 ((w2.alloc (.cells #[.int .u64 0, .int .u64 0, .int .u64 0, .int .u64 0, .int .u64 0, .int .u64 0, .int .u64 0, .int .u64 0, .int .u64 0, .int .u64 0, .int .u64 0, .int .u64 0] 72)).alloc
   (.cells #[.int .i64 0, .slice none 0 0, .int .i64 0, .int .i64 0, ins] 75)).alloc (.cells #[.pointer (some ⟨w2.heap.size + 1, 0, none⟩)] 73)

theorem wrong_0 {p : Pg} {n : Nat} {steps : Int} (h : wrongV p n steps = 0) : mayB p = true ∧ n ≤ 40 ∧ 0 ≤ steps ∧ steps ≤ 3000 := by
 unfold wrongV at h
 cases hm : mayB p with
 | false => rw [hm] at h; simp at h
 | true =>
   rw [hm] at h
   simp only [Bool.true_eq_false, if_false] at h
   split at h
   · cases h
   · split at h
     · cases h
     · exact ⟨rfl, by omega, by omega, by omega⟩

def RunI (w0 : World) (bs bp bm bt g : Nat) (p : Pg) (A1 : Option Addr) (c1 : Nat) (A : Option Addr) (c : Nat) (w : World) (x : Sh × (Int → Int)) : Prop :=
 (∃ vo, Mc w g w0.heap.size (unF x.1) vo) ∧ Clo w bp bm bt g w0.heap.size p A1 c1 A c x.2 ∧ Temps p x.2 ∧ Fr w0 w ∧ Blk w bs 47 #[.int .i64 0, .slice none 0 0, .int .i64 0]

theorem RunI.step {w0 w : World} {bs bp bm bt g n : Nat} {p : Pg} {A1 : Option Addr} {c1 : Nat} {A : Option Addr} {c : Nat} {ins : List Int} {x : Sh × (Int → Int)} (h : RunI w0 bs bp bm bt g p A1 c1 A c w x) (hg : w0.heap.size ≤ g) (hbt : w0.heap.size ≤ bt)
   (hm : mayB p = true) (ho : ∀ m ∈ p.code, m.ok) (hi : ∀ n ∈ ins, 0 ≤ n ∧ n < 4294967296) (hn : n ≤ 100000) (hat : At p.code (mTemps p) (sh0 ins, fun _ => 0) n x) (h0 : x.1.state = 0) :
   Calls Tryz.prog 25 (#[.int .i64 (x.1.pc : Int)] ++ #[.pointer (some ⟨bp, 0, none⟩), .pointer (some ⟨bm, 0, none⟩), .pointer (some ⟨bt, 0, none⟩)]) w fun e w' => e = .returned (.tuple #[]) ∧ RunI w0 bs bp bm bt g p A1 c1 A c w' (mStep p.code (mTemps p) x) := by
 obtain ⟨⟨vo, hM⟩, hC, hT, hF, hS⟩ := h
 have hpc := hat.st0 h0
 have hin : ∀ y ∈ x.1.ins, 0 ≤ y ∧ y < 4294967296 := fun y hy => hi y (hat.ins y hy)
 have hout := hat.out rfl
 have hle := hat.le
 refine (Run1_any bp bm bt g w0.heap.size p A1 c1 A c x.2 (unF x.1) vo w hC hM hg hbt hm (ho _ (inAt_mem hpc)).2.2.2.2.2 hpc (fun t => ⟨hT.ge t, hT.lt t⟩) hT.nar (by show x.1.steps ≤ 100000; omega) (by show x.1.out.length ≤ 100000; omega) hin).mono ?_
 rintro e w' ⟨rfl, ⟨vo', hM'⟩, hC', hk⟩
 refine ⟨rfl, ⟨vo', ?_⟩, hC', hT.step hm (fun i hi => (ho i hi).2.2.2.2.2) hpc hin, ?_, ?_⟩
 · have := raw_step (code := p.code) h0 (x.2 (inAt p.code x.1.pc).a)
   show Mc w' g w0.heap.size (unF (shStep p.code x.1 (x.2 (inAt p.code x.1.pc).a))) vo'
   rw [← this]
   exact hM'
 · refine hF.then hk fun i hi hs => ?_
   rcases hs with e | e | e
   · omega
   · omega
   · have := (own_lt hM.ow e).1; omega
 · refine hS.kept hk ?_
   obtain ⟨_, _, hg, _⟩ := hM.ex
   rintro (e | e | e)
   · exact hS.ne_ hC.tb (by decide) e
   · exact hS.ne_ hg (by decide) e
   · exact own_blk_ne hM.ow hS (by decide) e

set_option maxHeartbeats 4000000 in
set_option maxRecDepth 100000 in
theorem run_any (R : Nat → Prop) (v : Value) (p : Pg) (Ai : Option Addr) (ins : List Int) (ci : Nat) (steps : Int) (w : World) (h : RdPg w R v p) (hl : ins.length ≤ ci) (hc : ci ≤ maxLen) (hr : Reads w R 1 Ai ins.length (u32s ins)) (hi : ∀ n ∈ ins, 0 ≤ n ∧ n < 4294967296) :
   Calls Tryz.prog 12 #[v, .slice Ai ins.length ci, .int .i64 steps] w (RunPost w (wrongV p ins.length steps) (runV p ins steps.toNat)) := by
 have H := Lib.hid h
 obtain ⟨vw, vc, rfl, ⟨A1, c1, rfl, hl1, hr1⟩, ⟨A, c, rfl, hl2, hr2, ho2⟩⟩ := h
 have HC := Lib.hid (hr2.old (by decide))
 have HO := Lib.hid ho2
 have HINS := Lib.hid (hr.old (by decide))
 have HI := Lib.hid hi
 unfold maxLen at hl1 hl2 hc
 clear hr1 hr2 ho2 hr hi
 have HW := Lib.hid (fun w2 (hf : Fr w w2) => Wrong_any R _ p Ai ins.length ci steps w2 (H.out.kept hf (fun _ _ h => h)) (by omega))
 go_enter Tryz.func12, Tryz.ntmps12
 go_wp2_with fail
 have HF0 := Lib.hid (show Fr w ((w.alloc (.cells #[.slice A1 p.wide.length c1, .slice A p.code.length c] 28)).alloc (.cells #[.int .i64 0, .slice none 0 0, .int .i64 0] 47)) from ((Kept.refl _ w).alloc _).alloc _)
 have HB0 := Lib.hid ((Blk.new w 28 #[.slice A1 p.wide.length c1, .slice A p.code.length c]).alloc (.cells #[.int .i64 0, .slice none 0 0, .int .i64 0] 47))
 have HB1 : Hid (Blk ((w.alloc (.cells #[.slice A1 p.wide.length c1, .slice A p.code.length c] 28)).alloc (.cells #[.int .i64 0, .slice none 0 0, .int .i64 0] 47)) (w.heap.size + 1) 47 #[.int .i64 0, .slice none 0 0, .int .i64 0]) := by
   have := Blk.new (w.alloc (.cells #[.slice A1 p.wide.length c1, .slice A p.code.length c] 28)) 47 #[.int .i64 0, .slice none 0 0, .int .i64 0]
   show Blk _ _ _ _
   simpa using this
 refine (HW.out _ HF0.out).mono ?_
 rintro e w2 ⟨rfl, f2⟩
 have HF2 := Lib.hid (HF0.out.trans f2)
 have hb0 := HB0.out.kept f2 (fun h => h)
 have hb1 := HB1.out.kept f2 (fun h => h)
 clear HF0 HB0 HB1 HW f2
 by_cases hw : wrongV p ins.length steps = 0
 · have HZ := Lib.hid hw
   obtain ⟨hm, hn40, hs0, hs1⟩ := wrong_0 hw
   obtain ⟨hw1, hw2, hc1, hc2⟩ := mayB_len hm
   rw [hw]
   obtain ⟨n, rfl⟩ : ∃ n : Nat, steps = (n : Int) := ⟨steps.toNat, by omega⟩
   have c0 := hb0.cell 1
   simp only [List.getElem?_toArray, List.getElem?_cons_succ, List.getElem?_cons_zero] at c0
   have z0 := hb0.lt
   have z1 := hb1.lt
   have HB0 := Lib.hid hb0
   have HB1 := Lib.hid hb1
   have hB0 : Blk (runW w2 (.slice Ai ins.length ci)) w.heap.size 28 #[.slice A1 p.wide.length c1, .slice A p.code.length c] := ((hb0.alloc _).alloc _).alloc _
   have hB1 : Blk (runW w2 (.slice Ai ins.length ci)) (w.heap.size + 1) 47 #[.int .i64 0, .slice none 0 0, .int .i64 0] := ((hb1.alloc _).alloc _).alloc _
   have hT : Blk (runW w2 (.slice Ai ins.length ci)) w2.heap.size 72 (mkU 12 fun _ => 0) := (((Blk.new w2 _ _).alloc _).alloc _)
   have hM : Blk (runW w2 (.slice Ai ins.length ci)) (w2.heap.size + 1) 75 #[.int .i64 0, .slice none 0 0, .int .i64 0, .int .i64 0, .slice Ai ins.length ci] := by
     have := (Blk.new (w2.alloc (.cells #[.int .u64 0, .int .u64 0, .int .u64 0, .int .u64 0, .int .u64 0, .int .u64 0, .int .u64 0, .int .u64 0, .int .u64 0, .int .u64 0, .int .u64 0, .int .u64 0] 72)) 75 #[.int .i64 0, .slice none 0 0, .int .i64 0, .int .i64 0, .slice Ai ins.length ci]).alloc (.cells #[.pointer (some ⟨w2.heap.size + 1, 0, none⟩)] 73)
     simpa [runW] using this
   have hP : Blk (runW w2 (.slice Ai ins.length ci)) (w2.heap.size + 2) 73 #[.pointer (some ⟨w2.heap.size + 1, 0, none⟩)] := by
     have := Blk.new ((w2.alloc (.cells #[.int .u64 0, .int .u64 0, .int .u64 0, .int .u64 0, .int .u64 0, .int .u64 0, .int .u64 0, .int .u64 0, .int .u64 0, .int .u64 0, .int .u64 0, .int .u64 0] 72)).alloc
       (.cells #[.int .i64 0, .slice none 0 0, .int .i64 0, .int .i64 0, .slice Ai ins.length ci] 75)) 73 #[.pointer (some ⟨w2.heap.size + 1, 0, none⟩)]
     simpa [runW] using this
   have hF3 : Fr w (runW w2 (.slice Ai ins.length ci)) := (((HF2.out.alloc _).alloc _).alloc _)
   have c0 := hB0.cell 1
   simp only [List.getElem?_toArray, List.getElem?_cons_succ, List.getElem?_cons_zero] at c0
   unfold runW at c0
   have hmf : ∀ (fn : Fn) (first cap : Array Value) (w : World), (Instr.makeFunc fn first cap).run Tryz.prog w = .ok (.func fn first cap) w := fun _ _ _ _ => rfl
   clear hb0 hb1 hw
   have H3 := Lib.hid (And.intro hB0 (And.intro hB1 (And.intro hT (And.intro hM (And.intro hP hF3)))))
   clear hB0 hB1 hT hM hP hF3
   go_wp2_with fail
   obtain ⟨hB0, hB1, hT, hM, hP, hF3⟩ := H3.out
   refine (Go_any 25 (fun _ _ => by kernel_rfl) #[.pointer (some ⟨w.heap.size, 0, none⟩), .pointer (some ⟨w2.heap.size + 1 + 1, 0, none⟩), .pointer (some ⟨w2.heap.size, 0, none⟩)] (w2.heap.size + 1) w.heap.size n c A p.code (mTemps p) (sh0 ins, fun _ => 0)
     (RunI w (w.heap.size + 1) w.heap.size (w2.heap.size + 2) w2.heap.size (w2.heap.size + 1) p A1 c1 A c) (fun _ _ h => h.1)
     (fun wr x h ha h0 _ => h.step (by have := HF2.out.size; omega) HF2.out.size hm HO.out HI.out (by omega) ha h0) (runW w2 (.slice Ai ins.length ci)) (by have := HF2.out.size; omega) (by omega) (by omega)
     ⟨⟨.slice none 0 0, ⟨rfl, Or.inl ⟨rfl, rfl⟩⟩, Ai, ci, hM, hl, hc, HINS.out.kept hF3 (fun _ _ h => h)⟩, ⟨hB0, hP, hT, HC.out.kept hF3 (fun _ _ h => h)⟩, Temps.zero p, hF3, hB1⟩ (At.start _ ins hc1)).mono ?_
   rintro e w3 ⟨rfl, hpost⟩
   obtain ⟨w4, vo, ⟨_, hC4, _, hF4, hB4⟩, hM3, hk⟩ := hpost
   have hout : (runV p ins n).out.length ≤ n := by
     have := mRun_outlen (code := p.code) (M := mTemps p) n (sh0 ins, fun _ => 0)
     simpa [sh0, runV] using this
   have hM3' : Mc w3 (w2.heap.size + 1) w.heap.size (runV p ins n) vo := hM3
   clear hM3 hB0 hB1 hT hM hP hF3 H3 c0
   obtain ⟨how, A5, c5, hg5, _, _, _⟩ := id hM3'
   have hm3 := hC4.mb.kept hk (by omega)
   have hs3 := hB4.kept hk (by omega)
   have hF5 := Lib.hid (hF4.then hk (fun i hi e => by have := HF2.out.size; omega))
   have m0 := hm3.cell 0
   have q0 := hg5.cell 0
   have q1 := hg5.cell 1
   have q2 := hg5.cell 2
   have s0 := hs3.cell 0
   have s1 := hs3.cell 1
   have s2 := hs3.cell 2
   have y0 := hs3.frozen 0
   have y1 := hs3.frozen 1
   have y2 := hs3.frozen 2
   have z2 := hs3.lt
   simp only [List.getElem?_toArray, List.getElem?_cons_succ, List.getElem?_cons_zero] at m0 q0 q1 q2 s0 s1 s2
   have HX := Lib.hid how
   have HS3 := Lib.hid hs3
   obtain ⟨A9, c9, rfl, _, hr9⟩ := own_reads how
   have HR9 := Lib.hid hr9
   clear hM3' how hg5 hm3 hs3 hk hC4 hF4 hB4 hr9
   go_wp2
   refine bodyPost_ret (v := .tuple #[.agg #[.int .i64 ((runV p ins n).state : Int), .slice A9 (runV p ins n).out.length c9, .int .i64 ((runV p ins n).steps : Int)], .int .i64 0]) ?_ rfl ?_
   · simp [results, Tryz.results12, go_sem, s0, s1, s2]
   · have hK : Kept (fun b => b = w.heap.size + 1) w3 (((w3.setCell ⟨w.heap.size + 1, 0, none⟩ (.int .i64 ((runV p ins n).state : Int))).setCell ⟨w.heap.size + 1, 1, none⟩ (.slice A9 (runV p ins n).out.length c9)).setCell ⟨w.heap.size + 1, 2, none⟩ (.int .i64 ((runV p ins n).steps : Int))) :=
       (((Kept.refl (fun b => b = w.heap.size + 1) w3).setCell (p := ⟨w.heap.size + 1, 0, none⟩) (fun _ => rfl) _).setCell (p := ⟨w.heap.size + 1, 1, none⟩) (fun _ => rfl) _).setCell (p := ⟨w.heap.size + 1, 2, none⟩) (fun _ => rfl) _
     refine ⟨((hF5.out.setCell (fun e => by simp only at e; omega) _).setCell (fun e => by simp only at e; omega) _).setCell (fun e => by simp only at e; omega) _, Or.inr ⟨HZ.out, _, rfl, A9, c9, rfl, by show (runV p ins n).out.length ≤ 100000; omega, ?_⟩⟩
     exact (HR9.out.kept hK (fun b hb e => own_blk_ne HX.out HS3.out (by decide) (e ▸ hb.2))).more (fun b hb => hb.1)
 · have hne : (wrongV p ins.length steps != 0) = true := by simpa using hw
   have HZ := Lib.hid hw
   have q0 := hb1.cell 0
   have q1 := hb1.cell 1
   have q2 := hb1.cell 2
   simp only [List.getElem?_toArray, List.getElem?_cons_succ, List.getElem?_cons_zero] at q0 q1 q2
   have y0 := hb1.frozen 0
   have y1 := hb1.frozen 1
   have y2 := hb1.frozen 2
   have z1 := hb1.lt
   have HB1 := Lib.hid hb1
   clear hw hb1 hb0
   generalize wrongV p ins.length steps = wr at *
   go_wp2
   refine bodyPost_ret (v := .tuple #[.agg #[.int .i64 0, .slice none 0 0, .int .i64 0], .int .i64 wr]) ?_ rfl ?_
   · simp [results, Tryz.results12, go_sem, q0, q1, q2]
   · exact ⟨((HF2.out.setCell (fun e => by simp only at e; omega) _).setCell (fun e => by simp only at e; omega) _).setCell (fun e => by simp only at e; omega) _, Or.inl ⟨HZ.out, rfl⟩⟩
end Go.Proofs.YtodmkjeankbieaaGreatDoor


namespace Go.Proofs.YtodmkjeankbieaaGreatDoor
open Go.RowKit Go.Sort Go.Lib

def shownF (wr : Int) (x : Sh) : Tx := if wr ≠ 0 then saidF [98, 97, 100] [wr.toNat] else saidF (saidF (decDigits x.state) [x.steps]) (x.out.map Int.toNat)
def ShOk (x : Sh) : Prop := x.state < 4294967296 ∧ x.steps < 4294967296 ∧ ∀ n ∈ x.out, 0 ≤ n ∧ n < 4294967296
def shTo (x : Sh) (k : Nat) : Tx := saidF (saidF (decDigits x.state) [x.steps]) ((x.out.map Int.toNat).take k)
theorem shTo_s {x : Sh} {k : Nat} {n : Nat} (h : x.out[k]? = some (n : Int)) : shTo x (k + 1) = saidF (shTo x k) [n] := by
 have h2 : (x.out.map Int.toNat)[k]? = some n := by rw [List.getElem?_map, h]; simp
 unfold shTo
 rw [saidF_step h2]; rfl
theorem shTo_len {x : Sh} (h : ShOk x) (hl : x.out.length ≤ 100000) (k : Nat) : (shTo x k).length ≤ 3000000 := by
 have h1 : (decDigits x.state).length ≤ 19 := by have := dec_size (n := x.state) (by have := h.1; omega); rw [bA_size] at this; exact this
 have h2 := saidF_len (decDigits x.state) [x.steps] (by simp; have := h.2.1; omega)
 have h3 := saidF_len (saidF (decDigits x.state) [x.steps]) ((x.out.map Int.toNat).take k) (fun n hn => by
   obtain ⟨m, hm, rfl⟩ := List.mem_map.1 (List.mem_of_mem_take hn)
   have := h.2.2 m hm
   omega)
 unfold shTo
 rw [List.length_take, List.length_map] at h3
 simp at h2
 omega

theorem said1 (s : Tx) (b : ByteArray) (hb : b = bA s) (n : Nat) (hn : n < 9223372036854775808) (hs : s.length < 9223372036854774000) (w0 : World) (g : Nat) (hg : g = w0.heap.size) :
   Calls Tryz.prog 9 #[.string b, .slice (some ⟨g, 0, none⟩) 1 1] (w0.alloc (.cells #[.int .i64 (n : Int)] 2)) fun e w' => e = .returned (.string (bA (saidF s [n]))) ∧ Fr w0 w' := by
 subst hb
 subst hg
 have h := said_any (fun _ => True) s [n] (by simp; omega) (by simp; omega) (some ⟨w0.heap.size, 0, none⟩) 1 (w0.alloc (.cells #[.int .i64 (n : Int)] 2)) (Reads.lit' (by simp) trivial rfl)
 exact h.mono fun e w' ⟨h1, h2⟩ => ⟨h1, ((Kept.refl _ w0).alloc _).trans h2⟩

set_option maxHeartbeats 6400000 in
set_option maxRecDepth 100000 in
theorem shownk_any (R : Nat → Prop) (wr : Int) (h0 : 0 ≤ wr) (h1 : wr < 4294967296) (v : Value) (x : Sh) (w : World) (h : RdSh w R v x) (ho : ShOk x) :
   Calls Tryz.prog 13 #[v, .int .i64 wr] w fun e w' => e = .returned (.string (bA (shownF wr x))) ∧ Fr w w' := by
 obtain ⟨A, c, rfl, hl, hr⟩ := h
 have HR := Lib.hid hr
 have HO := Lib.hid ho
 clear hr ho
 obtain ⟨W, rfl⟩ : ∃ W : Nat, (W : Int) = wr := ⟨wr.toNat, by omega⟩
 have HF0 := Lib.hid (show Fr w (w.alloc (.cells #[.int .i64 (x.state : Int), .slice A x.out.length c, .int .i64 (x.steps : Int)] 47)) from (Kept.refl _ w).alloc _)
 have HB0 := Lib.hid (Blk.new w 47 #[.int .i64 (x.state : Int), .slice A x.out.length c, .int .i64 (x.steps : Int)])
 by_cases hw : W = 0
 · subst hw
   have HE : Hid (shownF ((0 : Nat) : Int) x = shTo x x.out.length) := by
     show _ = _
     unfold shownF shTo
     rw [if_neg (by simp), List.take_of_length_le (by simp)]
   have HDG := Lib.hid (fun w' => digits_any x.state (by have := HO.out.1; omega) w')
   have hst : ¬ ((0 : Int) ≠ 0) := by simp
   go_enter Tryz.func13, Tryz.ntmps13
   go_wp2_with fail
   have c0 := HB0.out.cell 0
   have c1 := HB0.out.cell 1
   have c2 := HB0.out.cell 2
   simp only [List.getElem?_toArray, List.getElem?_cons_succ, List.getElem?_cons_zero] at c0 c1 c2
   have HBD := Lib.hid (HB0.out.drew)
   have HFD := Lib.hid (HF0.out.drew)
   have hsl : (decDigits x.state).length ≤ 19 := by have := dec_size (n := x.state) (by have := HO.out.1; omega); rw [bA_size] at this; exact this
   have hst2 : x.steps < 9223372036854775808 := by have := HO.out.2.1; omega
   have hg0 : (w.alloc (.cells #[.int .i64 (x.state : Int), .slice A x.out.length c, .int .i64 (x.steps : Int)] 47)).drew.heap.size = w.heap.size + 1 := by simp [World.drew]
   have HSB := Lib.hid (fun wd (fd : Fr ((w.alloc (.cells #[.int .i64 (x.state : Int), .slice A x.out.length c, .int .i64 (x.steps : Int)] 47)).drew.alloc (.cells #[.int .i64 (x.steps : Int)] 2)) wd) =>
     said_any (fun _ => True) (decDigits x.state) [x.steps] (by simp; omega) (by simp; omega) (some ⟨w.heap.size + 1, 0, none⟩) 1 wd ((Reads.lit' (w := (w.alloc (.cells #[.int .i64 (x.state : Int), .slice A x.out.length c, .int .i64 (x.steps : Int)] 47)).drew) (cs := #[.int .i64 (x.steps : Int)]) (R := fun _ => True) (n := 1) (size := 1) hg0.symm trivial rfl).kept fd (fun _ _ h => h)))
   have HSA := Lib.hid (fun wd => said1 (decDigits x.state) (bA (decDigits x.state)) rfl x.steps hst2 (by omega) wd wd.heap.size rfl)
   go_region_with (first
     | (go_at_call 11; refine (HDG.out _).mono ?_; rintro e wd ⟨rfl, fd⟩; (first | (have bd : Blk wd w.heap.size 47 #[.int .i64 (x.state : Int), .slice A x.out.length c, .int .i64 (x.steps : Int)] := HBD.out.kept fd (fun h => h); have HFQ := Lib.hid (HFD.out.trans fd); have HSC := Lib.hid (HSA.out wd)) | (have bd : Blk wd w.heap.size 47 #[.int .i64 (x.state : Int), .slice A x.out.length c, .int .i64 (x.steps : Int)] := (HBD.out.alloc _).kept fd (fun h => h); have HFQ := Lib.hid ((HFD.out.alloc _).trans fd); have HSC := Lib.hid (HSB.out wd fd))); clear fd; have BD := Lib.hid bd; have d0 := bd.cell 0; have d1 := bd.cell 1; have d2 := bd.cell 2; have zd := bd.lt; clear bd; simp only [List.getElem?_toArray, List.getElem?_cons_succ, List.getElem?_cons_zero] at d0 d1 d2)
     | (go_at_call 9; refine HSC.out.mono ?_; rintro e ws ⟨rfl, fs⟩; have FS := Lib.hid (HFQ.out.trans fs); have BS := Lib.hid (BD.out.kept fs (fun h => h)); clear fs))
   all_goals
     clear c0 c1 c2 d0 d1 d2
     go_wp2
     go_loopw [5, 6] (fun tv iv wr => ∃ k : Nat, k ≤ x.out.length ∧ tv = .string (bA (shTo x k)) ∧ iv = .int .i64 k ∧ Hid (Blk wr w.heap.size 47 #[.int .i64 (x.state : Int), .slice A x.out.length c, .int .i64 (x.steps : Int)]) ∧ Hid (Fr w wr)) (fun _ i _ => x.out.length - (intOf i).toNat)
     case atStart => exact ⟨0, by omega, rfl, rfl, BS, FS⟩
     case round =>
       obtain ⟨k, hk, rfl, rfl, hb, hf⟩ := hrel
       have c1 := hb.out.cell 1
       have cz := hb.out.lt
       simp only [List.getElem?_toArray, List.getElem?_cons_succ, List.getElem?_cons_zero] at c1
       by_cases hlt : k < x.out.length
       · have hx : x.out[k]? = some x.out[k] := List.getElem?_eq_getElem hlt
         have hm := HO.out.2.2 _ (List.getElem_mem hlt)
         generalize x.out[k] = n at *
         obtain ⟨m, rfl⟩ : ∃ m : Nat, n = (m : Int) := ⟨n.toNat, by omega⟩
         obtain ⟨b, off, rfl, _, hc⟩ := (HR.out.kept hf.out (fun _ _ h => h)).2 (by omega)
         have d0 := hc k (.int .u32 (m : Int)) (by unfold u32s; rw [List.getElem?_map, hx]; rfl)
         have hbb := cell_lt d0
         have HE2 := Lib.hid (shTo_s hx)
         have hln := shTo_len HO.out hl k
         have hm2 : (m : Int) < 4294967296 := hm.2
         have HS := Lib.hid (said1 (shTo x k) _ rfl m (by omega) (by omega) wr _ rfl)
         clear hc hx hm
         go_wp2_with fail
         refine HS.out.mono ?_
         rintro e w2 ⟨rfl, f2⟩
         have HB2 := Lib.hid (hb.out.kept f2 (fun h => h))
         have HF2 := Lib.hid (hf.out.trans f2)
         clear f2
         go_wp2
         go_roundw
         case rel => exact ⟨k + 1, by omega, by rw [HE2.out], by go_num, HB2, HF2⟩
         case measure => simp [intOf]; omega
       · obtain rfl : k = x.out.length := by omega
         have hln : ¬ x.out.length < x.out.length := by omega
         go_wp2
         go_ret
         exact ⟨by rw [HE.out]; rfl, hf.out⟩
 · have HE : Hid (shownF (W : Int) x = saidF [98, 97, 100] [W]) := by
     show _ = _
     unfold shownF
     rw [if_pos (by simpa using hw)]; rfl
   have hwn : ((W : Int) == 0) = false := beq_false_of_ne (by omega)
   have HS := Lib.hid (said1 [98, 97, 100] ⟨#[98, 97, 100]⟩ rfl W (by omega) (by simp) (w.alloc (.cells #[.int .i64 (x.state : Int), .slice A x.out.length c, .int .i64 (x.steps : Int)] 47)) (w.heap.size + 1) (by simp))
   clear h0 h1
   go_enter Tryz.func13, Tryz.ntmps13
   go_wp2_with fail
   refine HS.out.mono ?_
   rintro e w2 ⟨rfl, f2⟩
   have HF2 := Lib.hid (HF0.out.trans f2)
   clear f2
   go_wp2
   go_ret
   exact ⟨by rw [HE.out]; rfl, HF2.out⟩
end Go.Proofs.YtodmkjeankbieaaGreatDoor

