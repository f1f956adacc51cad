/- The walks of layout.Gives, Uses, Nexts and of the reference's Nexts. -/
import Derived.Test.YtodmkjeankbieabRefForm
import Derived.Test.YtodmkjeankbieabPlacePlain
namespace Go.Proofs.Ytodmkjeankbieab
open Go.RowKit Go.Sort

theorem shape_bytes {op : Int} (h : known op = true) : ∃ l0 l1 l2 l3 l4 : UInt8, shapeS op = ⟨#[l0, l1, l2, l3, l4]⟩ ∧ ((l0.toNat : Int) != 45) = gvs op ∧ ((l1.toNat : Int) != 45) = decide (0 < many op) ∧ ((l2.toNat : Int) != 45) = decide (1 < many op) := by
  obtain ⟨l0, l1, l2, l3, l4, hls⟩ := shape_letters h
  obtain ⟨s0, s1, s2⟩ := shape_there h
  rw [hls] at s0 s1 s2
  simp only [List.getD_cons_zero, List.getD_cons_succ] at s0 s1 s2
  have hb : ∀ l : UInt8, ((l.toNat : Int) != 45) = !decide (l = 45) := by
    intro l
    have := byte_eq (l := l) (k := 45) (by decide)
    rw [bne, show ((l.toNat : Int) == 45) = ((l.toNat : Int) == ((45 : Nat) : Int)) from rfl, this]
    rfl
  refine ⟨l0, l1, l2, l3, l4, by unfold shapeS; rw [hls], ?_, ?_, ?_⟩
  · rw [hb, s0, Bool.not_not]
  · rw [hb, s1, Bool.not_not]
  · rw [hb, s2, Bool.not_not]

set_option maxHeartbeats 400000 in
set_option maxRecDepth 100000 in
theorem Gives_any (i : In) (w : World) (hk : known i.op = true) :
    Calls Try.prog 43 #[i.val] w fun e w' => e = .returned (.bool (gvs i.op)) ∧ Fr w w' := by
  obtain ⟨l0, l1, l2, l3, l4, hs, h0, h1, h2⟩ := shape_bytes hk
  have hS := Lib.hid (fun w => Shape_any i.op w)
  rw [hs] at hS
  have H0 := Lib.hid h0
  clear hk hs h0 h1 h2
  obtain ⟨op, d, a, b, cc, n⟩ := i
  unfold In.val
  simp only at hS H0 ⊢
  go_enter Try.func43, Try.ntmps43
  go_wp2_with (go_at_call 81; refine (hS.out _).mono ?_; rintro e w' ⟨rfl, rfl⟩)
  go_ret
  exact ⟨ret_b H0.out, (Kept.refl _ w).alloc _⟩

/-- numbers that a slice value reads as -/
def RdI (w : World) (R : Nat → Prop) (v : Value) (l : List Int) : Prop := ∃ A c, v = .slice A l.length c ∧ Reads w R 1 A l.length (l.map (Value.int .i64))
theorem RdI.kept {w w' : World} {R S : Nat → Prop} {v : Value} {l : List Int} (h : RdI w R v l) (hk : Kept S w w') (hs : ∀ b, R b → ¬ S b) : RdI w' R v l :=
  let ⟨A, c, e, hr⟩ := h
  ⟨A, c, e, hr.kept hk hs⟩
theorem RdI.at_ {w : World} {R : Nat → Prop} {v : Value} {l : List Int} (h : RdI w R v l) {k : Nat} {x : Int} (hx : l[k]? = some x) : ∃ b off c, v = .slice (some ⟨b, off, none⟩) l.length c ∧ R b ∧ b < w.heap.size ∧ w.cell? ⟨b, off + k, none⟩ = some (.int .i64 x) := by
  obtain ⟨A, c, rfl, hr⟩ := h
  have hk : k < l.length := (List.getElem?_eq_some_iff.1 hx).1
  obtain ⟨b, off, rfl, hR, hc⟩ := hr.2 (by omega)
  have := hc k (.int .i64 x) (by rw [List.getElem?_map, hx]; rfl)
  exact ⟨b, off, c, rfl, hR, cell_lt this, this⟩
theorem RdI.of_own {w : World} {base : Nat} {v : Value} {l : List Int} (h : w.ownsRow base 3 1 v l.length (l.map (Value.int .i64))) : RdI w (fun b => base ≤ b) v l := by
  obtain ⟨A, c, hv, _, hr⟩ := own_reads h
  exact ⟨A, c, hv, hr.more (fun b hb => hb.1)⟩

theorem slInt' : SlTy Try.prog 99 3 1 8 := SlTy.mk' (z := .int .i64 0) Try.underlying99 (by kernel_rfl) rfl (by decide)

/-- what an instruction takes, so far -/
def usesTo (op a b : Int) (k : Nat) : List Int := ([a, b].take (many op)).take k
theorem usesTo_no {op a b : Int} {k : Nat} (h : ¬ k < many op) : usesTo op a b (k + 1) = usesTo op a b k := by
  unfold usesTo
  rw [List.take_take, List.take_take, Nat.min_eq_right (by omega), Nat.min_eq_right (by omega)]
theorem usesTo_yes {op a b x : Int} {k : Nat} (h : k < many op) (hx : [a, b][k]? = some x) : usesTo op a b (k + 1) = usesTo op a b k ++ [x] := by
  unfold usesTo
  rw [List.take_add_one, List.getElem?_take, if_pos h, hx]
  rfl
theorem usesTo_2 (i : In) : usesTo i.op i.a i.b 2 = uses i := by
  unfold usesTo uses
  rw [List.take_of_length_le (by simp; omega)]
theorem usesTo_len (op a b : Int) (k : Nat) : (usesTo op a b k).length ≤ 2 := by unfold usesTo; simp; omega

structure UsMem (w wr : World) (i : In) (v : Value) (l : List Int) : Prop where
  bi : Blk wr w.heap.size 45 #[.int .i64 i.op, .int .i64 i.d, .int .i64 i.a, .int .i64 i.b, .int .i64 i.c, .int .u32 i.n]
  ow : wr.ownsRow w.heap.size 3 1 v l.length (l.map (Value.int .i64))
  fr : Fr w wr

set_option maxHeartbeats 1000000 in
set_option maxRecDepth 100000 in
theorem Uses_any (i : In) (w : World) (hk : known i.op = true) :
    Calls Try.prog 53 #[i.val] w fun e w' => ∃ v, e = .returned v ∧ RdI w' (fun b => w.heap.size ≤ b) v (uses i) ∧ Fr w w' := by
  obtain ⟨l0, l1, l2, l3, l4, hs, _, h1, h2⟩ := shape_bytes hk
  have hS := Lib.hid (fun w => Shape_any i.op w)
  rw [hs] at hS
  have HU := Lib.hid (usesTo_2 i)
  have H1 := Lib.hid h1
  have H2 := Lib.hid h2
  clear hk hs h1 h2
  obtain ⟨op, d, a, b, cc, n⟩ := i
  unfold In.val
  simp only at hS H1 H2 HU ⊢
  go_enter Try.func53, Try.ntmps53
  go_wp2_with (go_at_call 81; refine (hS.out _).mono ?_; rintro e w' ⟨rfl, rfl⟩)
  go_loopw [5, 19] (fun v i wr => ∃ k : Int, (k = 0 ∨ k = 1 ∨ k = 2) ∧ i = .int .i64 k ∧ Hid (UsMem w wr ⟨op, d, a, b, cc, n⟩ v (usesTo op a b k.toNat))) (fun _ i _ => 2 - (intOf i).toNat)
  case atStart => exact ⟨0, Or.inl rfl, rfl, ⟨Blk.new w _ _, ⟨rfl, Or.inl ⟨rfl, rfl⟩⟩, (Kept.refl _ w).alloc _⟩⟩
  case round =>
    obtain ⟨k, hk, rfl, hmem⟩ := hrel
    have z0 := hmem.out.bi.lt
    have HM := Lib.hid hmem.out.bi
    have HF := Lib.hid hmem.out.fr
    rcases hk with rfl | rfl | rfl
    · have hix : ∀ w, (Instr.index 148 (.agg #[.int .i64 a, .int .i64 b]) (.int .i64 0)).run Try.prog w = .ok (.int .i64 a) w := fun _ => by kernel_rfl
      have HO := Lib.hid (show wr.ownsRow w.heap.size 3 1 u5 (usesTo op a b 0).length ((usesTo op a b 0).map (Value.int .i64)) from hmem.out.ow)
      have hll := usesTo_len op a b 0
      by_cases hm : 0 < many op
      · have hb : ((((⟨#[l0, l1, l2, l3, l4]⟩ : ByteArray)[1]'(by show 1 < 5; decide)).toNat : Int) != 45) = true := H1.out.trans (decide_eq_true hm)
        have HY := Lib.hid (usesTo_yes (op := op) (a := a) (b := b) (k := 0) (x := a) hm rfl)
        clear hm
        go_wp2_with (at_builtin
                     refine wpList_app (base := w.heap.size) _ rfl slInt' (.tmp 28) (.tmp 30) rfl u5 _ _ rfl (World.ownsRow.alloc HO.out _) (fun _ => True) _ 1 1 _ rfl (Reads.lit' (by simp) trivial rfl) ?_ ?_ ?_ ?_ ?_
                     · simp [Value.oneCell']
                     · omega
                     · unfold maxLen; omega
                     · simp; omega
                     intro v1 w1 hown1 hk1 hat1)
        have HB1 := Lib.hid (Blk.kept (HM.out.alloc _) hk1 (own_blk_ne HO.out HM.out (by decide)))
        have HF1 := Lib.hid (Kept.app (HF.out.alloc _) (World.ownsRow.alloc HO.out _) hk1)
        have HO1 : Hid (w1.ownsRow w.heap.size 3 1 v1 (usesTo op a b 1).length ((usesTo op a b 1).map (Value.int .i64))) := by
          show World.ownsRow _ _ _ _ _ _ _
          rw [HY.out, List.length_append, List.map_append]
          exact hown1
        clear hown1 hk1 hat1
        go_wp2
        go_roundw
        case rel => exact ⟨1, Or.inr (Or.inl rfl), rfl, ⟨HB1.out, HO1.out, HF1.out⟩⟩
        case measure => simp [intOf]
      · have hb : ((((⟨#[l0, l1, l2, l3, l4]⟩ : ByteArray)[1]'(by show 1 < 5; decide)).toNat : Int) != 45) = false := H1.out.trans (decide_eq_false hm)
        have HY := Lib.hid (usesTo_no (op := op) (a := a) (b := b) (k := 0) hm)
        clear hm
        go_wp2
        go_roundw
        case rel => exact ⟨1, Or.inr (Or.inl rfl), rfl, ⟨HM.out, by show World.ownsRow _ _ _ _ _ (usesTo op a b 1).length ((usesTo op a b 1).map _); rw [HY.out]; exact HO.out, HF.out⟩⟩
        case measure => simp [intOf]
    · have hix : ∀ w, (Instr.index 148 (.agg #[.int .i64 a, .int .i64 b]) (.int .i64 1)).run Try.prog w = .ok (.int .i64 b) w := fun _ => by kernel_rfl
      have HO := Lib.hid (show wr.ownsRow w.heap.size 3 1 u5 (usesTo op a b 1).length ((usesTo op a b 1).map (Value.int .i64)) from hmem.out.ow)
      have hll := usesTo_len op a b 1
      by_cases hm : 1 < many op
      · have hb : ((((⟨#[l0, l1, l2, l3, l4]⟩ : ByteArray)[2]'(by show 2 < 5; decide)).toNat : Int) != 45) = true := H2.out.trans (decide_eq_true hm)
        have HY := Lib.hid (usesTo_yes (op := op) (a := a) (b := b) (k := 1) (x := b) hm rfl)
        clear hm
        go_wp2_with (at_builtin
                     refine wpList_app (base := w.heap.size) _ rfl slInt' (.tmp 28) (.tmp 30) rfl u5 _ _ rfl (World.ownsRow.alloc HO.out _) (fun _ => True) _ 1 1 _ rfl (Reads.lit' (by simp) trivial rfl) ?_ ?_ ?_ ?_ ?_
                     · simp [Value.oneCell']
                     · omega
                     · unfold maxLen; omega
                     · simp; omega
                     intro v1 w1 hown1 hk1 hat1)
        have HB1 := Lib.hid (Blk.kept (HM.out.alloc _) hk1 (own_blk_ne HO.out HM.out (by decide)))
        have HF1 := Lib.hid (Kept.app (HF.out.alloc _) (World.ownsRow.alloc HO.out _) hk1)
        have HO1 : Hid (w1.ownsRow w.heap.size 3 1 v1 (usesTo op a b 2).length ((usesTo op a b 2).map (Value.int .i64))) := by
          show World.ownsRow _ _ _ _ _ _ _
          rw [HY.out, List.length_append, List.map_append]
          exact hown1
        clear hown1 hk1 hat1
        go_wp2
        go_roundw
        case rel => exact ⟨2, Or.inr (Or.inr rfl), rfl, ⟨HB1.out, HO1.out, HF1.out⟩⟩
        case measure => simp [intOf]
      · have hb : ((((⟨#[l0, l1, l2, l3, l4]⟩ : ByteArray)[2]'(by show 2 < 5; decide)).toNat : Int) != 45) = false := H2.out.trans (decide_eq_false hm)
        have HY := Lib.hid (usesTo_no (op := op) (a := a) (b := b) (k := 1) hm)
        clear hm
        go_wp2
        go_roundw
        case rel => exact ⟨2, Or.inr (Or.inr rfl), rfl, ⟨HM.out, by show World.ownsRow _ _ _ _ _ (usesTo op a b 2).length ((usesTo op a b 2).map _); rw [HY.out]; exact HO.out, HF.out⟩⟩
        case measure => simp [intOf]
    · go_wp2
      go_ret
      have h2 : wr.ownsRow w.heap.size 3 1 u5 (usesTo op a b 2).length ((usesTo op a b 2).map (Value.int .i64)) := hmem.out.ow
      rw [show usesTo op a b 2 = uses ⟨op, d, a, b, cc, n⟩ from HU.out] at h2
      exact ⟨_, rfl, RdI.of_own h2, HF.out⟩

theorem RdI.lit {w : World} {B g c : Nat} {e : TypeId} {l : List Int} {cs : Array Value} (hg : g = w.heap.size) (hB : B ≤ g) (hl : cs = (l.map (Value.int .i64)).toArray) : RdI (w.alloc (.cells cs e)) (fun b => B ≤ b) (.slice (some ⟨g, 0, none⟩) l.length c) l := by
  refine ⟨_, _, rfl, ?_⟩
  have := Reads.lit' (w := w) (R := fun b => B ≤ b) (e := e) (size := 1) (n := l.length) (cs := cs) hg hB (by rw [hl]; simp)
  rw [hl] at this
  simpa [hl] using this
theorem nexts_8 {op d a b c k : Int} {n : Nat} (h : (op == 8) = true) : nexts ⟨op, d, a, b, c, n⟩ k = [c] := by
  rw [beq_iff_eq] at h; unfold nexts; rw [if_pos h]
theorem nexts_9 {op d a b c k : Int} {n : Nat} (h : (op == 9) = true) : nexts ⟨op, d, a, b, c, n⟩ k = [k + 1, c] := by
  rw [beq_iff_eq] at h; subst h; rfl
theorem nexts_10 {op d a b c k : Int} {n : Nat} (h : (op == 10) = true) : nexts ⟨op, d, a, b, c, n⟩ k = [] := by
  rw [beq_iff_eq] at h; subst h; rfl
theorem nexts_o {op d a b c k : Int} {n : Nat} (h : (op == 8) = false) (h' : (op == 9) = false) (h'' : (op == 10) = false) : nexts ⟨op, d, a, b, c, n⟩ k = [k + 1] := by
  rw [beq_eq_false_iff_ne] at h h' h''; unfold nexts; rw [if_neg h, if_neg h'', if_neg h']

set_option maxRecDepth 100000 in
theorem Nexts_any (i : In) (k : Int) (w : World) (h0 : 0 ≤ k) (h1 : k ≤ 1000) :
    Calls Try.prog 84 #[i.val, .int .i64 k] w fun e w' => ∃ v, e = .returned v ∧ RdI w' (fun b => w.heap.size ≤ b) v (nexts i k) ∧ Fr w w' := by
  obtain ⟨op, d, a, b, cc, n⟩ := i
  unfold In.val
  simp only
  go_enter Try.func84, Try.ntmps84
  go_wp2
  all_goals go_ret
  · rw [nexts_8 ‹_›]
    refine ⟨_, rfl, RdI.lit (g := w.heap.size + 1) (c := 1) (l := [cc]) (cs := #[.int .i64 cc]) ?_ ?_ rfl, ((Kept.refl _ w).alloc _).alloc _⟩
    · simp
    · omega
  · rw [nexts_9 ‹_›]
    refine ⟨_, rfl, RdI.lit (g := w.heap.size + 1) (c := 2) (l := [k + 1, cc]) (cs := #[.int .i64 (k + 1), .int .i64 cc]) ?_ ?_ rfl, ((Kept.refl _ w).alloc _).alloc _⟩
    · simp
    · omega
  · rw [nexts_10 ‹_›]
    exact ⟨_, rfl, ⟨none, 0, rfl, Reads.none_⟩, (Kept.refl _ w).alloc _⟩
  · rw [nexts_o ‹_› ‹_› ‹_›]
    refine ⟨_, rfl, RdI.lit (g := w.heap.size + 1) (c := 1) (l := [k + 1]) (cs := #[.int .i64 (k + 1)]) ?_ ?_ rfl, ((Kept.refl _ w).alloc _).alloc _⟩
    · simp
    · omega

theorem nexts_r {op d a b c k : Int} {n : Nat} (h : (op == 8) = false) (h'' : (op == 10) = false) (h' : (op == 9) = false) : nexts ⟨op, d, a, b, c, n⟩ k = [k + 1] := nexts_o h h' h''
set_option maxRecDepth 100000 in
theorem refNexts_any (i : In) (k : Int) (w : World) (h0 : 0 ≤ k) (h1 : k ≤ 1000) :
    Calls Try.prog 88 #[i.val, .int .i64 k] w fun e w' => ∃ v, e = .returned v ∧ RdI w' (fun b => w.heap.size ≤ b) v (nexts i k) ∧ Fr w w' := by
  obtain ⟨op, d, a, b, cc, n⟩ := i
  unfold In.val
  simp only
  go_enter Try.func88, Try.ntmps88
  go_wp2
  all_goals go_ret
  · rw [nexts_8 ‹_›]
    refine ⟨_, rfl, RdI.lit (g := w.heap.size + 1) (c := 1) (l := [cc]) (cs := #[.int .i64 cc]) ?_ ?_ rfl, ((Kept.refl _ w).alloc _).alloc _⟩
    · simp
    · omega
  · rw [nexts_10 ‹_›]
    exact ⟨_, rfl, ⟨none, 0, rfl, Reads.none_⟩, (Kept.refl _ w).alloc _⟩
  · rw [nexts_9 ‹_›]
    refine ⟨_, rfl, RdI.lit (g := w.heap.size + 1) (c := 2) (l := [k + 1, cc]) (cs := #[.int .i64 (k + 1), .int .i64 cc]) ?_ ?_ rfl, ((Kept.refl _ w).alloc _).alloc _⟩
    · simp
    · omega
  · rw [nexts_r ‹_› ‹_› ‹_›]
    refine ⟨_, rfl, RdI.lit (g := w.heap.size + 1) (c := 1) (l := [k + 1]) (cs := #[.int .i64 (k + 1)]) ?_ ?_ rfl, ((Kept.refl _ w).alloc _).alloc _⟩
    · simp
    · omega
end Go.Proofs.Ytodmkjeankbieab
