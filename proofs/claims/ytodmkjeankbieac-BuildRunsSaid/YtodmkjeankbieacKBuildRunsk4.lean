/- Layout, Run1, RunRun, Sto, Sto2: texts of this claim, packed into one file. -/
import Derived.Test.YtodmkjeankbieacKBuildRunsk3
import Derived.Test.YtodmkjeankbieacKBuildRunsk0
import Derived.Deep.RegionHeld3
/- The walks of layout.Gives, Uses, Nexts and of the reference's Nexts. -/
namespace Go.Proofs.Ytodmkjeankbieac
open Go.RowKit Go.Sort

theorem shape_bytes {op : Int} (h : known op = true) : ∃ l0 l1 l2 l3 l4 : UInt8, shapeS op = ⟨#[l0, l1, l2, l3, l4]⟩ ∧ ((l0.toNat : Int) != 45) = gvs op ∧ ((l1.toNat : Int) != 45) = decide (0 < many op) ∧ ((l2.toNat : Int) != 45) = decide (1 < many op) := by
  obtain ⟨l0, l1, l2, l3, l4, hls⟩ := shape_letters h
  obtain ⟨s0, s1, s2⟩ := shape_there h
  rw [hls] at s0 s1 s2
  simp only [List.getD_cons_zero, List.getD_cons_succ] at s0 s1 s2
  have hb : ∀ l : UInt8, ((l.toNat : Int) != 45) = !decide (l = 45) := by
    intro l
    have := byte_eq (l := l) (k := 45) (by decide)
    rw [bne, show ((l.toNat : Int) == 45) = ((l.toNat : Int) == ((45 : Nat) : Int)) from rfl, this]
    rfl
  refine ⟨l0, l1, l2, l3, l4, by unfold shapeS; rw [hls], ?_, ?_, ?_⟩
  · rw [hb, s0, Bool.not_not]
  · rw [hb, s1, Bool.not_not]
  · rw [hb, s2, Bool.not_not]

set_option maxHeartbeats 400000 in
set_option maxRecDepth 100000 in
theorem Gives_any (i : In) (w : World) (hk : known i.op = true) :
    Calls Try.prog 19 #[i.val] w fun e w' => e = .returned (.bool (gvs i.op)) ∧ Fr w w' := by
  obtain ⟨l0, l1, l2, l3, l4, hs, h0, h1, h2⟩ := shape_bytes hk
  have hS := Lib.hid (fun w => Shape_any i.op w)
  rw [hs] at hS
  have H0 := Lib.hid h0
  clear hk hs h0 h1 h2
  obtain ⟨op, d, a, b, cc, n⟩ := i
  unfold In.val
  simp only at hS H0 ⊢
  go_enter Try.func19, Try.ntmps19
  go_wp2_with (go_at_call 42; refine (hS.out _).mono ?_; rintro e w' ⟨rfl, rfl⟩)
  go_ret
  exact ⟨ret_b H0.out, (Kept.refl _ w).alloc _⟩

/-- numbers that a slice value reads as -/
def RdI (w : World) (R : Nat → Prop) (v : Value) (l : List Int) : Prop := ∃ A c, v = .slice A l.length c ∧ Reads w R 1 A l.length (l.map (Value.int .i64))
theorem RdI.kept {w w' : World} {R S : Nat → Prop} {v : Value} {l : List Int} (h : RdI w R v l) (hk : Kept S w w') (hs : ∀ b, R b → ¬ S b) : RdI w' R v l :=
  let ⟨A, c, e, hr⟩ := h
  ⟨A, c, e, hr.kept hk hs⟩
theorem RdI.at_ {w : World} {R : Nat → Prop} {v : Value} {l : List Int} (h : RdI w R v l) {k : Nat} {x : Int} (hx : l[k]? = some x) : ∃ b off c, v = .slice (some ⟨b, off, none⟩) l.length c ∧ R b ∧ b < w.heap.size ∧ w.cell? ⟨b, off + k, none⟩ = some (.int .i64 x) := by
  obtain ⟨A, c, rfl, hr⟩ := h
  have hk : k < l.length := (List.getElem?_eq_some_iff.1 hx).1
  obtain ⟨b, off, rfl, hR, hc⟩ := hr.2 (by omega)
  have := hc k (.int .i64 x) (by rw [List.getElem?_map, hx]; rfl)
  exact ⟨b, off, c, rfl, hR, cell_lt this, this⟩
theorem RdI.of_own {w : World} {base : Nat} {v : Value} {l : List Int} (h : w.ownsRow base 3 1 v l.length (l.map (Value.int .i64))) : RdI w (fun b => base ≤ b) v l := by
  obtain ⟨A, c, hv, _, hr⟩ := own_reads h
  exact ⟨A, c, hv, hr.more (fun b hb => hb.1)⟩

theorem slInt' : SlTy Try.prog 87 3 1 8 := SlTy.mk' (z := .int .i64 0) Try.underlying87 (by kernel_rfl) rfl (by decide)

/-- what an instruction takes, so far -/
def usesTo (op a b : Int) (k : Nat) : List Int := ([a, b].take (many op)).take k
theorem usesTo_no {op a b : Int} {k : Nat} (h : ¬ k < many op) : usesTo op a b (k + 1) = usesTo op a b k := by
  unfold usesTo
  rw [List.take_take, List.take_take, Nat.min_eq_right (by omega), Nat.min_eq_right (by omega)]
theorem usesTo_yes {op a b x : Int} {k : Nat} (h : k < many op) (hx : [a, b][k]? = some x) : usesTo op a b (k + 1) = usesTo op a b k ++ [x] := by
  unfold usesTo
  rw [List.take_add_one, List.getElem?_take, if_pos h, hx]
  rfl
theorem usesTo_2 (i : In) : usesTo i.op i.a i.b 2 = uses i := by
  unfold usesTo uses
  rw [List.take_of_length_le (by simp; omega)]
theorem usesTo_len (op a b : Int) (k : Nat) : (usesTo op a b k).length ≤ 2 := by unfold usesTo; simp; omega

structure UsMem (w wr : World) (i : In) (v : Value) (l : List Int) : Prop where
  bi : Blk wr w.heap.size 66 #[.int .i64 i.op, .int .i64 i.d, .int .i64 i.a, .int .i64 i.b, .int .i64 i.c, .int .u32 i.n]
  ow : wr.ownsRow w.heap.size 3 1 v l.length (l.map (Value.int .i64))
  fr : Fr w wr

set_option maxHeartbeats 1000000 in
set_option maxRecDepth 100000 in
theorem Uses_any (i : In) (w : World) (hk : known i.op = true) :
    Calls Try.prog 31 #[i.val] w fun e w' => ∃ v, e = .returned v ∧ RdI w' (fun b => w.heap.size ≤ b) v (uses i) ∧ Fr w w' := by
  obtain ⟨l0, l1, l2, l3, l4, hs, _, h1, h2⟩ := shape_bytes hk
  have hS := Lib.hid (fun w => Shape_any i.op w)
  rw [hs] at hS
  have HU := Lib.hid (usesTo_2 i)
  have H1 := Lib.hid h1
  have H2 := Lib.hid h2
  clear hk hs h1 h2
  obtain ⟨op, d, a, b, cc, n⟩ := i
  unfold In.val
  simp only at hS H1 H2 HU ⊢
  go_enter Try.func31, Try.ntmps31
  go_wp2_with (go_at_call 42; refine (hS.out _).mono ?_; rintro e w' ⟨rfl, rfl⟩)
  go_loopw [5, 19] (fun v i wr => ∃ k : Int, (k = 0 ∨ k = 1 ∨ k = 2) ∧ i = .int .i64 k ∧ Hid (UsMem w wr ⟨op, d, a, b, cc, n⟩ v (usesTo op a b k.toNat))) (fun _ i _ => 2 - (intOf i).toNat)
  case atStart => exact ⟨0, Or.inl rfl, rfl, ⟨Blk.new w _ _, ⟨rfl, Or.inl ⟨rfl, rfl⟩⟩, (Kept.refl _ w).alloc _⟩⟩
  case round =>
    obtain ⟨k, hk, rfl, hmem⟩ := hrel
    have z0 := hmem.out.bi.lt
    have HM := Lib.hid hmem.out.bi
    have HF := Lib.hid hmem.out.fr
    rcases hk with rfl | rfl | rfl
    · have hix : ∀ w, (Instr.index 121 (.agg #[.int .i64 a, .int .i64 b]) (.int .i64 0)).run Try.prog w = .ok (.int .i64 a) w := fun _ => by kernel_rfl
      have HO := Lib.hid (show wr.ownsRow w.heap.size 3 1 u5 (usesTo op a b 0).length ((usesTo op a b 0).map (Value.int .i64)) from hmem.out.ow)
      have hll := usesTo_len op a b 0
      by_cases hm : 0 < many op
      · have hb : ((((⟨#[l0, l1, l2, l3, l4]⟩ : ByteArray)[1]'(by show 1 < 5; decide)).toNat : Int) != 45) = true := H1.out.trans (decide_eq_true hm)
        have HY := Lib.hid (usesTo_yes (op := op) (a := a) (b := b) (k := 0) (x := a) hm rfl)
        clear hm
        go_wp2_with (at_builtin
                     refine wpList_app (base := w.heap.size) _ rfl slInt' (.tmp 28) (.tmp 30) rfl u5 _ _ rfl (World.ownsRow.alloc HO.out _) (fun _ => True) _ 1 1 _ rfl (Reads.lit' (by simp) trivial rfl) ?_ ?_ ?_ ?_ ?_
                     · simp [Value.oneCell']
                     · omega
                     · unfold maxLen; omega
                     · simp; omega
                     intro v1 w1 hown1 hk1 hat1)
        have HB1 := Lib.hid (Blk.kept (HM.out.alloc _) hk1 (own_blk_ne HO.out HM.out (by decide)))
        have HF1 := Lib.hid (Kept.app (HF.out.alloc _) (World.ownsRow.alloc HO.out _) hk1)
        have HO1 : Hid (w1.ownsRow w.heap.size 3 1 v1 (usesTo op a b 1).length ((usesTo op a b 1).map (Value.int .i64))) := by
          show World.ownsRow _ _ _ _ _ _ _
          rw [HY.out, List.length_append, List.map_append]
          exact hown1
        clear hown1 hk1 hat1
        go_wp2
        go_roundw
        case rel => exact ⟨1, Or.inr (Or.inl rfl), rfl, ⟨HB1.out, HO1.out, HF1.out⟩⟩
        case measure => simp [intOf]
      · have hb : ((((⟨#[l0, l1, l2, l3, l4]⟩ : ByteArray)[1]'(by show 1 < 5; decide)).toNat : Int) != 45) = false := H1.out.trans (decide_eq_false hm)
        have HY := Lib.hid (usesTo_no (op := op) (a := a) (b := b) (k := 0) hm)
        clear hm
        go_wp2
        go_roundw
        case rel => exact ⟨1, Or.inr (Or.inl rfl), rfl, ⟨HM.out, by show World.ownsRow _ _ _ _ _ (usesTo op a b 1).length ((usesTo op a b 1).map _); rw [HY.out]; exact HO.out, HF.out⟩⟩
        case measure => simp [intOf]
    · have hix : ∀ w, (Instr.index 121 (.agg #[.int .i64 a, .int .i64 b]) (.int .i64 1)).run Try.prog w = .ok (.int .i64 b) w := fun _ => by kernel_rfl
      have HO := Lib.hid (show wr.ownsRow w.heap.size 3 1 u5 (usesTo op a b 1).length ((usesTo op a b 1).map (Value.int .i64)) from hmem.out.ow)
      have hll := usesTo_len op a b 1
      by_cases hm : 1 < many op
      · have hb : ((((⟨#[l0, l1, l2, l3, l4]⟩ : ByteArray)[2]'(by show 2 < 5; decide)).toNat : Int) != 45) = true := H2.out.trans (decide_eq_true hm)
        have HY := Lib.hid (usesTo_yes (op := op) (a := a) (b := b) (k := 1) (x := b) hm rfl)
        clear hm
        go_wp2_with (at_builtin
                     refine wpList_app (base := w.heap.size) _ rfl slInt' (.tmp 28) (.tmp 30) rfl u5 _ _ rfl (World.ownsRow.alloc HO.out _) (fun _ => True) _ 1 1 _ rfl (Reads.lit' (by simp) trivial rfl) ?_ ?_ ?_ ?_ ?_
                     · simp [Value.oneCell']
                     · omega
                     · unfold maxLen; omega
                     · simp; omega
                     intro v1 w1 hown1 hk1 hat1)
        have HB1 := Lib.hid (Blk.kept (HM.out.alloc _) hk1 (own_blk_ne HO.out HM.out (by decide)))
        have HF1 := Lib.hid (Kept.app (HF.out.alloc _) (World.ownsRow.alloc HO.out _) hk1)
        have HO1 : Hid (w1.ownsRow w.heap.size 3 1 v1 (usesTo op a b 2).length ((usesTo op a b 2).map (Value.int .i64))) := by
          show World.ownsRow _ _ _ _ _ _ _
          rw [HY.out, List.length_append, List.map_append]
          exact hown1
        clear hown1 hk1 hat1
        go_wp2
        go_roundw
        case rel => exact ⟨2, Or.inr (Or.inr rfl), rfl, ⟨HB1.out, HO1.out, HF1.out⟩⟩
        case measure => simp [intOf]
      · have hb : ((((⟨#[l0, l1, l2, l3, l4]⟩ : ByteArray)[2]'(by show 2 < 5; decide)).toNat : Int) != 45) = false := H2.out.trans (decide_eq_false hm)
        have HY := Lib.hid (usesTo_no (op := op) (a := a) (b := b) (k := 1) hm)
        clear hm
        go_wp2
        go_roundw
        case rel => exact ⟨2, Or.inr (Or.inr rfl), rfl, ⟨HM.out, by show World.ownsRow _ _ _ _ _ (usesTo op a b 2).length ((usesTo op a b 2).map _); rw [HY.out]; exact HO.out, HF.out⟩⟩
        case measure => simp [intOf]
    · go_wp2
      go_ret
      have h2 : wr.ownsRow w.heap.size 3 1 u5 (usesTo op a b 2).length ((usesTo op a b 2).map (Value.int .i64)) := hmem.out.ow
      rw [show usesTo op a b 2 = uses ⟨op, d, a, b, cc, n⟩ from HU.out] at h2
      exact ⟨_, rfl, RdI.of_own h2, HF.out⟩

theorem RdI.lit {w : World} {B g c : Nat} {e : TypeId} {l : List Int} {cs : Array Value} (hg : g = w.heap.size) (hB : B ≤ g) (hl : cs = (l.map (Value.int .i64)).toArray) : RdI (w.alloc (.cells cs e)) (fun b => B ≤ b) (.slice (some ⟨g, 0, none⟩) l.length c) l := by
  refine ⟨_, _, rfl, ?_⟩
  have := Reads.lit' (w := w) (R := fun b => B ≤ b) (e := e) (size := 1) (n := l.length) (cs := cs) hg hB (by rw [hl]; simp)
  rw [hl] at this
  simpa [hl] using this
theorem nexts_8 {op d a b c k : Int} {n : Nat} (h : (op == 8) = true) : nexts ⟨op, d, a, b, c, n⟩ k = [c] := by
  rw [beq_iff_eq] at h; unfold nexts; rw [if_pos h]
theorem nexts_9 {op d a b c k : Int} {n : Nat} (h : (op == 9) = true) : nexts ⟨op, d, a, b, c, n⟩ k = [k + 1, c] := by
  rw [beq_iff_eq] at h; subst h; rfl
theorem nexts_10 {op d a b c k : Int} {n : Nat} (h : (op == 10) = true) : nexts ⟨op, d, a, b, c, n⟩ k = [] := by
  rw [beq_iff_eq] at h; subst h; rfl
theorem nexts_o {op d a b c k : Int} {n : Nat} (h : (op == 8) = false) (h' : (op == 9) = false) (h'' : (op == 10) = false) : nexts ⟨op, d, a, b, c, n⟩ k = [k + 1] := by
  rw [beq_eq_false_iff_ne] at h h' h''; unfold nexts; rw [if_neg h, if_neg h'', if_neg h']

set_option maxRecDepth 100000 in
theorem Nexts_any (i : In) (k : Int) (w : World) (h0 : 0 ≤ k) (h1 : k ≤ 1000) :
    Calls Try.prog 38 #[i.val, .int .i64 k] w fun e w' => ∃ v, e = .returned v ∧ RdI w' (fun b => w.heap.size ≤ b) v (nexts i k) ∧ Fr w w' := by
  obtain ⟨op, d, a, b, cc, n⟩ := i
  unfold In.val
  simp only
  go_enter Try.func38, Try.ntmps38
  go_wp2
  all_goals go_ret
  · rw [nexts_8 ‹_›]
    refine ⟨_, rfl, RdI.lit (g := w.heap.size + 1) (c := 1) (l := [cc]) (cs := #[.int .i64 cc]) ?_ ?_ rfl, ((Kept.refl _ w).alloc _).alloc _⟩
    · simp
    · omega
  · rw [nexts_9 ‹_›]
    refine ⟨_, rfl, RdI.lit (g := w.heap.size + 1) (c := 2) (l := [k + 1, cc]) (cs := #[.int .i64 (k + 1), .int .i64 cc]) ?_ ?_ rfl, ((Kept.refl _ w).alloc _).alloc _⟩
    · simp
    · omega
  · rw [nexts_10 ‹_›]
    exact ⟨_, rfl, ⟨none, 0, rfl, Reads.none_⟩, (Kept.refl _ w).alloc _⟩
  · rw [nexts_o ‹_› ‹_› ‹_›]
    refine ⟨_, rfl, RdI.lit (g := w.heap.size + 1) (c := 1) (l := [k + 1]) (cs := #[.int .i64 (k + 1)]) ?_ ?_ rfl, ((Kept.refl _ w).alloc _).alloc _⟩
    · simp
    · omega

theorem nexts_r {op d a b c k : Int} {n : Nat} (h : (op == 8) = false) (h'' : (op == 10) = false) (h' : (op == 9) = false) : nexts ⟨op, d, a, b, c, n⟩ k = [k + 1] := nexts_o h h' h''
end Go.Proofs.Ytodmkjeankbieac

/- The walk of the closure of run.Run: one instruction, of temporaries. -/
namespace Go.Proofs.Ytodmkjeankbieac
open Go.RowKit Go.Sort

/-- the cells of n temporaries -/
def mkU (n : Nat) (f : Int → Int) : Array Value := ((List.range n).map fun (t : Nat) => Value.int .u64 (f (t : Int))).toArray
theorem mkU_at {n : Nat} {f : Int → Int} {t : Nat} (h : t < n) : (mkU n f)[t]? = some (.int .u64 (f t)) := by
  unfold mkU
  simp [List.getElem?_range h]
theorem mkU_set {n : Nat} {f : Int → Int} {t : Nat} {x : Int} : (mkU n f).setIfInBounds t (.int .u64 x) = mkU n (upd f t x) := by
  unfold mkU upd
  rw [List.setIfInBounds_toArray]
  congr 1
  apply List.ext_getElem
  · simp
  · intro i h1 h2
    simp at h1
    rw [List.getElem_set]
    by_cases h : t = i
    · subst h; simp
    · rw [if_neg h]
      simp
      intro e; exact absurd (by omega) h
theorem Blk.ucell {w : World} {g : Nat} {e : TypeId} {n : Nat} {f : Int → Int} (h : Blk w g e (mkU n f)) {t : Nat} (ht : t < n) : w.cell? ⟨g, t, none⟩ = some (.int .u64 (f t)) := by
  rw [h.cell, mkU_at ht]
theorem Blk.uset {w : World} {g : Nat} {e : TypeId} {n : Nat} {f : Int → Int} (h : Blk w g e (mkU n f)) (t : Nat) (x : Int) : Blk (w.setCell ⟨g, t, none⟩ (.int .u64 x)) g e (mkU n (upd f t x)) := by
  have := h.set_ t (.int .u64 x)
  rwa [mkU_set] at this

/-- what the closure captures: the program's variable, the machine's, the temporaries' -/
structure Clo (w : World) (bp bm bt g B : Nat) (p : Pg) (A1 : Option Addr) (c1 : Nat) (A : Option Addr) (c : Nat) (T : Int → Int) : Prop where
  pb : Blk w bp 25 #[.slice A1 p.wide.length c1, .slice A p.code.length c]
  mb : Blk w bm 60 #[.pointer (some ⟨g, 0, none⟩)]
  tb : Blk w bt 59 (mkU 12 T)
  rd : Reads w (fun b => b < B) 6 A p.code.length (p.code.flatMap In.cells)

theorem Clo.keep {w w' : World} {bp bm bt g B : Nat} {p : Pg} {A1 A : Option Addr} {c1 c : Nat} {T : Int → Int} {r : Sh} {vo : Value} (h : Clo w bp bm bt g B p A1 c1 A c T) (hm : Mc w g B r vo) (hg : B ≤ g)
    (hk : Kept (McS g vo) w w') : Clo w' bp bm bt g B p A1 c1 A c T :=
  ⟨hm.blk hk h.pb (by decide) (by decide), hm.blk hk h.mb (by decide) (by decide), hm.blk hk h.tb (by decide) (by decide), h.rd.kept hk (fun b hb e => by
    rcases e with e | e
    · omega
    · have := (own_lt hm.ow e).1; omega)⟩
theorem Mc.kept {w w' : World} {S : Nat → Prop} {g B : Nat} {r : Sh} {vo : Value} (h : Mc w g B r vo) (hk : Kept S w w') (hg : ¬ S g) (ho : ∀ k, vo.ownBlock = some k → ¬ S k) (hB : ∀ b, b < B → ¬ S b) : Mc w' g B r vo := by
  obtain ⟨how, A, c, hb, h1, h2, hr⟩ := h
  exact ⟨own_kept how hk ho, A, c, hb.kept hk hg, h1, h2, hr.kept hk hB⟩
theorem Mc.fr_ {w w' : World} {g B : Nat} {r : Sh} {vo : Value} (h : Mc w g B r vo) (hk : Fr w w') : Mc w' g B r vo := h.kept hk (fun h => h) (fun _ _ h => h) (fun _ _ h => h)
theorem Clo.fr_ {w w' : World} {bp bm bt g B : Nat} {p : Pg} {A1 A : Option Addr} {c1 c : Nat} {T : Int → Int} (h : Clo w bp bm bt g B p A1 c1 A c T) (hk : Fr w w') : Clo w' bp bm bt g B p A1 c1 A c T :=
  ⟨h.pb.kept hk (fun h => h), h.mb.kept hk (fun h => h), h.tb.kept hk (fun h => h), h.rd.kept hk (fun _ _ h => h)⟩

def RunS (bt g : Nat) (vo : Value) (k : Nat) : Prop := k = bt ∨ McS g vo k

set_option maxHeartbeats 4000000 in
set_option maxRecDepth 100000 in
theorem Run1_any (bp bm bt g B : Nat) (p : Pg) (A1 : Option Addr) (c1 : Nat) (A : Option Addr) (c : Nat) (T : Int → Int) (r : Sh) (vo : Value) (w : World) (hC : Clo w bp bm bt g B p A1 c1 A c T) (hM : Mc w g B r vo) (hg : B ≤ g) (hbt : B ≤ bt)
    (hm : mayB p = true) (hn : (inAt p.code r.pc).n < 4294967296) (hpc : r.pc < p.code.length) (hT : ∀ t, 0 ≤ T t ∧ T t < 18446744073709551616) (hw : ∀ t, wd p.wide t = false → T t < 4294967296)
    (hs : r.steps ≤ 100000) (ho : r.out.length ≤ 100000) (hi : ∀ n ∈ r.ins, 0 ≤ n ∧ n < 4294967296) :
    Calls Try.prog 17 #[.int .i64 (r.pc : Int), .pointer (some ⟨bp, 0, none⟩), .pointer (some ⟨bm, 0, none⟩), .pointer (some ⟨bt, 0, none⟩)] w fun e w' => e = .returned (.tuple #[]) ∧
      (∃ vo', Mc w' g B (rawStep r (inAt p.code r.pc) (T (inAt p.code r.pc).a)) vo') ∧
      Clo w' bp bm bt g B p A1 c1 A c (if gvs (inAt p.code r.pc).op then upd T (inAt p.code r.pc).d (giveV (inAt p.code r.pc) (T (inAt p.code r.pc).a) (T (inAt p.code r.pc).b) (r.ins.headD 0)) else T) ∧ Kept (RunS bt g vo) w w' := by
  have hl := mayB_len hm
  have hI := mayB_ins hm (inAt_mem hpc)
  obtain ⟨⟨ha0, ha1⟩, ⟨hb0, hb1⟩, ⟨hd0, hd1⟩, hc0⟩ := ins_fields hI hl.1
  have hok := insOk hI
  have hx : p.code[r.pc]? = some (inAt p.code r.pc) := by rw [inAt_get hpc]; exact List.getElem?_eq_getElem hpc
  obtain ⟨b, off, rfl, hbB, d0, d1, d2, d3, d4, d5⟩ := hC.rd.ins hx
  have h5 : (inAt p.code r.pc).op = 5 → T (inAt p.code r.pc).a < 4294967296 ∧ T (inAt p.code r.pc).b < 4294967296 := fun h => ⟨hw _ (hok.w5 h).2.1, hw _ (hok.w5 h).2.2⟩
  have hk := hok.kn
  have hTa := hT (inAt p.code r.pc).a
  have hTb := hT (inAt p.code r.pc).b
  clear hI hok hx hw hT hm
  generalize inAt p.code r.pc = i at *
  obtain ⟨op, d, a, b1, cc, n⟩ := i
  simp only at *
  obtain ⟨an, rfl⟩ : ∃ an : Nat, a = (an : Int) := ⟨a.toNat, by omega⟩
  obtain ⟨bn, rfl⟩ : ∃ bn : Nat, b1 = (bn : Int) := ⟨b1.toNat, by omega⟩
  obtain ⟨dn, rfl⟩ : ∃ dn : Nat, d = (dn : Int) := ⟨d.toNat, by omega⟩
  have p0 := hC.pb.cell 1
  have m0 := hC.mb.cell 0
  simp only [List.getElem?_toArray, List.getElem?_cons_succ, List.getElem?_cons_zero] at p0 m0
  have ta := hC.tb.ucell (t := an) (by omega)
  have tb := hC.tb.ucell (t := bn) (by omega)
  have zb := cell_lt d0
  have zm := hC.mb.lt
  have zt := hC.tb.lt
  have zp := hC.pb.lt
  have hp0 : (0 : Int) ≤ (r.pc : Int) := Int.natCast_nonneg _
  have hp1 : (r.pc : Int) < (p.code.length : Int) := by omega
  have HC := Lib.hid hC
  have HM := Lib.hid hM
  have H5 := Lib.hid h5
  have HK := Lib.hid hk
  have HI := Lib.hid hi
  clear hC hM h5 hk hi
  have HD := Lib.hid (fun w (hm : Mc w g B r vo) => Do_any g B r vo ⟨op, dn, an, bn, cc, n⟩ (T an) (T bn) w hm hg HK.out hn hTa hTb H5.out hs ho (by omega) (fun _ => hc0) HI.out)
  have HG := Lib.hid (fun w => Gives_any ⟨op, dn, an, bn, cc, n⟩ w HK.out)
  unfold In.val at HD HG
  simp only at HD HG
  obtain ⟨pc, ins, out, steps, state⟩ := r
  simp only at *
  generalize hT' : (if gvs op = true then upd T (dn : Int) (giveV ⟨op, (dn : Int), (an : Int), (bn : Int), cc, n⟩ (T (an : Int)) (T (bn : Int)) (ins.headD 0)) else T) = T'
  have HT := Lib.hid hT'
  clear hT'
  go_enter Try.func17, Try.ntmps17
  go_wp2
  have HB := Lib.hid (Blk.new w 66 #[.int .i64 op, .int .i64 dn, .int .i64 an, .int .i64 bn, .int .i64 cc, .int .u32 n])
  have HF : Hid (Fr w (w.alloc (.cells #[.int .i64 op, .int .i64 dn, .int .i64 an, .int .i64 bn, .int .i64 cc, .int .u32 n] 66))) := (Kept.refl _ w).alloc _
  generalize w.alloc (.cells #[.int .i64 op, .int .i64 dn, .int .i64 an, .int .i64 bn, .int .i64 cc, .int .u32 n] 66) = W at *
  have HC1 := Lib.hid (HC.out.fr_ HF.out)
  have HM1 := Lib.hid (HM.out.fr_ HF.out)
  clear d0 d1 d2 d3 d4 d5 p0 m0 ta tb zb zm zt zp
  have m0 := HC1.out.mb.cell 0
  have e0 := HB.out.cell 0
  have e1 := HB.out.cell 1
  have e2 := HB.out.cell 2
  have e3 := HB.out.cell 3
  have e4 := HB.out.cell 4
  have e5 := HB.out.cell 5
  simp only [List.getElem?_toArray, List.getElem?_cons_succ, List.getElem?_cons_zero] at m0 e0 e1 e2 e3 e4 e5
  have ta := HC1.out.tb.ucell (t := an) (by omega)
  have tb := HC1.out.tb.ucell (t := bn) (by omega)
  have zt := HC1.out.tb.lt
  have hTi1 : (an : Int) < 12 := by omega
  have hTi2 : (bn : Int) < 12 := by omega
  go_region_held3 (fun w' => w'.cell? ⟨bm, 0, none⟩ = some (.pointer (some ⟨g, 0, none⟩)) ∧ w'.cell? ⟨w.heap.size, 0, none⟩ = some (.int .i64 op) ∧ w'.cell? ⟨w.heap.size, 1, none⟩ = some (.int .i64 dn) ∧ w'.cell? ⟨w.heap.size, 2, none⟩ = some (.int .i64 an) ∧
      w'.cell? ⟨w.heap.size, 3, none⟩ = some (.int .i64 bn) ∧ w'.cell? ⟨w.heap.size, 4, none⟩ = some (.int .i64 cc) ∧ w'.cell? ⟨w.heap.size, 5, none⟩ = some (.int .u32 n) ∧
      w'.cell? ⟨bt, an, none⟩ = some (.int .u64 (T an)) ∧ w'.cell? ⟨bt, bn, none⟩ = some (.int .u64 (T bn)))
    (first
      | go_keep
      | (go_split_ands
         have hC3 := HC1.out.keep HM1.out hg (((Kept.refl (McS g vo) W).drew).trans hk3)
         have hB3 := HM1.out.blk (((Kept.refl (McS g vo) W).drew).trans hk3) HB.out (by decide) (by decide)
         refine ⟨?_, ?_, ?_, ?_, ?_, ?_, ?_, ?_, ?_⟩
         · exact hC3.mb.cell 0
         · exact hB3.cell 0
         · exact hB3.cell 1
         · exact hB3.cell 2
         · exact hB3.cell 3
         · exact hB3.cell 4
         · exact hB3.cell 5
         · exact hC3.tb.ucell (t := an) (by omega)
         · exact hC3.tb.ucell (t := bn) (by omega)))
    (first
      | (go_at_call 18; refine (HD.out _ (HM1.out.fr_ ((Kept.refl _ W).drew))).mono ?_; rintro e w3 ⟨v, rfl, hv, ⟨vo3, hm3⟩, hk3⟩))
  rename_i hHeld
  obtain ⟨-, e0, e1, e2, e3, e4, e5, -, -⟩ := hHeld
  have hk3' : Kept (McS g vo) W w3 := ((Kept.refl (McS g vo) W).drew).trans hk3
  have HC3 := Lib.hid (HC1.out.keep HM1.out hg hk3')
  have HB3 := Lib.hid (HM1.out.blk hk3' HB.out (by decide) (by decide))
  have HM3 := Lib.hid hm3
  have HV := Lib.hid hv
  have HK3 : Hid (Kept (RunS bt g vo) w w3) := (HF.out.mono (fun i _ h => h.elim)).trans (hk3'.mono (fun i _ h => Or.inr h))
  clear hm3 hv hk3 hk3' HD HM HM1 HC HC1 HB HF m0 ta tb zt
  cases hgv : gvs op with
  | false =>
    have h' := HT.out
    rw [if_neg (by rw [hgv]; decide)] at h'
    subst h'
    rw [hgv] at HG
    clear hgv HV HT
    go_wp2_with (go_at_call 19; refine (HG.out _).mono ?_; rintro e w4 ⟨rfl, f4⟩)
    go_end0
    exact ⟨rfl, ⟨vo3, HM3.out.fr_ f4⟩, HC3.out.fr_ f4, HK3.out.trans (f4.mono (fun i _ h => h.elim))⟩
  | true =>
    have h' := HT.out
    rw [if_pos hgv, ← HV.out hgv] at h'
    have HT2 := Lib.hid h'
    rw [hgv] at HG
    clear hgv HV HT h'
    have z0 := HB3.out.lt
    have zt := HC3.out.tb.lt
    go_wp2_with (go_at_call 19; refine (HG.out _).mono ?_; rintro e w4 ⟨rfl, f4⟩; have g1 := (f4.cell z0).trans e1; have hC4 := HC3.out.fr_ f4; have t4 := hC4.tb.ucell (t := dn) (by omega); have t5 := hC4.tb.frozen dn; have z4 := hC4.tb.lt)
    have hKs : Kept (fun k => k = bt) w4 (w4.setCell ⟨bt, dn, none⟩ (.int .u64 v)) := (Kept.refl (fun k => k = bt) w4).setCell (p := ⟨bt, dn, none⟩) (fun _ => rfl) _
    have hM4 := HM3.out.fr_ f4
    obtain ⟨how, Am, cm, hbm, _⟩ := id hM4
    go_end0
    refine ⟨rfl, ⟨vo3, hM4.kept hKs (fun e => hbm.ne_ hC4.tb (by decide) e) (fun k hk e => own_blk_ne how hC4.tb (by decide) (e ▸ hk)) (fun b hb e => by omega)⟩, ?_, ?_⟩
    · rw [← HT2.out]
      exact ⟨hC4.pb.kept hKs (hC4.pb.ne_ hC4.tb (by decide)), hC4.mb.kept hKs (hC4.mb.ne_ hC4.tb (by decide)), hC4.tb.uset dn v, hC4.rd.kept hKs (fun b hb e => by omega)⟩
    · exact (HK3.out.trans (f4.mono (fun i _ h => h.elim))).trans (hKs.mono fun i _ e => Or.inl e)
end Go.Proofs.Ytodmkjeankbieac

/- The walk of run.Run. -/
namespace Go.Proofs.Ytodmkjeankbieac
open Go.RowKit Go.Sort

theorem Reads.old {w : World} {R : Nat → Prop} {size n : Nat} {A : Option Addr} {xs : List Value} (h : Reads w R size A n xs) (hs : 0 < size) : Reads w (fun b => b < w.heap.size) size A n xs := by
  refine ⟨h.1, fun hn => ?_⟩
  obtain ⟨b, off, e, _, hc⟩ := h.2 hn
  have hl : 0 < xs.length := by rw [h.1]; exact Nat.mul_pos hn hs
  exact ⟨b, off, e, cell_lt (hc 0 xs[0] (List.getElem?_eq_getElem hl)), hc⟩

/-- a value of api.Shown reads as x -/
def RdSh (w : World) (R : Nat → Prop) (v : Value) (x : Sh) : Prop :=
  ∃ A c, v = .agg #[.int .i64 (x.state : Int), .slice A x.out.length c, .int .i64 (x.steps : Int)] ∧ x.out.length ≤ 100000 ∧ Reads w R 1 A x.out.length (u32s x.out)
theorem RdSh.kept {w w' : World} {R S : Nat → Prop} {v : Value} {x : Sh} (h : RdSh w R v x) (hk : Kept S w w') (hs : ∀ b, R b → ¬ S b) : RdSh w' R v x :=
  let ⟨A, c, e, hl, hr⟩ := h
  ⟨A, c, e, hl, hr.kept hk hs⟩
theorem RdSh.zero (w : World) (R : Nat → Prop) : RdSh w R (.agg #[.int .i64 0, .slice none 0 0, .int .i64 0]) (sh0 []) := ⟨none, 0, rfl, by simp [sh0], Reads.none_⟩
/-- what run.Run answers -/
def RunPost (w : World) (wr : Int) (x : Sh) (e : Ending) (w' : World) : Prop :=
  Fr w w' ∧ ((wr ≠ 0 ∧ e = .returned (.tuple #[.agg #[.int .i64 0, .slice none 0 0, .int .i64 0], .int .i64 wr])) ∨ (wr = 0 ∧ ∃ v, e = .returned (.tuple #[v, .int .i64 0]) ∧ RdSh w' (fun b => w.heap.size ≤ b) v x))

/-- the world with the three new variables -/
def runW (w2 : World) (ins : Value) : World :=
  ((w2.alloc (.cells #[.int .u64 0, .int .u64 0, .int .u64 0, .int .u64 0, .int .u64 0, .int .u64 0, .int .u64 0, .int .u64 0, .int .u64 0, .int .u64 0, .int .u64 0, .int .u64 0] 59)).alloc
    (.cells #[.int .i64 0, .slice none 0 0, .int .i64 0, .int .i64 0, ins] 62)).alloc (.cells #[.pointer (some ⟨w2.heap.size + 1, 0, none⟩)] 60)

theorem wrong_0 {p : Pg} {n : Nat} {steps : Int} (h : wrongV p n steps = 0) : mayB p = true ∧ n ≤ 40 ∧ 0 ≤ steps ∧ steps ≤ 3000 := by
  unfold wrongV at h
  cases hm : mayB p with
  | false => rw [hm] at h; simp at h
  | true =>
    rw [hm] at h
    simp only [Bool.true_eq_false, if_false] at h
    split at h
    · cases h
    · split at h
      · cases h
      · exact ⟨rfl, by omega, by omega, by omega⟩

/-- what holds while the program runs -/
def RunI (w0 : World) (bs bp bm bt g : Nat) (p : Pg) (A1 : Option Addr) (c1 : Nat) (A : Option Addr) (c : Nat) (w : World) (x : Sh × (Int → Int)) : Prop :=
  (∃ vo, Mc w g w0.heap.size (unF x.1) vo) ∧ Clo w bp bm bt g w0.heap.size p A1 c1 A c x.2 ∧ Temps p x.2 ∧ Fr w0 w ∧ Blk w bs 36 #[.int .i64 0, .slice none 0 0, .int .i64 0]

theorem RunI.step {w0 w : World} {bs bp bm bt g n : Nat} {p : Pg} {A1 : Option Addr} {c1 : Nat} {A : Option Addr} {c : Nat} {ins : List Int} {x : Sh × (Int → Int)} (h : RunI w0 bs bp bm bt g p A1 c1 A c w x) (hg : w0.heap.size ≤ g) (hbt : w0.heap.size ≤ bt)
    (hm : mayB p = true) (ho : ∀ m ∈ p.code, m.ok) (hi : ∀ n ∈ ins, 0 ≤ n ∧ n < 4294967296) (hn : n ≤ 100000) (hat : At p.code (mTemps p) (sh0 ins, fun _ => 0) n x) (h0 : x.1.state = 0) :
    Calls Try.prog 17 (#[.int .i64 (x.1.pc : Int)] ++ #[.pointer (some ⟨bp, 0, none⟩), .pointer (some ⟨bm, 0, none⟩), .pointer (some ⟨bt, 0, none⟩)]) w fun e w' => e = .returned (.tuple #[]) ∧ RunI w0 bs bp bm bt g p A1 c1 A c w' (mStep p.code (mTemps p) x) := by
  obtain ⟨⟨vo, hM⟩, hC, hT, hF, hS⟩ := h
  have hpc := hat.st0 h0
  have hin : ∀ y ∈ x.1.ins, 0 ≤ y ∧ y < 4294967296 := fun y hy => hi y (hat.ins y hy)
  have hout := hat.out rfl
  have hle := hat.le
  refine (Run1_any bp bm bt g w0.heap.size p A1 c1 A c x.2 (unF x.1) vo w hC hM hg hbt hm (ho _ (inAt_mem hpc)).2.2.2.2.2 hpc (fun t => ⟨hT.ge t, hT.lt t⟩) hT.nar (by show x.1.steps ≤ 100000; omega) (by show x.1.out.length ≤ 100000; omega) hin).mono ?_
  rintro e w' ⟨rfl, ⟨vo', hM'⟩, hC', hk⟩
  refine ⟨rfl, ⟨vo', ?_⟩, hC', hT.step hm (fun i hi => (ho i hi).2.2.2.2.2) hpc hin, ?_, ?_⟩
  · have := raw_step (code := p.code) h0 (x.2 (inAt p.code x.1.pc).a)
    show Mc w' g w0.heap.size (unF (shStep p.code x.1 (x.2 (inAt p.code x.1.pc).a))) vo'
    rw [← this]
    exact hM'
  · refine hF.then hk fun i hi hs => ?_
    rcases hs with e | e | e
    · omega
    · omega
    · have := (own_lt hM.ow e).1; omega
  · refine hS.kept hk ?_
    obtain ⟨_, _, hg, _⟩ := hM.ex
    rintro (e | e | e)
    · exact hS.ne_ hC.tb (by decide) e
    · exact hS.ne_ hg (by decide) e
    · exact own_blk_ne hM.ow hS (by decide) e

set_option maxHeartbeats 4000000 in
set_option maxRecDepth 100000 in
theorem run_any (R : Nat → Prop) (v : Value) (p : Pg) (Ai : Option Addr) (ins : List Int) (ci : Nat) (steps : Int) (w : World) (h : RdPg w R v p) (hl : ins.length ≤ ci) (hc : ci ≤ maxLen) (hr : Reads w R 1 Ai ins.length (u32s ins)) (hi : ∀ n ∈ ins, 0 ≤ n ∧ n < 4294967296) :
    Calls Try.prog 5 #[v, .slice Ai ins.length ci, .int .i64 steps] w (RunPost w (wrongV p ins.length steps) (runV p ins steps.toNat)) := by
  have H := Lib.hid h
  obtain ⟨vw, vc, rfl, ⟨A1, c1, rfl, hl1, hr1⟩, ⟨A, c, rfl, hl2, hr2, ho2⟩⟩ := h
  have HC := Lib.hid (hr2.old (by decide))
  have HO := Lib.hid ho2
  have HINS := Lib.hid (hr.old (by decide))
  have HI := Lib.hid hi
  unfold maxLen at hl1 hl2 hc
  clear hr1 hr2 ho2 hr hi
  have HW := Lib.hid (fun w2 (hf : Fr w w2) => Wrong_any R _ p Ai ins.length ci steps w2 (H.out.kept hf (fun _ _ h => h)) (by omega))
  go_enter Try.func5, Try.ntmps5
  go_wp2_with fail
  have HF0 := Lib.hid (show Fr w ((w.alloc (.cells #[.slice A1 p.wide.length c1, .slice A p.code.length c] 25)).alloc (.cells #[.int .i64 0, .slice none 0 0, .int .i64 0] 36)) from ((Kept.refl _ w).alloc _).alloc _)
  have HB0 := Lib.hid ((Blk.new w 25 #[.slice A1 p.wide.length c1, .slice A p.code.length c]).alloc (.cells #[.int .i64 0, .slice none 0 0, .int .i64 0] 36))
  have HB1 : Hid (Blk ((w.alloc (.cells #[.slice A1 p.wide.length c1, .slice A p.code.length c] 25)).alloc (.cells #[.int .i64 0, .slice none 0 0, .int .i64 0] 36)) (w.heap.size + 1) 36 #[.int .i64 0, .slice none 0 0, .int .i64 0]) := by
    have := Blk.new (w.alloc (.cells #[.slice A1 p.wide.length c1, .slice A p.code.length c] 25)) 36 #[.int .i64 0, .slice none 0 0, .int .i64 0]
    show Blk _ _ _ _
    simpa using this
  refine (HW.out _ HF0.out).mono ?_
  rintro e w2 ⟨rfl, f2⟩
  have HF2 := Lib.hid (HF0.out.trans f2)
  have hb0 := HB0.out.kept f2 (fun h => h)
  have hb1 := HB1.out.kept f2 (fun h => h)
  clear HF0 HB0 HB1 HW f2
  by_cases hw : wrongV p ins.length steps = 0
  · have HZ := Lib.hid hw
    obtain ⟨hm, hn40, hs0, hs1⟩ := wrong_0 hw
    obtain ⟨hw1, hw2, hc1, hc2⟩ := mayB_len hm
    rw [hw]
    obtain ⟨n, rfl⟩ : ∃ n : Nat, steps = (n : Int) := ⟨steps.toNat, by omega⟩
    have c0 := hb0.cell 1
    simp only [List.getElem?_toArray, List.getElem?_cons_succ, List.getElem?_cons_zero] at c0
    have z0 := hb0.lt
    have z1 := hb1.lt
    have HB0 := Lib.hid hb0
    have HB1 := Lib.hid hb1
    have hB0 : Blk (runW w2 (.slice Ai ins.length ci)) w.heap.size 25 #[.slice A1 p.wide.length c1, .slice A p.code.length c] := ((hb0.alloc _).alloc _).alloc _
    have hB1 : Blk (runW w2 (.slice Ai ins.length ci)) (w.heap.size + 1) 36 #[.int .i64 0, .slice none 0 0, .int .i64 0] := ((hb1.alloc _).alloc _).alloc _
    have hT : Blk (runW w2 (.slice Ai ins.length ci)) w2.heap.size 59 (mkU 12 fun _ => 0) := (((Blk.new w2 _ _).alloc _).alloc _)
    have hM : Blk (runW w2 (.slice Ai ins.length ci)) (w2.heap.size + 1) 62 #[.int .i64 0, .slice none 0 0, .int .i64 0, .int .i64 0, .slice Ai ins.length ci] := by
      have := (Blk.new (w2.alloc (.cells #[.int .u64 0, .int .u64 0, .int .u64 0, .int .u64 0, .int .u64 0, .int .u64 0, .int .u64 0, .int .u64 0, .int .u64 0, .int .u64 0, .int .u64 0, .int .u64 0] 59)) 62 #[.int .i64 0, .slice none 0 0, .int .i64 0, .int .i64 0, .slice Ai ins.length ci]).alloc (.cells #[.pointer (some ⟨w2.heap.size + 1, 0, none⟩)] 60)
      simpa [runW] using this
    have hP : Blk (runW w2 (.slice Ai ins.length ci)) (w2.heap.size + 2) 60 #[.pointer (some ⟨w2.heap.size + 1, 0, none⟩)] := by
      have := Blk.new ((w2.alloc (.cells #[.int .u64 0, .int .u64 0, .int .u64 0, .int .u64 0, .int .u64 0, .int .u64 0, .int .u64 0, .int .u64 0, .int .u64 0, .int .u64 0, .int .u64 0, .int .u64 0] 59)).alloc
        (.cells #[.int .i64 0, .slice none 0 0, .int .i64 0, .int .i64 0, .slice Ai ins.length ci] 62)) 60 #[.pointer (some ⟨w2.heap.size + 1, 0, none⟩)]
      simpa [runW] using this
    have hF3 : Fr w (runW w2 (.slice Ai ins.length ci)) := (((HF2.out.alloc _).alloc _).alloc _)
    have c0 := hB0.cell 1
    simp only [List.getElem?_toArray, List.getElem?_cons_succ, List.getElem?_cons_zero] at c0
    unfold runW at c0
    have hmf : ∀ (fn : Fn) (first cap : Array Value) (w : World), (Instr.makeFunc fn first cap).run Try.prog w = .ok (.func fn first cap) w := fun _ _ _ _ => rfl
    clear hb0 hb1 hw
    have H3 := Lib.hid (And.intro hB0 (And.intro hB1 (And.intro hT (And.intro hM (And.intro hP hF3)))))
    clear hB0 hB1 hT hM hP hF3
    go_wp2_with fail
    obtain ⟨hB0, hB1, hT, hM, hP, hF3⟩ := H3.out
    refine (Go_any 17 (fun _ _ => by kernel_rfl) #[.pointer (some ⟨w.heap.size, 0, none⟩), .pointer (some ⟨w2.heap.size + 1 + 1, 0, none⟩), .pointer (some ⟨w2.heap.size, 0, none⟩)] (w2.heap.size + 1) w.heap.size n c A p.code (mTemps p) (sh0 ins, fun _ => 0)
      (RunI w (w.heap.size + 1) w.heap.size (w2.heap.size + 2) w2.heap.size (w2.heap.size + 1) p A1 c1 A c) (fun _ _ h => h.1)
      (fun wr x h ha h0 _ => h.step (by have := HF2.out.size; omega) HF2.out.size hm HO.out HI.out (by omega) ha h0) (runW w2 (.slice Ai ins.length ci)) (by have := HF2.out.size; omega) (by omega) (by omega)
      ⟨⟨.slice none 0 0, ⟨rfl, Or.inl ⟨rfl, rfl⟩⟩, Ai, ci, hM, hl, hc, HINS.out.kept hF3 (fun _ _ h => h)⟩, ⟨hB0, hP, hT, HC.out.kept hF3 (fun _ _ h => h)⟩, Temps.zero p, hF3, hB1⟩ (At.start _ ins hc1)).mono ?_
    rintro e w3 ⟨rfl, hpost⟩
    obtain ⟨w4, vo, ⟨_, hC4, _, hF4, hB4⟩, hM3, hk⟩ := hpost
    have hout : (runV p ins n).out.length ≤ n := by
      have := mRun_outlen (code := p.code) (M := mTemps p) n (sh0 ins, fun _ => 0)
      simpa [sh0, runV] using this
    have hM3' : Mc w3 (w2.heap.size + 1) w.heap.size (runV p ins n) vo := hM3
    clear hM3 hB0 hB1 hT hM hP hF3 H3 c0
    obtain ⟨how, A5, c5, hg5, _, _, _⟩ := id hM3'
    have hm3 := hC4.mb.kept hk (by omega)
    have hs3 := hB4.kept hk (by omega)
    have hF5 := Lib.hid (hF4.then hk (fun i hi e => by have := HF2.out.size; omega))
    have m0 := hm3.cell 0
    have q0 := hg5.cell 0
    have q1 := hg5.cell 1
    have q2 := hg5.cell 2
    have s0 := hs3.cell 0
    have s1 := hs3.cell 1
    have s2 := hs3.cell 2
    have y0 := hs3.frozen 0
    have y1 := hs3.frozen 1
    have y2 := hs3.frozen 2
    have z2 := hs3.lt
    simp only [List.getElem?_toArray, List.getElem?_cons_succ, List.getElem?_cons_zero] at m0 q0 q1 q2 s0 s1 s2
    have HX := Lib.hid how
    have HS3 := Lib.hid hs3
    obtain ⟨A9, c9, rfl, _, hr9⟩ := own_reads how
    have HR9 := Lib.hid hr9
    clear hM3' how hg5 hm3 hs3 hk hC4 hF4 hB4 hr9
    go_wp2
    refine bodyPost_ret (v := .tuple #[.agg #[.int .i64 ((runV p ins n).state : Int), .slice A9 (runV p ins n).out.length c9, .int .i64 ((runV p ins n).steps : Int)], .int .i64 0]) ?_ rfl ?_
    · simp [results, Try.results5, go_sem, s0, s1, s2]
    · have hK : Kept (fun b => b = w.heap.size + 1) w3 (((w3.setCell ⟨w.heap.size + 1, 0, none⟩ (.int .i64 ((runV p ins n).state : Int))).setCell ⟨w.heap.size + 1, 1, none⟩ (.slice A9 (runV p ins n).out.length c9)).setCell ⟨w.heap.size + 1, 2, none⟩ (.int .i64 ((runV p ins n).steps : Int))) :=
        (((Kept.refl (fun b => b = w.heap.size + 1) w3).setCell (p := ⟨w.heap.size + 1, 0, none⟩) (fun _ => rfl) _).setCell (p := ⟨w.heap.size + 1, 1, none⟩) (fun _ => rfl) _).setCell (p := ⟨w.heap.size + 1, 2, none⟩) (fun _ => rfl) _
      refine ⟨((hF5.out.setCell (fun e => by simp only at e; omega) _).setCell (fun e => by simp only at e; omega) _).setCell (fun e => by simp only at e; omega) _, Or.inr ⟨HZ.out, _, rfl, A9, c9, rfl, by show (runV p ins n).out.length ≤ 100000; omega, ?_⟩⟩
      exact (HR9.out.kept hK (fun b hb e => own_blk_ne HX.out HS3.out (by decide) (e ▸ hb.2))).more (fun b hb => hb.1)
  · have hne : (wrongV p ins.length steps != 0) = true := by simpa using hw
    have HZ := Lib.hid hw
    have q0 := hb1.cell 0
    have q1 := hb1.cell 1
    have q2 := hb1.cell 2
    simp only [List.getElem?_toArray, List.getElem?_cons_succ, List.getElem?_cons_zero] at q0 q1 q2
    have y0 := hb1.frozen 0
    have y1 := hb1.frozen 1
    have y2 := hb1.frozen 2
    have z1 := hb1.lt
    have HB1 := Lib.hid hb1
    clear hw hb1 hb0
    generalize wrongV p ins.length steps = wr at *
    go_wp2
    refine bodyPost_ret (v := .tuple #[.agg #[.int .i64 0, .slice none 0 0, .int .i64 0], .int .i64 wr]) ?_ rfl ?_
    · simp [results, Try.results5, go_sem, q0, q1, q2]
    · exact ⟨((HF2.out.setCell (fun e => by simp only at e; omega) _).setCell (fun e => by simp only at e; omega) _).setCell (fun e => by simp only at e; omega) _, Or.inl ⟨HZ.out, rfl⟩⟩
end Go.Proofs.Ytodmkjeankbieac

/- The walks of done's store: get, put. -/
namespace Go.Proofs.Ytodmkjeankbieac
open Go.RowKit Go.Sort

set_option maxHeartbeats 1000000 in
set_option maxRecDepth 100000 in
theorem dGet_any (bs : Nat) (s : Sto) (a : PlaceV) (w : World) (h : Blk w bs 73 (stC s)) (hs : StOk s) (ha : Has a) :
    Calls Try.prog 23 #[.pointer (some ⟨bs, 0, none⟩), a.val] w fun e w' => e = .returned (.int .u64 (getS s a)) ∧ Fr w w' := by
  obtain ⟨h1, h2, h3⟩ := ha
  obtain ⟨k, n⟩ := a
  simp only at h1 h2 h3
  unfold PlaceV.val
  simp only
  have zb := h.lt
  have F0 := Lib.hid (show Fr w (w.alloc (.cells #[.int .i64 k, .int .i64 n] 75)) from (Kept.refl _ w).alloc _)
  by_cases e1 : k = 1
  · subst e1
    have hn := h1 rfl
    obtain ⟨m, rfl⟩ : ∃ m : Nat, n = (m : Int) := ⟨n.toNat, by omega⟩
    have c0 := (h.cell m).trans (stC_sg (by omega))
    have r0 := hs.sg m
    have hg : Hid (getS s ⟨1, m⟩ = s.sg m) := rfl
    clear h1 h2 h3 h hs
    generalize s.sg m = x at *
    go_enter Try.func23, Try.ntmps23
    go_wp2
    go_quiet (fail)
    go_wp2
    go_ret
    refine ⟨?_, F0.out.drewN nq⟩
    rw [hg.out]; rfl
  · by_cases e2 : k = 2
    · subst e2
      have hn := h2 rfl
      obtain ⟨m, rfl⟩ : ∃ m : Nat, n = (m : Int) := ⟨n.toNat, by omega⟩
      have c0 := (h.cell (2 * m)).trans (stC_sg (by omega))
      have c1 := (h.cell (2 * m + 1)).trans (stC_sg (by omega))
      have r0 := hs.sg (2 * m)
      have r1 := hs.sg (2 * m + 1)
      have hg : Hid (getS s ⟨2, m⟩ = s.sg (2 * m + 1) * 4294967296 + s.sg (2 * m)) := rfl
      rw [show ((2 * m : Nat) : Int) = 2 * (m : Int) by omega] at c0
      rw [show ((2 * m + 1 : Nat) : Int) = 2 * (m : Int) + 1 by omega] at c1
      clear h1 h2 h3 h hs
      generalize s.sg (2 * m + 1) = y at *
      generalize s.sg (2 * m) = x at *
      have hor := or_u64 x y r0.1 r0.2 r1.1 r1.2
      go_enter Try.func23, Try.ntmps23
      go_wp2
      go_quiet (fail)
      go_wp2
      go_ret
      refine ⟨?_, F0.out.drewN nq⟩
      rw [hg.out]; rfl
    · by_cases e3 : k = 3
      · subst e3
        have hn := h3 rfl
        obtain ⟨m, rfl⟩ : ∃ m : Nat, n = (m : Int) := ⟨n.toNat, by omega⟩
        have c0 := (h.cell (16 + m)).trans (stC_sl (by omega))
        have r0 := hs.sl m
        have hg : Hid (getS s ⟨3, m⟩ = s.sl m) := rfl
        clear h1 h2 h3 h hs
        generalize s.sl m = x at *
        go_enter Try.func23, Try.ntmps23
        go_wp2
        go_quiet (fail)
        go_wp2
        go_ret
        refine ⟨?_, F0.out.drewN nq⟩
        rw [hg.out]; rfl
      · have hg : Hid (getS s ⟨k, n⟩ = 0) := by show _ = _; unfold getS; rw [if_neg e1, if_neg e2, if_neg e3]
        have e1' : (k == 1) = false := by simpa using e1
        have e2' : (k == 2) = false := by simpa using e2
        have e3' : (k == 3) = false := by simpa using e3
        clear h1 h2 h3 h hs
        go_enter Try.func23, Try.ntmps23
        go_wp2
        go_ret
        refine ⟨?_, F0.out⟩
        rw [hg.out]; rfl

set_option maxHeartbeats 1000000 in
set_option maxRecDepth 100000 in
theorem dPut_any (bs : Nat) (s : Sto) (a : PlaceV) (v : Int) (w : World) (h : Blk w bs 73 (stC s)) (ha : Has a) (hv : 0 ≤ v ∧ v < 18446744073709551616) :
    Calls Try.prog 24 #[.pointer (some ⟨bs, 0, none⟩), a.val, .int .u64 v] w fun e w' => e = .returned (.tuple #[]) ∧ Blk w' bs 73 (stC (putS s a v)) ∧ Kept (fun b => b = bs) w w' := by
  obtain ⟨h1, h2, h3⟩ := ha
  obtain ⟨k, n⟩ := a
  simp only at h1 h2 h3
  unfold PlaceV.val
  simp only
  have zb := h.lt
  have F0 := Lib.hid (show Kept (fun b => b = bs) w (w.alloc (.cells #[.int .i64 k, .int .i64 n] 75)) from (Kept.refl _ w).alloc _)
  have HB := Lib.hid h
  have HK := Lib.hid (fun p x (hp : p.block = bs) => (Kept.refl (fun b => b = bs) w).setCell (p := p) (fun _ => hp) x)
  by_cases e1 : k = 1
  · subst e1
    have hn := h1 rfl
    obtain ⟨m, rfl⟩ : ∃ m : Nat, n = (m : Int) := ⟨n.toNat, by omega⟩
    have c0 := (h.cell m).trans (stC_sg (by omega))
    have y0 := h.frozen m
    have hg : Hid (putS s ⟨1, m⟩ v = { s with sg := upd s.sg m (v % 4294967296) }) := rfl
    have HS := Lib.hid (stC_setg (s := s) (t := m) (by omega) (v % 4294967296))
    clear h1 h2 h3 h
    generalize s.sg m = x at *
    go_enter Try.func24, Try.ntmps24
    go_wp2
    go_region
    go_wp2
    go_end0
    refine ⟨rfl, ?_, ((HK.out ⟨bs, m, none⟩ _ rfl).alloc _).drew⟩
    have := HB.out.set_ m (.int .u32 (v % 4294967296))
    rw [HS.out] at this
    rw [hg.out]; exact this.alloc _
  · by_cases e2 : k = 2
    · subst e2
      have hn := h2 rfl
      obtain ⟨m, rfl⟩ : ∃ m : Nat, n = (m : Int) := ⟨n.toNat, by omega⟩
      have c0 := (h.cell (2 * m)).trans (stC_sg (by omega))
      have c1 := (h.cell (2 * m + 1)).trans (stC_sg (by omega))
      have y0 := h.frozen (2 * m)
      have y1 := h.frozen (2 * m + 1)
      have hg : Hid (putS s ⟨2, m⟩ v = { s with sg := upd (upd s.sg (2 * m) (v % 4294967296)) (2 * m + 1) (v / 4294967296) }) := rfl
      clear h1 h2 h3 h
      go_enter Try.func24, Try.ntmps24
      go_wp2
      go_region
      go_wp2
      go_end0
      refine ⟨rfl, ?_, (((HK.out ⟨bs, 2 * m, none⟩ _ rfl).setCell (p := ⟨bs, 2 * m + 1, none⟩) (fun _ => rfl) _).alloc _).drew⟩
      have := HB.out.set_ (2 * m) (.int .u32 (v % 4294967296))
      rw [stC_setg (by omega)] at this
      have := this.set_ (2 * m + 1) (.int .u32 (v / 4294967296))
      rw [stC_setg (by omega), show ((2 * m : Nat) : Int) = 2 * (m : Int) by omega, show ((2 * m + 1 : Nat) : Int) = 2 * (m : Int) + 1 by omega] at this
      rw [hg.out]; exact this.alloc _
    · by_cases e3 : k = 3
      · subst e3
        have hn := h3 rfl
        obtain ⟨m, rfl⟩ : ∃ m : Nat, n = (m : Int) := ⟨n.toNat, by omega⟩
        have c0 := (h.cell (16 + m)).trans (stC_sl (by omega))
        have y0 := h.frozen (16 + m)
        have hg : Hid (putS s ⟨3, m⟩ v = { s with sl := upd s.sl m v }) := rfl
        have HS := Lib.hid (stC_setl (s := s) (t := m) v)
        clear h1 h2 h3 h
        generalize s.sl m = x at *
        go_enter Try.func24, Try.ntmps24
        go_wp2
        go_region
        go_wp2
        go_end0
        refine ⟨rfl, ?_, ((HK.out ⟨bs, 16 + m, none⟩ _ rfl).alloc _).drew⟩
        have := HB.out.set_ (16 + m) (.int .u64 v)
        rw [HS.out] at this
        rw [hg.out]; exact this.alloc _
      · have hg : Hid (putS s ⟨k, n⟩ v = s) := by show _ = _; unfold putS; rw [if_neg e1, if_neg e2, if_neg e3]
        have e1' : (k == 1) = false := by simpa using e1
        have e2' : (k == 2) = false := by simpa using e2
        have e3' : (k == 3) = false := by simpa using e3
        clear h1 h2 h3 h
        go_enter Try.func24, Try.ntmps24
        go_wp2
        go_end0
        exact ⟨rfl, by rw [hg.out]; exact HB.out.alloc _, F0.out⟩
end Go.Proofs.Ytodmkjeankbieac

/- The walk of done's store: moves. -/
namespace Go.Proofs.Ytodmkjeankbieac
open Go.RowKit Go.Sort

set_option maxHeartbeats 1000000 in
set_option maxRecDepth 100000 in
theorem dMoves_any (R : Nat → Prop) (bs : Nat) (s : Sto) (v : Value) (l : List Mv) (w : World) (h : Blk w bs 73 (stC s)) (hs : StOk s) (hr : RdMv w R v l) (hR : ∀ b, R b → b ≠ bs) (hl : l.length ≤ 1000) (hm : ∀ m ∈ l, MvHas m) :
    Calls Try.prog 22 #[.pointer (some ⟨bs, 0, none⟩), v] w fun e w' => e = .returned (.tuple #[]) ∧ Blk w' bs 73 (stC (movesS s l)) ∧ Kept (fun b => b = bs) w w' ∧ StOk (movesS s l) := by
  obtain ⟨A, c, rfl, _, hr, _⟩ := hr
  have HR := Lib.hid hr
  have HM := Lib.hid hm
  have HRB := Lib.hid hR
  have H0 := Lib.hid h
  have HS := Lib.hid hs
  clear hr hm hR h hs
  go_enter Try.func22, Try.ntmps22
  go_wp2
  go_loopw [8] (fun i wr => ∃ k : Nat, k ≤ l.length ∧ i = .int .i64 k ∧ Hid (Blk wr bs 73 (stC (movesS s (l.take k))) ∧ Kept (fun b => b = bs) w wr ∧ StOk (movesS s (l.take k)))) (fun i _ => l.length - (intOf i).toNat)
  case atStart => exact ⟨0, Nat.zero_le _, rfl, H0.out, Kept.refl _ w, HS.out⟩
  case round =>
    obtain ⟨k, hk, rfl, hx⟩ := hrel
    by_cases hlt : k < l.length
    · have hg : l[k]? = some l[k] := List.getElem?_eq_getElem hlt
      obtain ⟨b, off, rfl, hRb, c0, c1, c2, c3, c4, c5⟩ := (HR.out.kept hx.out.2.1 (fun b hb e => HRB.out b hb e)).mv hg
      have hmv := HM.out _ (List.getElem_mem hlt)
      have HT := Lib.hid (moves_take (s := s) hg)
      have HO := Lib.hid (hx.out.2.2.move hmv)
      have hbl := cell_lt c0
      have hk0 : (0 : Int) ≤ (k : Int) := Int.natCast_nonneg _
      have hk1 : (k : Int) < (l.length : Int) := by omega
      clear hg
      generalize l[k] = m at *
      obtain ⟨⟨tk, tn⟩, ⟨fk, fn⟩, mc, n⟩ := m
      simp only at c0 c1 c2 c3 c4 c5
      have hto := hmv.to
      have hfr := hmv.fr
      have hn := hmv.n
      simp only at hto hfr hn
      have HTO := Lib.hid hto
      have HFR := Lib.hid hfr
      have HX := Lib.hid hx.out
      clear hmv hto hfr hx
      generalize movesS s (l.take k) = s' at *
      obtain ⟨wB, rfl⟩ : ∃ wB : World, wB = wr := ⟨_, rfl⟩
      cases mc with
      | true =>
        have hwB : Hid (Blk (wB.alloc (.cells #[.int .i64 tk, .int .i64 tn, .int .i64 fk, .int .i64 fn, .bool true, .int .u32 n] 101)) bs 73 (stC s')) := HX.out.1.alloc _
        have hkB : Hid (Kept (fun b => b = bs) w (wB.alloc (.cells #[.int .i64 tk, .int .i64 tn, .int .i64 fk, .int .i64 fn, .bool true, .int .u32 n] 101))) := HX.out.2.1.alloc _
        go_wp2_with fail
        refine (dPut_any bs s' ⟨tk, tn⟩ (n : Int) _ hwB.out HTO.out (by omega)).mono ?_
        rintro e w1 ⟨rfl, hb1, k1⟩
        have HN := Lib.hid (And.intro hb1 (And.intro (hkB.out.trans k1) HO.out))
        clear hb1 k1
        go_wp2
        go_roundw
        case rel => exact ⟨k + 1, by omega, by go_num, by show _ ∧ _; rw [HT.out]; exact HN.out⟩
        case measure => simp [intOf]; omega
      | false =>
        go_wp2
        have HBm := Lib.hid (Blk.new wB 101 #[.int .i64 tk, .int .i64 tn, .int .i64 fk, .int .i64 fn, .bool false, .int .u32 n])
        have hwB : Hid (Blk (wB.alloc (.cells #[.int .i64 tk, .int .i64 tn, .int .i64 fk, .int .i64 fn, .bool false, .int .u32 n] 101)) bs 73 (stC s')) := HX.out.1.alloc _
        have hkB : Hid (Kept (fun b => b = bs) w (wB.alloc (.cells #[.int .i64 tk, .int .i64 tn, .int .i64 fk, .int .i64 fn, .bool false, .int .u32 n] 101))) := HX.out.2.1.alloc _
        have hne : wB.heap.size ≠ bs := by have := HX.out.1.lt; omega
        generalize wB.alloc (.cells #[.int .i64 tk, .int .i64 tn, .int .i64 fk, .int .i64 fn, .bool false, .int .u32 n] 101) = W at *
        clear c0 c1 c2 c3 c4 c5 hbl
        have e0 := HBm.out.cell 0
        have e1 := HBm.out.cell 1
        have e2 := HBm.out.cell 2
        have e3 := HBm.out.cell 3
        have zm := HBm.out.lt
        simp only [List.getElem?_toArray, List.getElem?_cons_succ, List.getElem?_cons_zero] at e0 e1 e2 e3
        have HGT := Lib.hid (HX.out.2.2.get ⟨fk, fn⟩)
        go_region_held3 (fun w' => w'.cell? ⟨wB.heap.size, 0, none⟩ = some (.int .i64 tk) ∧ w'.cell? ⟨wB.heap.size, 1, none⟩ = some (.int .i64 tn) ∧ w'.cell? ⟨wB.heap.size, 2, none⟩ = some (.int .i64 fk) ∧ w'.cell? ⟨wB.heap.size, 3, none⟩ = some (.int .i64 fn))
          (first
            | go_keep
            | (go_split_ands
               have hB3 := HBm.out.kept ((Kept.refl (fun _ => False) W).drew.trans f1) (fun h => h)
               refine ⟨?_, ?_, ?_, ?_⟩
               · exact hB3.cell 0
               · exact hB3.cell 1
               · exact hB3.cell 2
               · exact hB3.cell 3)
            | (go_split_ands
               have hB3 := (HBm.out.kept ((Kept.refl (fun _ => False) W).drew.trans f1) (fun h => h)).kept k2 hne
               refine ⟨?_, ?_, ?_, ?_⟩
               · exact hB3.cell 0
               · exact hB3.cell 1
               · exact hB3.cell 2
               · exact hB3.cell 3))
          (first
            | (go_at_call 23; refine (dGet_any bs s' ⟨fk, fn⟩ _ (hwB.out.kept ((Kept.refl (fun _ => False) W).drew) (fun h => h)) HX.out.2.2 (HFR.out (by trivial))).mono ?_; rintro e w1 ⟨rfl, f1⟩)
            | (go_at_call 24; refine (dPut_any bs s' ⟨tk, tn⟩ (getS s' ⟨fk, fn⟩) _ (hwB.out.kept (((Kept.refl (fun _ => False) W).drew).trans f1) (fun h => h)) HTO.out HGT.out).mono ?_; rintro e w2 ⟨rfl, hb2, k2⟩))
        have HN := Lib.hid (And.intro hb2 (And.intro ((hkB.out.trans ((((Kept.refl (fun _ => False) W).drew).trans f1).mono (fun _ _ h => h.elim))).trans k2) HO.out))
        clear hb2 k2 f1
        go_wp2
        go_roundw
        case rel => exact ⟨k + 1, by omega, by go_num, by show _ ∧ _; rw [HT.out]; exact HN.out⟩
        case measure => simp [intOf]; omega
    · obtain rfl : k = l.length := by omega
      have HN := Lib.hid hx.out
      rw [List.take_length] at HN
      go_wp2
      go_end0
      exact ⟨rfl, HN.out.1, HN.out.2.1, HN.out.2.2⟩
end Go.Proofs.Ytodmkjeankbieac
