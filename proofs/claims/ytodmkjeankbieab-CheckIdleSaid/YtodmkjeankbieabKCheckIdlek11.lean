/- Num, Run, Run1, Sto, Sto2, Go: texts of this claim, packed into one file. -/
import Derived.Test.YtodmkjeankbieabKCheckIdlek0
import Derived.Test.YtodmkjeankbieabKCheckIdlek2
import Derived.Test.YtodmkjeankbieabKCheckIdlek1
import Derived.Test.YtodmkjeankbieabKCheckIdlek3
import Derived.Test.YtodmkjeankbieabProg
import Derived.WalkKit
import Derived.ProofKit
import Derived.WalkSpells
import Derived.WalkLawsBesides
import Derived.Lib.Hide
import Derived.Outline
import Derived.Deep.Cut
import Derived.Deep.RegionHeld3
/- The walks of chapter 1: what num.Narrow, num.Wide and the reference's two compute, each for all operations and numbers. -/
namespace Go.Proofs.Ytodmkjeankbieab
open Go.RowKit

theorem ret_int {k : IntKind} {a b : Int} (h : a = b) : Ending.returned (.int k a) = .returned (.int k b) := by rw [h]

theorem do64 (op a b : Int) (h0 : 0 ≤ a) (h1 : a ≤ 18446744073709551615) (g0 : 0 ≤ b) (g1 : b ≤ 18446744073709551615) (w : World) :
    Calls Try.prog 106 #[.int .i64 op, .int .u64 a, .int .u64 b] w fun e w' => e = .returned (.int .u64 (wideOp op a b)) ∧ w = w' := by
  go_enter Try.func106, Try.ntmps106
  go_wp2
  all_goals go_ret
  all_goals refine ⟨ret_int ?_, rfl⟩
  all_goals unfold wideOp
  · rw [opM_1 ‹_›, IntKind.wrap_u64]
  · rw [opM_2 ‹_›, IntKind.wrap_u64]
  · rw [opM_3 ‹_›, IntKind.wrap_u64]
  · rw [opM_4 ‹_›, (bits_u64 a b h0 h1 g0 g1).1]
  · rw [opM_5 ‹_›, (bits_u64 a b h0 h1 g0 g1).2]
  · rw [opM_6 ‹_›, if_pos ‹_›]
  · rw [opM_6 ‹_›, if_neg (by omega)]
  · rw [opM_0 ‹_› ‹_› ‹_› ‹_› ‹_› ‹_›]

theorem do32 (op a b : Int) (h0 : 0 ≤ a) (h1 : a ≤ 4294967295) (g0 : 0 ≤ b) (g1 : b ≤ 4294967295) (w : World) :
    Calls Try.prog 107 #[.int .i64 op, .int .u32 a, .int .u32 b] w fun e w' => e = .returned (.int .u32 (narrowOp op a b)) ∧ w = w' := by
  go_enter Try.func107, Try.ntmps107
  go_wp2
  all_goals go_ret
  all_goals refine ⟨ret_int ?_, rfl⟩
  all_goals unfold narrowOp
  · rw [opM_1 ‹_›]
  · rw [opM_2 ‹_›]
  · rw [opM_3 ‹_›]
  · rw [opM_4 ‹_›, (bits_u32 a b h0 h1 g0 g1).1]
  · rw [opM_5 ‹_›, (bits_u32 a b h0 h1 g0 g1).2]
  · rw [opM_6 ‹_›, if_pos ‹_›]
  · rw [opM_6 ‹_›, if_neg (by omega)]
  · rw [opM_0 ‹_› ‹_› ‹_› ‹_› ‹_› ‹_›]

theorem Wide_any (op a b : Int) (h0 : 0 ≤ a) (h1 : a ≤ 18446744073709551615) (g0 : 0 ≤ b) (g1 : b ≤ 18446744073709551615) (w : World) :
    Calls Try.prog 79 #[.int .i64 op, .int .u64 a, .int .u64 b] w fun e w' => e = .returned (.int .u64 (wideOp op a b)) ∧ w = w' := by
  go_enter Try.func79, Try.ntmps79
  go_wp2_with (go_at_call 106; refine (do64 _ _ _ h0 h1 g0 g1 _).mono ?_; rintro e w' ⟨rfl, rfl⟩)
  go_ret
  exact ⟨rfl, rfl⟩

theorem Narrow_any (op a b : Int) (h0 : 0 ≤ a) (h1 : a ≤ 4294967295) (g0 : 0 ≤ b) (g1 : b ≤ 4294967295) (w : World) :
    Calls Try.prog 80 #[.int .i64 op, .int .u32 a, .int .u32 b] w fun e w' => e = .returned (.int .u32 (narrowOp op a b)) ∧ w = w' := by
  go_enter Try.func80, Try.ntmps80
  go_wp2_with (go_at_call 107; refine (do32 _ _ _ h0 h1 g0 g1 _).mono ?_; rintro e w' ⟨rfl, rfl⟩)
  go_ret
  exact ⟨rfl, rfl⟩

/-- the loop's relation: what n, power, a, b hold behind k rounds -/
def BitsAt (an : Bool) (a b : Nat) (k n p x y : Nat) : Prop :=
  n = bwk an a b k ∧ p = pw k ∧ x = a / 2 ^ k ∧ y = b / 2 ^ k

theorem bitsAt_0 (an : Bool) (a b : Nat) : BitsAt an a b 0 0 1 a b := by
  refine ⟨by simp [bwk]; omega, by decide, by simp, by simp⟩

theorem bitsAt_bounds {an : Bool} {a b k n p x y : Nat} (h : BitsAt an a b k n p x y) (hk : k < 64) :
    n < p ∧ p ≤ 9223372036854775808 ∧ x ≤ a ∧ y ≤ b := by
  obtain ⟨rfl, rfl, rfl, rfl⟩ := h
  have h1 := pw_lt k hk
  have h2 := bwk_lt an a b k
  have h3 := Nat.div_le_self a (2 ^ k)
  have h4 := Nat.div_le_self b (2 ^ k)
  omega

theorem bitsAt_succ {an : Bool} {a b k n p x y : Nat} (h : BitsAt an a b k n p x y) (hk : k < 64) :
    BitsAt an a b (k + 1) (if bw1 an (x % 2) (y % 2) then n + p else n) ((p + p) % 18446744073709551616) (x / 2) (y / 2) := by
  obtain ⟨rfl, rfl, rfl, rfl⟩ := h
  refine ⟨?_, pw_succ k, half_step a k, half_step b k⟩
  rw [bwk_succ, (pw_lt k hk).1]
  cases bw1 an (a / 2 ^ k % 2) (b / 2 ^ k % 2) <;> simp

theorem bw1_xt {x y : Nat} (h : ((x : Int) % 2 != (y : Int) % 2) = true) : bw1 false (x % 2) (y % 2) = true := by simp [bw1] at *; omega
theorem bw1_xf {x y : Nat} (h : ((x : Int) % 2 != (y : Int) % 2) = false) : bw1 false (x % 2) (y % 2) = false := by simp [bw1] at *; omega
theorem bw1_at {x y : Nat} (h : (x : Int) % 2 + (y : Int) % 2 = 2) : bw1 true (x % 2) (y % 2) = true := by simp [bw1]; omega
theorem bw1_af {x y : Nat} (h : ¬ (x : Int) % 2 + (y : Int) % 2 = 2) : bw1 true (x % 2) (y % 2) = false := by simp [bw1]; omega

theorem bits_rel {an : Bool} {a0 b0 k n p x y : Nat} (hk : k < 64) (hs : BitsAt an a0 b0 (k + 1) (if bw1 an (x % 2) (y % 2) then n + p else n) ((p + p) % 18446744073709551616) (x / 2) (y / 2)) :
    (bw1 an (x % 2) (y % 2) = true → ∃ k1 n1 p1 x1 y1 : Nat, k1 ≤ 64 ∧ BitsAt an a0 b0 k1 n1 p1 x1 y1 ∧ Value.int IntKind.u64 (↑x / 2) = Value.int IntKind.u64 ↑x1 ∧ Value.int IntKind.u64 (↑y / 2) = Value.int IntKind.u64 ↑y1 ∧
      Value.int IntKind.u64 (↑n + ↑p) = Value.int IntKind.u64 ↑n1 ∧ Value.int IntKind.u64 ((↑p + ↑p) % 18446744073709551616) = Value.int IntKind.u64 ↑p1 ∧ Value.int IntKind.i64 (↑k + 1) = Value.int IntKind.i64 ↑k1) ∧
    (bw1 an (x % 2) (y % 2) = false → ∃ k1 n1 p1 x1 y1 : Nat, k1 ≤ 64 ∧ BitsAt an a0 b0 k1 n1 p1 x1 y1 ∧ Value.int IntKind.u64 (↑x / 2) = Value.int IntKind.u64 ↑x1 ∧ Value.int IntKind.u64 (↑y / 2) = Value.int IntKind.u64 ↑y1 ∧
      Value.int IntKind.u64 (↑n) = Value.int IntKind.u64 ↑n1 ∧ Value.int IntKind.u64 ((↑p + ↑p) % 18446744073709551616) = Value.int IntKind.u64 ↑p1 ∧ Value.int IntKind.i64 (↑k + 1) = Value.int IntKind.i64 ↑k1) := by
  refine ⟨fun h => ?_, fun h => ?_⟩
  · rw [h] at hs; exact ⟨k + 1, n + p, _, _, _, by omega, hs, by simp, by simp, by simp, by simp, by simp⟩
  · rw [h] at hs; exact ⟨k + 1, n, _, _, _, by omega, hs, by simp, by simp, by simp, by simp, by simp⟩

theorem bits_any (an : Bool) (a b : Int) (h0 : 0 ≤ a) (h1 : a ≤ 18446744073709551615) (g0 : 0 ≤ b) (g1 : b ≤ 18446744073709551615) (w : World) :
    Calls Try.prog 108 #[.bool an, .int .u64 a, .int .u64 b] w fun e w' => e = .returned (.int .u64 ((bw an a.toNat b.toNat : Nat) : Int)) ∧ w = w' := by
  obtain ⟨a0, rfl⟩ := Int.eq_ofNat_of_zero_le h0
  obtain ⟨b0, rfl⟩ := Int.eq_ofNat_of_zero_le g0
  have fin : Hid (bwk an a0 b0 64 = bw an a0 b0) := bwk_64 an a0 b0 (by omega) (by omega)
  go_enter Try.func108, Try.ntmps108
  go_wp2
  go_loop [1, 2, 7, 8, 9] (fun sa sb sn sp si => ∃ k n p x y : Nat, k ≤ 64 ∧ BitsAt an a0 b0 k n p x y ∧ sa = .int .u64 x ∧ sb = .int .u64 y ∧ sn = .int .u64 n ∧ sp = .int .u64 p ∧ si = .int .i64 k)
    (fun _ _ _ _ i => 64 - (intOf i).toNat)
  case atStart => exact ⟨0, 0, 1, a0, b0, by omega, bitsAt_0 an a0 b0, rfl, rfl, rfl, rfl, rfl⟩
  case round =>
    obtain ⟨k, n, p, x, y, hk, HB, rfl, rfl, rfl, rfl, rfl⟩ := hrel
    by_cases hlt : k < 64
    · have bd := bitsAt_bounds HB hlt
      have hs := Lib.hid (bitsAt_succ HB hlt)
      obtain ⟨bd1, bd2, bd3, bd4⟩ := bd
      have hp2 : IntKind.u64.wrap ((p : Int) + p) = (((p + p) % 18446744073709551616 : Nat) : Int) := by rw [IntKind.wrap_u64]; omega
      clear HB fin
      cases an
      · go_wp2
        · go_round
          case rel => exact (bits_rel hlt hs.out).1 (bw1_xt ‹_›)
          case measure => simp [intOf]; omega
        · go_round
          case rel => exact (bits_rel hlt hs.out).2 (bw1_xf ‹_›)
          case measure => simp [intOf]; omega
      · go_wp2
        · go_round
          case rel => exact (bits_rel hlt hs.out).1 (bw1_at ‹_›)
          case measure => simp [intOf]; omega
        · go_round
          case rel => exact (bits_rel hlt hs.out).2 (bw1_af ‹_›)
          case measure => simp [intOf]; omega
    · obtain rfl : k = 64 := by omega
      have e : Hid (n = bw an a0 b0) := HB.1.trans fin.out
      clear HB fin
      go_wp2
      go_ret
      exact ⟨ret_int (by rw [e.out]), rfl⟩

theorem refWide_any (op a b : Int) (h0 : 0 ≤ a) (h1 : a ≤ 18446744073709551615) (g0 : 0 ≤ b) (g1 : b ≤ 18446744073709551615) (w : World) :
    Calls Try.prog 82 #[.int .i64 op, .int .u64 a, .int .u64 b] w fun e w' => e = .returned (.int .u64 (wideOp op a b)) ∧ w = w' := by
  go_enter Try.func82, Try.ntmps82
  go_wp2_with (go_at_call 108; refine (bits_any _ _ _ h0 h1 g0 g1 _).mono ?_; rintro e w' ⟨rfl, rfl⟩)
  all_goals go_ret
  all_goals refine ⟨ret_int ?_, rfl⟩
  all_goals unfold wideOp
  · rw [opM_1 ‹_›, IntKind.wrap_u64]
  · rw [opM_2 ‹_›, IntKind.wrap_u64]
  · rw [opM_3 ‹_›, IntKind.wrap_u64]
  · rw [opM_4 ‹_›]
  · rw [opM_5 ‹_›]
  · rw [opM_6 ‹_›, if_pos ‹_›]
  · rw [opM_6 ‹_›, if_neg (by omega)]
  · rw [opM_0 ‹_› ‹_› ‹_› ‹_› ‹_› ‹_›]

theorem refNarrow_any (op a b : Int) (h0 : 0 ≤ a) (h1 : a ≤ 4294967295) (g0 : 0 ≤ b) (g1 : b ≤ 4294967295) (w : World) :
    Calls Try.prog 83 #[.int .i64 op, .int .u32 a, .int .u32 b] w fun e w' => e = .returned (.int .u32 (narrowOp op a b)) ∧ w = w' := by
  have hn := narrow_of_wide op a b (by omega) (by omega)
  have hr := wideOp_range op a b (by omega) (by omega)
  have HN := Lib.hid hn; clear hn
  go_enter Try.func83, Try.ntmps83
  go_wp2_with (go_at_call 82; refine (refWide_any _ _ _ (by omega) (by omega) (by omega) (by omega) _).mono ?_; rintro e w' ⟨rfl, rfl⟩)
  all_goals go_ret
  all_goals refine ⟨ret_int ?_, rfl⟩
  exact HN.out

end Go.Proofs.Ytodmkjeankbieab

/- The walks of package run: Wrong, Machine.Do, Machine.Go. -/
namespace Go.Proofs.Ytodmkjeankbieab
open Go.RowKit Go.Sort

/-- what is wrong with a run -/
def wrongV (p : Pg) (n : Nat) (steps : Int) : Int := if mayB p = false then 2 else if 40 < n then 1 else if steps < 0 ∨ 3000 < steps then 3 else 0

set_option maxHeartbeats 1000000 in
set_option maxRecDepth 100000 in
theorem Wrong_any (R : Nat → Prop) (v : Value) (p : Pg) (A : Option Addr) (n c : Nat) (steps : Int) (w : World) (h : RdPg w R v p) (hn : n ≤ 9223372036854775807) :
    Calls Try.prog 39 #[v, .slice A n c, .int .i64 steps] w fun e w' => e = .returned (.int .i64 (wrongV p n steps)) ∧ Fr w w' := by
  have H := Lib.hid h
  obtain ⟨vw, vc, rfl, ⟨A1, c1, rfl, hl, hr⟩, ⟨A', c', rfl, hl', hr', ho'⟩⟩ := h
  clear hr hr' ho' hl hl'
  have HM := Lib.hid (fun w2 (hf : Fr w w2) => May_any R _ p w2 (H.out.kept hf (fun _ _ h => h)))
  have HF0 := Lib.hid (show Fr w (w.alloc (.cells #[.slice A1 p.wide.length c1, .slice A' p.code.length c'] 25)) from (Kept.refl _ w).alloc _)
  go_enter Try.func39, Try.ntmps39
  go_wp2_with fail
  cases hm : mayB p with
  | false =>
    rw [hm] at HM
    have HW : Hid (wrongV p n steps = 2) := by show _ = _; unfold wrongV; rw [if_pos hm]
    clear hm
    refine (HM.out _ HF0.out).mono ?_
    rintro e w2 ⟨rfl, f2⟩
    have HF := Lib.hid (HF0.out.trans f2)
    clear f2
    go_wp2
    go_ret
    exact ⟨ret_i HW.out.symm, HF.out⟩
  | true =>
    rw [hm] at HM
    have HW : Hid (wrongV p n steps = if 40 < n then 1 else if steps < 0 ∨ 3000 < steps then 3 else 0) := by show _ = _; unfold wrongV; rw [if_neg (by rw [hm]; decide)]
    clear hm
    refine (HM.out _ HF0.out).mono ?_
    rintro e w2 ⟨rfl, f2⟩
    have HF := Lib.hid (HF0.out.trans f2)
    clear f2
    go_wp2
    all_goals go_ret
    all_goals refine ⟨ret_i ?_, HF.out⟩
    all_goals rw [HW.out]
    all_goals first
      | (rw [if_pos (by omega)]; done)
      | (rw [if_neg (by omega), if_pos (by omega)]; done)
      | (rw [if_neg (by omega), if_neg (by omega)]; done)

def u32s (l : List Int) : List Value := l.map (Value.int .u32)
/-- block g is a machine that stands at r; what it has told is the row vo, in a block from B on, what comes in in blocks below -/
structure Mc (w : World) (g B : Nat) (r : Sh) (vo : Value) : Prop where
  ow : w.ownsRow B 36 1 vo r.out.length (u32s r.out)
  ex : ∃ A c, Blk w g 85 #[.int .i64 (r.state : Int), vo, .int .i64 (r.steps : Int), .int .i64 (r.pc : Int), .slice A r.ins.length c] ∧
    r.ins.length ≤ c ∧ c ≤ maxLen ∧ Reads w (fun b => b < B) 1 A r.ins.length (u32s r.ins)
def McS (g : Nat) (vo : Value) (k : Nat) : Prop := k = g ∨ vo.ownBlock = some k
theorem Mc.blk {w w' : World} {g B b : Nat} {r : Sh} {vo : Value} {t : TypeId} {cs : Array Value} (h : Mc w g B r vo) (hk : Kept (McS g vo) w w') (hb : Blk w b t cs) (h1 : t ≠ 85) (h2 : 36 ≠ t) : Blk w' b t cs := by
  obtain ⟨A, c, hB, _⟩ := h.ex
  refine hb.kept hk ?_
  rintro (e | e)
  · exact hb.ne_ hB h1 e
  · exact own_blk_ne h.ow hb h2 e
theorem Mc.fr {w0 w w' : World} {g : Nat} {r : Sh} {vo : Value} (h : Mc w g w0.heap.size r vo) (hk : Kept (McS g vo) w w') (hg : w0.heap.size ≤ g) (hf : Fr w0 w) : Fr w0 w' :=
  hf.then hk fun i hi hs => by
    rcases hs with e | e
    · omega
    · have := (own_lt h.ow e).1; omega

theorem slU32 : SlTy Try.prog 26 36 1 4 := SlTy.mk' (z := .int .u32 0) Try.underlying26 (by kernel_rfl) rfl (by decide)

/-- where a slice goes on behind its first element -/
def cutA (b off c : Nat) : Option Addr := some (if c = 1 then ⟨b, off, none⟩ else ⟨b, off + 1, none⟩)
theorem cut_reads {w : World} {R : Nat → Prop} {b off n c : Nat} {x : Value} {xs : List Value} (h : Reads w R 1 (some ⟨b, off, none⟩) (n + 1) (x :: xs)) (hc : n + 1 ≤ c) : Reads w R 1 (cutA b off c) n xs := by
  refine ⟨by have := h.1; simp at this; omega, fun hn => ?_⟩
  obtain ⟨b', off', hA, hR, hcell⟩ := h.2 (by omega)
  simp only [Option.some.injEq, Addr.mk.injEq, and_true] at hA
  obtain ⟨rfl, rfl⟩ := hA
  refine ⟨b, off + 1, by simp [cutA]; omega, hR, fun j u hu => ?_⟩
  have := hcell (j + 1) u (by simpa using hu)
  rw [Nat.add_assoc, Nat.add_comm 1 j]
  exact this

/-- the machine behind the two counts -/
structure McW (w W : World) (g B : Nat) (r : Sh) (vo : Value) (A : Option Addr) (c : Nat) (op d a1 b1 cc : Int) (n : Nat) : Prop where
  blk : Blk W g 85 #[.int .i64 (r.state : Int), vo, .int .i64 ((r.steps + 1 : Nat) : Int), .int .i64 ((r.pc + 1 : Nat) : Int), .slice A r.ins.length c]
  ow : W.ownsRow B 36 1 vo r.out.length (u32s r.out)
  rd : Reads W (fun b => b < B) 1 A r.ins.length (u32s r.ins)
  ib : Blk W w.heap.size 45 #[.int .i64 op, .int .i64 d, .int .i64 a1, .int .i64 b1, .int .i64 cc, .int .u32 n]
  kp : Kept (McS g vo) w W

theorem McW.st {w W : World} {g B c : Nat} {r : Sh} {vo : Value} {A : Option Addr} {op d a1 b1 cc : Int} {n : Nat} (h : McW w W g B r vo A c op d a1 b1 cc n) (hg : B ≤ g) (j : Nat) (u : Value) :
    Blk (W.setCell ⟨g, j, none⟩ u) g 85 (#[Value.int .i64 (r.state : Int), vo, .int .i64 ((r.steps + 1 : Nat) : Int), .int .i64 ((r.pc + 1 : Nat) : Int), .slice A r.ins.length c].setIfInBounds j u) ∧
    (W.setCell ⟨g, j, none⟩ u).ownsRow B 36 1 vo r.out.length (u32s r.out) ∧ Reads (W.setCell ⟨g, j, none⟩ u) (fun b => b < B) 1 A r.ins.length (u32s r.ins) ∧ Kept (McS g vo) w (W.setCell ⟨g, j, none⟩ u) := by
  have hK : Kept (fun k => k = g) W (W.setCell ⟨g, j, none⟩ u) := (Kept.refl (fun k => k = g) W).setCell (p := ⟨g, j, none⟩) (fun _ => rfl) _
  exact ⟨h.blk.set_ j u, own_kept h.ow hK (fun k hk e => own_blk_ne h.ow h.blk (by decide) (e ▸ hk)), h.rd.kept hK (fun k hk e => by omega), h.kp.trans (hK.mono (fun i _ e => Or.inl e))⟩
theorem or_u64 (a b : Int) (ha : 0 ≤ a) (ha' : a < 4294967296) (hb : 0 ≤ b) (hb' : b < 4294967296) : bits .or .u64 (b * 4294967296) a = b * 4294967296 + a := by
  have := bits_join .u64 64 (by decide) (fun n h h' => by rw [IntKind.wrap_u64]; exact Int.emod_eq_of_lt h (by simpa using h')) 32 (x := b * 4294967296) (y := a)
  have h2 : (2 : Int) ^ 32 = 4294967296 := by decide
  have h3 : (2 : Int) ^ 64 = 18446744073709551616 := by decide
  rw [h2, h3] at this
  exact this (by omega) (by omega) (by omega) (by omega) (by omega) (by omega)
theorem and_u64 (a : Int) (ha : 0 ≤ a) (ha' : a < 18446744073709551616) : bits .and .u64 a 4294967295 = a % 4294967296 := by
  rw [(bits_u64 a 4294967295 ha (by omega) (by omega) (by omega)).1]
  have e : (4294967295 : Int).toNat = 2 ^ 32 - 1 := by decide
  unfold bw
  rw [if_pos rfl, e, Nat.and_two_pow_sub_one_eq_mod]
  have e2 : (2 : Nat) ^ 32 = 4294967296 := by decide
  rw [e2]
  omega
theorem raw_plain {r : Sh} {op d a1 b1 cc a : Int} {n : Nat} (h3 : op ≠ 3) (h4 : op ≠ 4) (h8 : op ≠ 8) (h9 : op ≠ 9) (h10 : op ≠ 10) : rawStep r ⟨op, d, a1, b1, cc, n⟩ a = ⟨r.pc + 1, r.ins, r.out, r.steps + 1, r.state⟩ := by
  unfold rawStep pcV
  simp only
  rw [if_neg (by omega), if_neg h3, if_neg h4, if_neg h10]
theorem McW.plain {w W : World} {g B c : Nat} {r : Sh} {vo : Value} {A : Option Addr} {op d a1 b1 cc a : Int} {n : Nat} (h : McW w W g B r vo A c op d a1 b1 cc n) (hl : r.ins.length ≤ c) (hcm : c ≤ maxLen)
    (h3 : op ≠ 3) (h4 : op ≠ 4) (h8 : op ≠ 8) (h9 : op ≠ 9) (h10 : op ≠ 10) : Mc W g B (rawStep r ⟨op, d, a1, b1, cc, n⟩ a) vo := by
  rw [raw_plain h3 h4 h8 h9 h10]
  exact ⟨h.ow, A, c, h.blk, hl, hcm, h.rd⟩

set_option maxHeartbeats 4000000 in
set_option maxRecDepth 100000 in
theorem Do_any (g B : Nat) (r : Sh) (vo : Value) (i : In) (a b : Int) (w : World) (h : Mc w g B r vo) (hg : B ≤ g) (hk : known i.op = true) (hin : i.n < 4294967296) (ha : 0 ≤ a ∧ a < 18446744073709551616) (hb : 0 ≤ b ∧ b < 18446744073709551616)
    (h5 : i.op = 5 → a < 4294967296 ∧ b < 4294967296) (hs : r.steps ≤ 100000) (ho : r.out.length ≤ 100000) (hp : r.pc ≤ 100000) (hc : i.op = 8 ∨ i.op = 9 → 0 ≤ i.c) (hi : ∀ n ∈ r.ins, 0 ≤ n ∧ n < 4294967296) :
    Calls Try.prog 42 #[.pointer (some ⟨g, 0, none⟩), i.val, .int .u64 a, .int .u64 b] w fun e w' => ∃ v, e = .returned (.int .u64 v) ∧ (gvs i.op = true → v = giveV i a b (r.ins.headD 0)) ∧ (∃ vo', Mc w' g B (rawStep r i a) vo') ∧ Kept (McS g vo) w w' := by
  obtain ⟨hO0, A, c, hB0, hl, hcm, hr0⟩ := h
  have q0 := hB0.cell 0
  have q1 := hB0.cell 1
  have q2 := hB0.cell 2
  have q3 := hB0.cell 3
  have q4 := hB0.cell 4
  have y2 := hB0.frozen 2
  have y3 := hB0.frozen 3
  simp only [List.getElem?_toArray, List.getElem?_cons_succ, List.getElem?_cons_zero] at q0 q1 q2 q3 q4
  have z0 := hB0.lt
  obtain ⟨op, d, a1, b1, cc, n⟩ := i
  obtain ⟨pc, ins, out, steps, state⟩ := r
  unfold In.val
  simp only at *
  have hK1 : Kept (fun k => k = g) w (((w.setCell ⟨g, 3, none⟩ (.int .i64 ((pc : Int) + 1))).setCell ⟨g, 2, none⟩ (.int .i64 ((steps : Int) + 1))).alloc (.cells #[.int .i64 op, .int .i64 d, .int .i64 a1, .int .i64 b1, .int .i64 cc, .int .u32 n] 45)) :=
    (((Kept.refl (fun k => k = g) w).setCell (p := ⟨g, 3, none⟩) (fun _ => rfl) _).setCell (p := ⟨g, 2, none⟩) (fun _ => rfl) _).alloc _
  have HW := Lib.hid (show McW w (((w.setCell ⟨g, 3, none⟩ (.int .i64 ((pc : Int) + 1))).setCell ⟨g, 2, none⟩ (.int .i64 ((steps : Int) + 1))).alloc (.cells #[.int .i64 op, .int .i64 d, .int .i64 a1, .int .i64 b1, .int .i64 cc, .int .u32 n] 45)) g B ⟨pc, ins, out, steps, state⟩ vo A c op d a1 b1 cc n from by
    refine ⟨?_, ?_, ?_, ?_, hK1.mono (fun i _ e => Or.inl e)⟩
    · exact (((hB0.set_ 3 (.int .i64 ((pc : Int) + 1))).set_ 2 (.int .i64 ((steps : Int) + 1))).alloc _)
    · exact own_kept hO0 hK1 (fun k hk e => own_blk_ne hO0 hB0 (by decide) (e ▸ hk))
    · exact hr0.kept hK1 (fun k hk e => by omega)
    · have := Blk.new ((w.setCell ⟨g, 3, none⟩ (.int .i64 ((pc : Int) + 1))).setCell ⟨g, 2, none⟩ (.int .i64 ((steps : Int) + 1))) 45 #[.int .i64 op, .int .i64 d, .int .i64 a1, .int .i64 b1, .int .i64 cc, .int .u32 n]
      simpa [World.setCell] using this)
  clear hB0 hO0 hr0 hK1
  have HI := Lib.hid hi
  have HK := Lib.hid hk
  have H5 := Lib.hid h5
  have HC := Lib.hid hc
  clear hi hk h5 hc
  obtain ⟨a0, a1'⟩ := ha
  obtain ⟨b0, b1'⟩ := hb
  go_enter Try.func42, Try.ntmps42
  go_upto_region 3 with (fail)
  clear q0 q1 q2 q3 q4 y2 y3
  generalize ((w.setCell ⟨g, 3, none⟩ (.int .i64 ((pc : Int) + 1))).setCell ⟨g, 2, none⟩ (.int .i64 ((steps : Int) + 1))).alloc (.cells #[.int .i64 op, .int .i64 d, .int .i64 a1, .int .i64 b1, .int .i64 cc, .int .u32 n] 45) = W at *
  have e0 := HW.out.ib.cell 0
  have e4 := HW.out.ib.cell 4
  have e5 := HW.out.ib.cell 5
  have q0 := HW.out.blk.cell 0
  have q1 := HW.out.blk.cell 1
  have q3 := HW.out.blk.cell 3
  have q4 := HW.out.blk.cell 4
  have y0 := HW.out.blk.frozen 0
  have y1 := HW.out.blk.frozen 1
  have y3 := HW.out.blk.frozen 3
  have y4 := HW.out.blk.frozen 4
  simp only [List.getElem?_toArray, List.getElem?_cons_succ, List.getElem?_cons_zero] at e0 e4 e5 q0 q1 q3 q4
  have z1 := HW.out.blk.lt
  have z2 := HW.out.ib.lt
  rcases known_cases HK.out with h | h | h | h | h | h | h | h | h | h | ⟨h1, h2⟩ | ⟨h1, h2⟩
  · subst h
    go_wp2
    go_ret
    refine ⟨_, rfl, fun _ => ?_, ⟨vo, HW.out.plain hl hcm (by decide) (by decide) (by decide) (by decide) (by decide)⟩, HW.out.kp⟩
    rfl
  · subst h
    go_wp2
    go_ret
    refine ⟨_, rfl, fun _ => ?_, ⟨vo, HW.out.plain hl hcm (by decide) (by decide) (by decide) (by decide) (by decide)⟩, HW.out.kp⟩
    rfl
  · subst h
    cases ins with
    | nil =>
      go_wp2
      go_ret
      refine ⟨_, rfl, fun _ => rfl, ⟨vo, ⟨HW.out.ow, A, c, HW.out.blk, hl, hcm, HW.out.rd⟩⟩, HW.out.kp⟩
    | cons x rest =>
      obtain ⟨b3, o3, rfl, hR3, hcell⟩ := HW.out.rd.2 (by simp)
      have s0 := hcell 0 (.int .u32 x) rfl
      rw [Nat.add_zero] at s0
      have hb3 := cell_lt s0
      have hx := HI.out x (by simp)
      obtain ⟨x0, x1⟩ := hx
      have hcut := Lib.hid (cut_reads HW.out.rd hl)
      simp only [List.length_cons] at *
      have hsl : ∀ w', (Instr.slice 26 (.slice (some ⟨b3, o3, none⟩) (rest.length + 1) c) (some (.int .i64 1)) none none).run Try.prog w' = .ok (.slice (cutA b3 o3 c) rest.length (c - 1)) w' := by
        intro w'
        unfold maxLen at hcm
        go_simp
        rw [if_pos (by omega)]
        unfold cutA
        by_cases hc1 : c = 1
        · rw [if_pos hc1, if_pos hc1]
        · rw [if_neg hc1, if_neg hc1]
      clear hcell
      go_wp2
      go_ret
      obtain ⟨s1, s2, s3, s4⟩ := HW.out.st hg 4 (.slice (cutA b3 o3 c) rest.length (c - 1))
      refine ⟨_, rfl, fun _ => rfl, ⟨vo, ⟨s2, cutA b3 o3 c, c - 1, s1, by show rest.length ≤ c - 1; omega, by omega, hcut.out.kept ((Kept.refl (fun k => k = g) W).setCell (p := ⟨g, 4, none⟩) (fun _ => rfl) _) (fun k hk e => by omega)⟩⟩, s4⟩
  · subst h
    have hne := own_blk_ne HW.out.ow HW.out.blk (by decide)
    go_wp2_with (at_builtin
                 refine wpList_app (base := B) _ rfl slU32 (.tmp 72) (.tmp 75) rfl vo _ _ rfl (World.ownsRow.alloc HW.out.ow _) (fun _ => True) _ 1 1 _ rfl (Reads.lit' (by simp) trivial rfl) ?_ ?_ ?_ ?_ ?_
                 · simp [Value.oneCell']
                 · simp only; omega
                 · unfold maxLen; simp only; omega
                 · simp; omega
                 intro v9 w9 hown9 hk9 hat9
                 obtain ⟨A9, c9, rfl, _, _⟩ := own_reads hown9
                 have hb9 := (HW.out.blk.alloc _).kept hk9 hne
                 have p1 := hb9.cell 1
                 have x1 := hb9.frozen 1
                 simp only [List.getElem?_toArray, List.getElem?_cons_succ, List.getElem?_cons_zero] at p1
                 have z9 := hb9.lt)
    have hK : Kept (fun k => k = g) w9 (w9.setCell ⟨g, 1, none⟩ (.slice A9 (out.length + 1) c9)) := (Kept.refl (fun k => k = g) w9).setCell (p := ⟨g, 1, none⟩) (fun _ => rfl) _
    have hx : u32s out ++ [Value.int .u32 (a % 4294967296)] = u32s (out ++ [a % 4294967296]) := by simp [u32s]
    go_ret
    refine ⟨_, rfl, fun h => by simp [gvs] at h, ⟨.slice A9 (out.length + 1) c9, ⟨?_, A, c, ?_, hl, hcm, ?_⟩⟩, ?_⟩
    · have := own_kept hown9 hK (fun k hk e => own_blk_ne hown9 hb9 (by decide) (e ▸ hk))
      rw [hx] at this
      simpa [rawStep] using this
    · have := hb9.set_ 1 (.slice A9 (out.length + 1) c9)
      simpa [rawStep, pcV] using this
    · have h2 := HW.out.rd.kept (((Kept.refl (fun k => vo.ownBlock = some k) W).alloc _).trans hk9) (fun k hk e => by have := (own_lt HW.out.ow e).1; omega)
      exact h2.kept hK (fun k hk e => by omega)
    · exact ((HW.out.kp.alloc _).trans (hk9.mono (fun i _ e => Or.inr e))).trans (hK.mono (fun i _ e => Or.inl e))
  · subst h
    obtain ⟨g1, g2⟩ := H5.out rfl
    go_wp2
    go_ret
    refine ⟨_, rfl, fun _ => ?_, ⟨vo, HW.out.plain hl hcm (by decide) (by decide) (by decide) (by decide) (by decide)⟩, HW.out.kp⟩
    exact or_u64 a b a0 g1 b0 g2
  · subst h
    go_wp2
    go_ret
    refine ⟨_, rfl, fun _ => ?_, ⟨vo, HW.out.plain hl hcm (by decide) (by decide) (by decide) (by decide) (by decide)⟩, HW.out.kp⟩
    exact and_u64 a a0 a1'
  · subst h
    go_wp2
    go_ret
    refine ⟨_, rfl, fun _ => ?_, ⟨vo, HW.out.plain hl hcm (by decide) (by decide) (by decide) (by decide) (by decide)⟩, HW.out.kp⟩
    rfl
  · subst h
    have hcc := HC.out (Or.inl rfl)
    obtain ⟨cn, rfl⟩ : ∃ cn : Nat, cc = (cn : Int) := ⟨cc.toNat, by omega⟩
    go_wp2
    go_ret
    obtain ⟨s1, s2, s3, s4⟩ := HW.out.st hg 3 (.int .i64 (cn : Int))
    refine ⟨_, rfl, fun h => by simp [gvs] at h, ⟨vo, ⟨s2, A, c, ?_, hl, hcm, s3⟩⟩, s4⟩
    simpa [rawStep, pcV] using s1
  · subst h
    have hcc := HC.out (Or.inr rfl)
    by_cases ha0 : a = 0
    · subst ha0
      go_wp2
      go_ret
      refine ⟨_, rfl, fun h => by simp [gvs] at h, ⟨vo, ⟨HW.out.ow, A, c, HW.out.blk, hl, hcm, HW.out.rd⟩⟩, HW.out.kp⟩
    · have hne : (a != 0) = true := by simpa using ha0
      have HA0 := Lib.hid ha0
      clear ha0
      obtain ⟨cn, rfl⟩ : ∃ cn : Nat, cc = (cn : Int) := ⟨cc.toNat, by omega⟩
      go_wp2
      go_ret
      obtain ⟨s1, s2, s3, s4⟩ := HW.out.st hg 3 (.int .i64 (cn : Int))
      refine ⟨_, rfl, fun h => by simp [gvs] at h, ⟨vo, ⟨s2, A, c, ?_, hl, hcm, s3⟩⟩, s4⟩
      simpa [rawStep, pcV, HA0.out] using s1
  · subst h
    go_wp2
    go_ret
    obtain ⟨s1, s2, s3, s4⟩ := HW.out.st hg 0 (.int .i64 1)
    refine ⟨_, rfl, fun h => by simp [gvs] at h, ⟨vo, ⟨s2, A, c, ?_, hl, hcm, s3⟩⟩, s4⟩
    simpa [rawStep, pcV] using s1
  · have e : ∀ k : Int, k ≤ 20 → (op == k) = false := fun k hk => by rw [beq_eq_false_iff_ne]; omega
    have e1 := e 1 (by omega)
    have e2 := e 2 (by omega)
    have e3 := e 3 (by omega)
    have e4' := e 4 (by omega)
    have e5' := e 5 (by omega)
    have e6 := e 6 (by omega)
    have e7 := e 7 (by omega)
    have e8 := e 8 (by omega)
    have e9 := e 9 (by omega)
    have e10 := e 10 (by omega)
    clear e
    have HNr := Lib.hid (fun w => Narrow_any (op - 20) (a % 4294967296) (b % 4294967296) (by omega) (by omega) (by omega) (by omega) w)
    go_wp2_with (go_at_call 80; refine (HNr.out _).mono ?_; rintro e w' ⟨rfl, rfl⟩)
    go_ret
    refine ⟨_, rfl, fun _ => ?_, ⟨vo, HW.out.plain hl hcm (by omega) (by omega) (by omega) (by omega) (by omega)⟩, HW.out.kp⟩
    have hnr := narrowOp_range (op - 20) (a % 4294967296) (b % 4294967296) (by omega) (by omega)
    rw [IntKind.wrap_u64, Int.emod_eq_of_lt (by omega) (by omega)]
    unfold giveV
    simp only
    rw [if_neg (by omega), if_neg (by omega), if_neg (by omega), if_neg (by omega), if_neg (by omega), if_neg (by omega), if_neg (by omega)]
  · have e : ∀ k : Int, k ≤ 40 → (op == k) = false := fun k hk => by rw [beq_eq_false_iff_ne]; omega
    have e1 := e 1 (by omega)
    have e2 := e 2 (by omega)
    have e3 := e 3 (by omega)
    have e4' := e 4 (by omega)
    have e5' := e 5 (by omega)
    have e6 := e 6 (by omega)
    have e7 := e 7 (by omega)
    have e8 := e 8 (by omega)
    have e9 := e 9 (by omega)
    have e10 := e 10 (by omega)
    clear e
    have HNr := Lib.hid (fun w => Wide_any (op - 40) a b (by omega) (by omega) (by omega) (by omega) w)
    go_wp2_with (go_at_call 79; refine (HNr.out _).mono ?_; rintro e w' ⟨rfl, rfl⟩)
    go_ret
    refine ⟨_, rfl, fun _ => ?_, ⟨vo, HW.out.plain hl hcm (by omega) (by omega) (by omega) (by omega) (by omega)⟩, HW.out.kp⟩
    unfold giveV
    simp only
    rw [if_neg (by omega), if_neg (by omega), if_neg (by omega), if_neg (by omega), if_neg (by omega), if_neg (by omega), if_pos h1]
end Go.Proofs.Ytodmkjeankbieab

/- The walk of the closure of run.Run: one instruction, of temporaries. -/
namespace Go.Proofs.Ytodmkjeankbieab
open Go.RowKit Go.Sort

/-- the cells of n temporaries -/
def mkU (n : Nat) (f : Int → Int) : Array Value := ((List.range n).map fun (t : Nat) => Value.int .u64 (f (t : Int))).toArray
theorem mkU_at {n : Nat} {f : Int → Int} {t : Nat} (h : t < n) : (mkU n f)[t]? = some (.int .u64 (f t)) := by
  unfold mkU
  simp [List.getElem?_range h]
theorem mkU_set {n : Nat} {f : Int → Int} {t : Nat} {x : Int} : (mkU n f).setIfInBounds t (.int .u64 x) = mkU n (upd f t x) := by
  unfold mkU upd
  rw [List.setIfInBounds_toArray]
  congr 1
  apply List.ext_getElem
  · simp
  · intro i h1 h2
    simp at h1
    rw [List.getElem_set]
    by_cases h : t = i
    · subst h; simp
    · rw [if_neg h]
      simp
      intro e; exact absurd (by omega) h
theorem Blk.ucell {w : World} {g : Nat} {e : TypeId} {n : Nat} {f : Int → Int} (h : Blk w g e (mkU n f)) {t : Nat} (ht : t < n) : w.cell? ⟨g, t, none⟩ = some (.int .u64 (f t)) := by
  rw [h.cell, mkU_at ht]
theorem Blk.uset {w : World} {g : Nat} {e : TypeId} {n : Nat} {f : Int → Int} (h : Blk w g e (mkU n f)) (t : Nat) (x : Int) : Blk (w.setCell ⟨g, t, none⟩ (.int .u64 x)) g e (mkU n (upd f t x)) := by
  have := h.set_ t (.int .u64 x)
  rwa [mkU_set] at this

/-- what the closure captures: the program's variable, the machine's, the temporaries' -/
structure Clo (w : World) (bp bm bt g B : Nat) (p : Pg) (A1 : Option Addr) (c1 : Nat) (A : Option Addr) (c : Nat) (T : Int → Int) : Prop where
  pb : Blk w bp 25 #[.slice A1 p.wide.length c1, .slice A p.code.length c]
  mb : Blk w bm 83 #[.pointer (some ⟨g, 0, none⟩)]
  tb : Blk w bt 82 (mkU 12 T)
  rd : Reads w (fun b => b < B) 6 A p.code.length (p.code.flatMap In.cells)

theorem Clo.keep {w w' : World} {bp bm bt g B : Nat} {p : Pg} {A1 A : Option Addr} {c1 c : Nat} {T : Int → Int} {r : Sh} {vo : Value} (h : Clo w bp bm bt g B p A1 c1 A c T) (hm : Mc w g B r vo) (hg : B ≤ g)
    (hk : Kept (McS g vo) w w') : Clo w' bp bm bt g B p A1 c1 A c T :=
  ⟨hm.blk hk h.pb (by decide) (by decide), hm.blk hk h.mb (by decide) (by decide), hm.blk hk h.tb (by decide) (by decide), h.rd.kept hk (fun b hb e => by
    rcases e with e | e
    · omega
    · have := (own_lt hm.ow e).1; omega)⟩
theorem Mc.kept {w w' : World} {S : Nat → Prop} {g B : Nat} {r : Sh} {vo : Value} (h : Mc w g B r vo) (hk : Kept S w w') (hg : ¬ S g) (ho : ∀ k, vo.ownBlock = some k → ¬ S k) (hB : ∀ b, b < B → ¬ S b) : Mc w' g B r vo := by
  obtain ⟨how, A, c, hb, h1, h2, hr⟩ := h
  exact ⟨own_kept how hk ho, A, c, hb.kept hk hg, h1, h2, hr.kept hk hB⟩
theorem Mc.fr_ {w w' : World} {g B : Nat} {r : Sh} {vo : Value} (h : Mc w g B r vo) (hk : Fr w w') : Mc w' g B r vo := h.kept hk (fun h => h) (fun _ _ h => h) (fun _ _ h => h)
theorem Clo.fr_ {w w' : World} {bp bm bt g B : Nat} {p : Pg} {A1 A : Option Addr} {c1 c : Nat} {T : Int → Int} (h : Clo w bp bm bt g B p A1 c1 A c T) (hk : Fr w w') : Clo w' bp bm bt g B p A1 c1 A c T :=
  ⟨h.pb.kept hk (fun h => h), h.mb.kept hk (fun h => h), h.tb.kept hk (fun h => h), h.rd.kept hk (fun _ _ h => h)⟩

def RunS (bt g : Nat) (vo : Value) (k : Nat) : Prop := k = bt ∨ McS g vo k

set_option maxHeartbeats 4000000 in
set_option maxRecDepth 100000 in
theorem Run1_any (bp bm bt g B : Nat) (p : Pg) (A1 : Option Addr) (c1 : Nat) (A : Option Addr) (c : Nat) (T : Int → Int) (r : Sh) (vo : Value) (w : World) (hC : Clo w bp bm bt g B p A1 c1 A c T) (hM : Mc w g B r vo) (hg : B ≤ g) (hbt : B ≤ bt)
    (hm : mayB p = true) (hn : (inAt p.code r.pc).n < 4294967296) (hpc : r.pc < p.code.length) (hT : ∀ t, 0 ≤ T t ∧ T t < 18446744073709551616) (hw : ∀ t, wd p.wide t = false → T t < 4294967296)
    (hs : r.steps ≤ 100000) (ho : r.out.length ≤ 100000) (hi : ∀ n ∈ r.ins, 0 ≤ n ∧ n < 4294967296) :
    Calls Try.prog 41 #[.int .i64 (r.pc : Int), .pointer (some ⟨bp, 0, none⟩), .pointer (some ⟨bm, 0, none⟩), .pointer (some ⟨bt, 0, none⟩)] w fun e w' => e = .returned (.tuple #[]) ∧
      (∃ vo', Mc w' g B (rawStep r (inAt p.code r.pc) (T (inAt p.code r.pc).a)) vo') ∧
      Clo w' bp bm bt g B p A1 c1 A c (if gvs (inAt p.code r.pc).op then upd T (inAt p.code r.pc).d (giveV (inAt p.code r.pc) (T (inAt p.code r.pc).a) (T (inAt p.code r.pc).b) (r.ins.headD 0)) else T) ∧ Kept (RunS bt g vo) w w' := by
  have hl := mayB_len hm
  have hI := mayB_ins hm (inAt_mem hpc)
  obtain ⟨⟨ha0, ha1⟩, ⟨hb0, hb1⟩, ⟨hd0, hd1⟩, hc0⟩ := ins_fields hI hl.1
  have hok := insOk hI
  have hx : p.code[r.pc]? = some (inAt p.code r.pc) := by rw [inAt_get hpc]; exact List.getElem?_eq_getElem hpc
  obtain ⟨b, off, rfl, hbB, d0, d1, d2, d3, d4, d5⟩ := hC.rd.ins hx
  have h5 : (inAt p.code r.pc).op = 5 → T (inAt p.code r.pc).a < 4294967296 ∧ T (inAt p.code r.pc).b < 4294967296 := fun h => ⟨hw _ (hok.w5 h).2.1, hw _ (hok.w5 h).2.2⟩
  have hk := hok.kn
  have hTa := hT (inAt p.code r.pc).a
  have hTb := hT (inAt p.code r.pc).b
  clear hI hok hx hw hT hm
  generalize inAt p.code r.pc = i at *
  obtain ⟨op, d, a, b1, cc, n⟩ := i
  simp only at *
  obtain ⟨an, rfl⟩ : ∃ an : Nat, a = (an : Int) := ⟨a.toNat, by omega⟩
  obtain ⟨bn, rfl⟩ : ∃ bn : Nat, b1 = (bn : Int) := ⟨b1.toNat, by omega⟩
  obtain ⟨dn, rfl⟩ : ∃ dn : Nat, d = (dn : Int) := ⟨d.toNat, by omega⟩
  have p0 := hC.pb.cell 1
  have m0 := hC.mb.cell 0
  simp only [List.getElem?_toArray, List.getElem?_cons_succ, List.getElem?_cons_zero] at p0 m0
  have ta := hC.tb.ucell (t := an) (by omega)
  have tb := hC.tb.ucell (t := bn) (by omega)
  have zb := cell_lt d0
  have zm := hC.mb.lt
  have zt := hC.tb.lt
  have zp := hC.pb.lt
  have hp0 : (0 : Int) ≤ (r.pc : Int) := Int.natCast_nonneg _
  have hp1 : (r.pc : Int) < (p.code.length : Int) := by omega
  have HC := Lib.hid hC
  have HM := Lib.hid hM
  have H5 := Lib.hid h5
  have HK := Lib.hid hk
  have HI := Lib.hid hi
  clear hC hM h5 hk hi
  have HD := Lib.hid (fun w (hm : Mc w g B r vo) => Do_any g B r vo ⟨op, dn, an, bn, cc, n⟩ (T an) (T bn) w hm hg HK.out hn hTa hTb H5.out hs ho (by omega) (fun _ => hc0) HI.out)
  have HG := Lib.hid (fun w => Gives_any ⟨op, dn, an, bn, cc, n⟩ w HK.out)
  unfold In.val at HD HG
  simp only at HD HG
  obtain ⟨pc, ins, out, steps, state⟩ := r
  simp only at *
  generalize hT' : (if gvs op = true then upd T (dn : Int) (giveV ⟨op, (dn : Int), (an : Int), (bn : Int), cc, n⟩ (T (an : Int)) (T (bn : Int)) (ins.headD 0)) else T) = T'
  have HT := Lib.hid hT'
  clear hT'
  go_enter Try.func41, Try.ntmps41
  go_wp2
  have HB := Lib.hid (Blk.new w 45 #[.int .i64 op, .int .i64 dn, .int .i64 an, .int .i64 bn, .int .i64 cc, .int .u32 n])
  have HF : Hid (Fr w (w.alloc (.cells #[.int .i64 op, .int .i64 dn, .int .i64 an, .int .i64 bn, .int .i64 cc, .int .u32 n] 45))) := (Kept.refl _ w).alloc _
  generalize w.alloc (.cells #[.int .i64 op, .int .i64 dn, .int .i64 an, .int .i64 bn, .int .i64 cc, .int .u32 n] 45) = W at *
  have HC1 := Lib.hid (HC.out.fr_ HF.out)
  have HM1 := Lib.hid (HM.out.fr_ HF.out)
  clear d0 d1 d2 d3 d4 d5 p0 m0 ta tb zb zm zt zp
  have m0 := HC1.out.mb.cell 0
  have e0 := HB.out.cell 0
  have e1 := HB.out.cell 1
  have e2 := HB.out.cell 2
  have e3 := HB.out.cell 3
  have e4 := HB.out.cell 4
  have e5 := HB.out.cell 5
  simp only [List.getElem?_toArray, List.getElem?_cons_succ, List.getElem?_cons_zero] at m0 e0 e1 e2 e3 e4 e5
  have ta := HC1.out.tb.ucell (t := an) (by omega)
  have tb := HC1.out.tb.ucell (t := bn) (by omega)
  have zt := HC1.out.tb.lt
  have hTi1 : (an : Int) < 12 := by omega
  have hTi2 : (bn : Int) < 12 := by omega
  go_region_held3 (fun w' => w'.cell? ⟨bm, 0, none⟩ = some (.pointer (some ⟨g, 0, none⟩)) ∧ w'.cell? ⟨w.heap.size, 0, none⟩ = some (.int .i64 op) ∧ w'.cell? ⟨w.heap.size, 1, none⟩ = some (.int .i64 dn) ∧ w'.cell? ⟨w.heap.size, 2, none⟩ = some (.int .i64 an) ∧
      w'.cell? ⟨w.heap.size, 3, none⟩ = some (.int .i64 bn) ∧ w'.cell? ⟨w.heap.size, 4, none⟩ = some (.int .i64 cc) ∧ w'.cell? ⟨w.heap.size, 5, none⟩ = some (.int .u32 n) ∧
      w'.cell? ⟨bt, an, none⟩ = some (.int .u64 (T an)) ∧ w'.cell? ⟨bt, bn, none⟩ = some (.int .u64 (T bn)))
    (first
      | go_keep
      | (go_split_ands
         have hC3 := HC1.out.keep HM1.out hg (((Kept.refl (McS g vo) W).drew).trans hk3)
         have hB3 := HM1.out.blk (((Kept.refl (McS g vo) W).drew).trans hk3) HB.out (by decide) (by decide)
         refine ⟨?_, ?_, ?_, ?_, ?_, ?_, ?_, ?_, ?_⟩
         · exact hC3.mb.cell 0
         · exact hB3.cell 0
         · exact hB3.cell 1
         · exact hB3.cell 2
         · exact hB3.cell 3
         · exact hB3.cell 4
         · exact hB3.cell 5
         · exact hC3.tb.ucell (t := an) (by omega)
         · exact hC3.tb.ucell (t := bn) (by omega)))
    (first
      | (go_at_call 42; refine (HD.out _ (HM1.out.fr_ ((Kept.refl _ W).drew))).mono ?_; rintro e w3 ⟨v, rfl, hv, ⟨vo3, hm3⟩, hk3⟩))
  rename_i hHeld
  obtain ⟨-, e0, e1, e2, e3, e4, e5, -, -⟩ := hHeld
  have hk3' : Kept (McS g vo) W w3 := ((Kept.refl (McS g vo) W).drew).trans hk3
  have HC3 := Lib.hid (HC1.out.keep HM1.out hg hk3')
  have HB3 := Lib.hid (HM1.out.blk hk3' HB.out (by decide) (by decide))
  have HM3 := Lib.hid hm3
  have HV := Lib.hid hv
  have HK3 : Hid (Kept (RunS bt g vo) w w3) := (HF.out.mono (fun i _ h => h.elim)).trans (hk3'.mono (fun i _ h => Or.inr h))
  clear hm3 hv hk3 hk3' HD HM HM1 HC HC1 HB HF m0 ta tb zt
  cases hgv : gvs op with
  | false =>
    have h' := HT.out
    rw [if_neg (by rw [hgv]; decide)] at h'
    subst h'
    rw [hgv] at HG
    clear hgv HV HT
    go_wp2_with (go_at_call 43; refine (HG.out _).mono ?_; rintro e w4 ⟨rfl, f4⟩)
    go_end0
    exact ⟨rfl, ⟨vo3, HM3.out.fr_ f4⟩, HC3.out.fr_ f4, HK3.out.trans (f4.mono (fun i _ h => h.elim))⟩
  | true =>
    have h' := HT.out
    rw [if_pos hgv, ← HV.out hgv] at h'
    have HT2 := Lib.hid h'
    rw [hgv] at HG
    clear hgv HV HT h'
    have z0 := HB3.out.lt
    have zt := HC3.out.tb.lt
    go_wp2_with (go_at_call 43; refine (HG.out _).mono ?_; rintro e w4 ⟨rfl, f4⟩; have g1 := (f4.cell z0).trans e1; have hC4 := HC3.out.fr_ f4; have t4 := hC4.tb.ucell (t := dn) (by omega); have t5 := hC4.tb.frozen dn; have z4 := hC4.tb.lt)
    have hKs : Kept (fun k => k = bt) w4 (w4.setCell ⟨bt, dn, none⟩ (.int .u64 v)) := (Kept.refl (fun k => k = bt) w4).setCell (p := ⟨bt, dn, none⟩) (fun _ => rfl) _
    have hM4 := HM3.out.fr_ f4
    obtain ⟨how, Am, cm, hbm, _⟩ := id hM4
    go_end0
    refine ⟨rfl, ⟨vo3, hM4.kept hKs (fun e => hbm.ne_ hC4.tb (by decide) e) (fun k hk e => own_blk_ne how hC4.tb (by decide) (e ▸ hk)) (fun b hb e => by omega)⟩, ?_, ?_⟩
    · rw [← HT2.out]
      exact ⟨hC4.pb.kept hKs (hC4.pb.ne_ hC4.tb (by decide)), hC4.mb.kept hKs (hC4.mb.ne_ hC4.tb (by decide)), hC4.tb.uset dn v, hC4.rd.kept hKs (fun b hb e => by omega)⟩
    · exact (HK3.out.trans (f4.mono (fun i _ h => h.elim))).trans (hKs.mono fun i _ e => Or.inl e)
end Go.Proofs.Ytodmkjeankbieab

/- The walks of done's store: get, put. -/
namespace Go.Proofs.Ytodmkjeankbieab
open Go.RowKit Go.Sort

set_option maxHeartbeats 1000000 in
set_option maxRecDepth 100000 in
theorem dGet_any (bs : Nat) (s : Sto) (a : PlaceV) (w : World) (h : Blk w bs 104 (stC s)) (hs : StOk s) (ha : Has a) :
    Calls Try.prog 57 #[.pointer (some ⟨bs, 0, none⟩), a.val] w fun e w' => e = .returned (.int .u64 (getS s a)) ∧ Fr w w' := by
  obtain ⟨h1, h2, h3⟩ := ha
  obtain ⟨k, n⟩ := a
  simp only at h1 h2 h3
  unfold PlaceV.val
  simp only
  have zb := h.lt
  have F0 := Lib.hid (show Fr w (w.alloc (.cells #[.int .i64 k, .int .i64 n] 57)) from (Kept.refl _ w).alloc _)
  by_cases e1 : k = 1
  · subst e1
    have hn := h1 rfl
    obtain ⟨m, rfl⟩ : ∃ m : Nat, n = (m : Int) := ⟨n.toNat, by omega⟩
    have c0 := (h.cell m).trans (stC_sg (by omega))
    have r0 := hs.sg m
    have hg : Hid (getS s ⟨1, m⟩ = s.sg m) := rfl
    clear h1 h2 h3 h hs
    generalize s.sg m = x at *
    go_enter Try.func57, Try.ntmps57
    go_wp2
    go_quiet (fail)
    go_wp2
    go_ret
    refine ⟨?_, F0.out.drewN nq⟩
    rw [hg.out]; rfl
  · by_cases e2 : k = 2
    · subst e2
      have hn := h2 rfl
      obtain ⟨m, rfl⟩ : ∃ m : Nat, n = (m : Int) := ⟨n.toNat, by omega⟩
      have c0 := (h.cell (2 * m)).trans (stC_sg (by omega))
      have c1 := (h.cell (2 * m + 1)).trans (stC_sg (by omega))
      have r0 := hs.sg (2 * m)
      have r1 := hs.sg (2 * m + 1)
      have hg : Hid (getS s ⟨2, m⟩ = s.sg (2 * m + 1) * 4294967296 + s.sg (2 * m)) := rfl
      rw [show ((2 * m : Nat) : Int) = 2 * (m : Int) by omega] at c0
      rw [show ((2 * m + 1 : Nat) : Int) = 2 * (m : Int) + 1 by omega] at c1
      clear h1 h2 h3 h hs
      generalize s.sg (2 * m + 1) = y at *
      generalize s.sg (2 * m) = x at *
      have hor := or_u64 x y r0.1 r0.2 r1.1 r1.2
      go_enter Try.func57, Try.ntmps57
      go_wp2
      go_quiet (fail)
      go_wp2
      go_ret
      refine ⟨?_, F0.out.drewN nq⟩
      rw [hg.out]; rfl
    · by_cases e3 : k = 3
      · subst e3
        have hn := h3 rfl
        obtain ⟨m, rfl⟩ : ∃ m : Nat, n = (m : Int) := ⟨n.toNat, by omega⟩
        have c0 := (h.cell (16 + m)).trans (stC_sl (by omega))
        have r0 := hs.sl m
        have hg : Hid (getS s ⟨3, m⟩ = s.sl m) := rfl
        clear h1 h2 h3 h hs
        generalize s.sl m = x at *
        go_enter Try.func57, Try.ntmps57
        go_wp2
        go_quiet (fail)
        go_wp2
        go_ret
        refine ⟨?_, F0.out.drewN nq⟩
        rw [hg.out]; rfl
      · have hg : Hid (getS s ⟨k, n⟩ = 0) := by show _ = _; unfold getS; rw [if_neg e1, if_neg e2, if_neg e3]
        have e1' : (k == 1) = false := by simpa using e1
        have e2' : (k == 2) = false := by simpa using e2
        have e3' : (k == 3) = false := by simpa using e3
        clear h1 h2 h3 h hs
        go_enter Try.func57, Try.ntmps57
        go_wp2
        go_ret
        refine ⟨?_, F0.out⟩
        rw [hg.out]; rfl

set_option maxHeartbeats 1000000 in
set_option maxRecDepth 100000 in
theorem dPut_any (bs : Nat) (s : Sto) (a : PlaceV) (v : Int) (w : World) (h : Blk w bs 104 (stC s)) (ha : Has a) (hv : 0 ≤ v ∧ v < 18446744073709551616) :
    Calls Try.prog 58 #[.pointer (some ⟨bs, 0, none⟩), a.val, .int .u64 v] w fun e w' => e = .returned (.tuple #[]) ∧ Blk w' bs 104 (stC (putS s a v)) ∧ Kept (fun b => b = bs) w w' := by
  obtain ⟨h1, h2, h3⟩ := ha
  obtain ⟨k, n⟩ := a
  simp only at h1 h2 h3
  unfold PlaceV.val
  simp only
  have zb := h.lt
  have F0 := Lib.hid (show Kept (fun b => b = bs) w (w.alloc (.cells #[.int .i64 k, .int .i64 n] 57)) from (Kept.refl _ w).alloc _)
  have HB := Lib.hid h
  have HK := Lib.hid (fun p x (hp : p.block = bs) => (Kept.refl (fun b => b = bs) w).setCell (p := p) (fun _ => hp) x)
  by_cases e1 : k = 1
  · subst e1
    have hn := h1 rfl
    obtain ⟨m, rfl⟩ : ∃ m : Nat, n = (m : Int) := ⟨n.toNat, by omega⟩
    have c0 := (h.cell m).trans (stC_sg (by omega))
    have y0 := h.frozen m
    have hg : Hid (putS s ⟨1, m⟩ v = { s with sg := upd s.sg m (v % 4294967296) }) := rfl
    have HS := Lib.hid (stC_setg (s := s) (t := m) (by omega) (v % 4294967296))
    clear h1 h2 h3 h
    generalize s.sg m = x at *
    go_enter Try.func58, Try.ntmps58
    go_wp2
    go_region
    go_wp2
    go_end0
    refine ⟨rfl, ?_, ((HK.out ⟨bs, m, none⟩ _ rfl).alloc _).drew⟩
    have := HB.out.set_ m (.int .u32 (v % 4294967296))
    rw [HS.out] at this
    rw [hg.out]; exact this.alloc _
  · by_cases e2 : k = 2
    · subst e2
      have hn := h2 rfl
      obtain ⟨m, rfl⟩ : ∃ m : Nat, n = (m : Int) := ⟨n.toNat, by omega⟩
      have c0 := (h.cell (2 * m)).trans (stC_sg (by omega))
      have c1 := (h.cell (2 * m + 1)).trans (stC_sg (by omega))
      have y0 := h.frozen (2 * m)
      have y1 := h.frozen (2 * m + 1)
      have hg : Hid (putS s ⟨2, m⟩ v = { s with sg := upd (upd s.sg (2 * m) (v % 4294967296)) (2 * m + 1) (v / 4294967296) }) := rfl
      clear h1 h2 h3 h
      go_enter Try.func58, Try.ntmps58
      go_wp2
      go_region
      go_wp2
      go_end0
      refine ⟨rfl, ?_, (((HK.out ⟨bs, 2 * m, none⟩ _ rfl).setCell (p := ⟨bs, 2 * m + 1, none⟩) (fun _ => rfl) _).alloc _).drew⟩
      have := HB.out.set_ (2 * m) (.int .u32 (v % 4294967296))
      rw [stC_setg (by omega)] at this
      have := this.set_ (2 * m + 1) (.int .u32 (v / 4294967296))
      rw [stC_setg (by omega), show ((2 * m : Nat) : Int) = 2 * (m : Int) by omega, show ((2 * m + 1 : Nat) : Int) = 2 * (m : Int) + 1 by omega] at this
      rw [hg.out]; exact this.alloc _
    · by_cases e3 : k = 3
      · subst e3
        have hn := h3 rfl
        obtain ⟨m, rfl⟩ : ∃ m : Nat, n = (m : Int) := ⟨n.toNat, by omega⟩
        have c0 := (h.cell (16 + m)).trans (stC_sl (by omega))
        have y0 := h.frozen (16 + m)
        have hg : Hid (putS s ⟨3, m⟩ v = { s with sl := upd s.sl m v }) := rfl
        have HS := Lib.hid (stC_setl (s := s) (t := m) v)
        clear h1 h2 h3 h
        generalize s.sl m = x at *
        go_enter Try.func58, Try.ntmps58
        go_wp2
        go_region
        go_wp2
        go_end0
        refine ⟨rfl, ?_, ((HK.out ⟨bs, 16 + m, none⟩ _ rfl).alloc _).drew⟩
        have := HB.out.set_ (16 + m) (.int .u64 v)
        rw [HS.out] at this
        rw [hg.out]; exact this.alloc _
      · have hg : Hid (putS s ⟨k, n⟩ v = s) := by show _ = _; unfold putS; rw [if_neg e1, if_neg e2, if_neg e3]
        have e1' : (k == 1) = false := by simpa using e1
        have e2' : (k == 2) = false := by simpa using e2
        have e3' : (k == 3) = false := by simpa using e3
        clear h1 h2 h3 h
        go_enter Try.func58, Try.ntmps58
        go_wp2
        go_end0
        exact ⟨rfl, by rw [hg.out]; exact HB.out.alloc _, F0.out⟩
end Go.Proofs.Ytodmkjeankbieab

/- The walk of done's store: moves. -/
namespace Go.Proofs.Ytodmkjeankbieab
open Go.RowKit Go.Sort

set_option maxHeartbeats 1000000 in
set_option maxRecDepth 100000 in
theorem dMoves_any (R : Nat → Prop) (bs : Nat) (s : Sto) (v : Value) (l : List Mv) (w : World) (h : Blk w bs 104 (stC s)) (hs : StOk s) (hr : RdMv w R v l) (hR : ∀ b, R b → b ≠ bs) (hl : l.length ≤ 1000) (hm : ∀ m ∈ l, MvHas m) :
    Calls Try.prog 56 #[.pointer (some ⟨bs, 0, none⟩), v] w fun e w' => e = .returned (.tuple #[]) ∧ Blk w' bs 104 (stC (movesS s l)) ∧ Kept (fun b => b = bs) w w' ∧ StOk (movesS s l) := by
  obtain ⟨A, c, rfl, _, hr, _⟩ := hr
  have HR := Lib.hid hr
  have HM := Lib.hid hm
  have HRB := Lib.hid hR
  have H0 := Lib.hid h
  have HS := Lib.hid hs
  clear hr hm hR h hs
  go_enter Try.func56, Try.ntmps56
  go_wp2
  go_loopw [8] (fun i wr => ∃ k : Nat, k ≤ l.length ∧ i = .int .i64 k ∧ Hid (Blk wr bs 104 (stC (movesS s (l.take k))) ∧ Kept (fun b => b = bs) w wr ∧ StOk (movesS s (l.take k)))) (fun i _ => l.length - (intOf i).toNat)
  case atStart => exact ⟨0, Nat.zero_le _, rfl, H0.out, Kept.refl _ w, HS.out⟩
  case round =>
    obtain ⟨k, hk, rfl, hx⟩ := hrel
    by_cases hlt : k < l.length
    · have hg : l[k]? = some l[k] := List.getElem?_eq_getElem hlt
      obtain ⟨b, off, rfl, hRb, c0, c1, c2, c3, c4, c5⟩ := (HR.out.kept hx.out.2.1 (fun b hb e => HRB.out b hb e)).mv hg
      have hmv := HM.out _ (List.getElem_mem hlt)
      have HT := Lib.hid (moves_take (s := s) hg)
      have HO := Lib.hid (hx.out.2.2.move hmv)
      have hbl := cell_lt c0
      have hk0 : (0 : Int) ≤ (k : Int) := Int.natCast_nonneg _
      have hk1 : (k : Int) < (l.length : Int) := by omega
      clear hg
      generalize l[k] = m at *
      obtain ⟨⟨tk, tn⟩, ⟨fk, fn⟩, mc, n⟩ := m
      simp only at c0 c1 c2 c3 c4 c5
      have hto := hmv.to
      have hfr := hmv.fr
      have hn := hmv.n
      simp only at hto hfr hn
      have HTO := Lib.hid hto
      have HFR := Lib.hid hfr
      have HX := Lib.hid hx.out
      clear hmv hto hfr hx
      generalize movesS s (l.take k) = s' at *
      obtain ⟨wB, rfl⟩ : ∃ wB : World, wB = wr := ⟨_, rfl⟩
      cases mc with
      | true =>
        have hwB : Hid (Blk (wB.alloc (.cells #[.int .i64 tk, .int .i64 tn, .int .i64 fk, .int .i64 fn, .bool true, .int .u32 n] 74)) bs 104 (stC s')) := HX.out.1.alloc _
        have hkB : Hid (Kept (fun b => b = bs) w (wB.alloc (.cells #[.int .i64 tk, .int .i64 tn, .int .i64 fk, .int .i64 fn, .bool true, .int .u32 n] 74))) := HX.out.2.1.alloc _
        go_wp2_with fail
        refine (dPut_any bs s' ⟨tk, tn⟩ (n : Int) _ hwB.out HTO.out (by omega)).mono ?_
        rintro e w1 ⟨rfl, hb1, k1⟩
        have HN := Lib.hid (And.intro hb1 (And.intro (hkB.out.trans k1) HO.out))
        clear hb1 k1
        go_wp2
        go_roundw
        case rel => exact ⟨k + 1, by omega, by go_num, by show _ ∧ _; rw [HT.out]; exact HN.out⟩
        case measure => simp [intOf]; omega
      | false =>
        go_wp2
        have HBm := Lib.hid (Blk.new wB 74 #[.int .i64 tk, .int .i64 tn, .int .i64 fk, .int .i64 fn, .bool false, .int .u32 n])
        have hwB : Hid (Blk (wB.alloc (.cells #[.int .i64 tk, .int .i64 tn, .int .i64 fk, .int .i64 fn, .bool false, .int .u32 n] 74)) bs 104 (stC s')) := HX.out.1.alloc _
        have hkB : Hid (Kept (fun b => b = bs) w (wB.alloc (.cells #[.int .i64 tk, .int .i64 tn, .int .i64 fk, .int .i64 fn, .bool false, .int .u32 n] 74))) := HX.out.2.1.alloc _
        have hne : wB.heap.size ≠ bs := by have := HX.out.1.lt; omega
        generalize wB.alloc (.cells #[.int .i64 tk, .int .i64 tn, .int .i64 fk, .int .i64 fn, .bool false, .int .u32 n] 74) = W at *
        clear c0 c1 c2 c3 c4 c5 hbl
        have e0 := HBm.out.cell 0
        have e1 := HBm.out.cell 1
        have e2 := HBm.out.cell 2
        have e3 := HBm.out.cell 3
        have zm := HBm.out.lt
        simp only [List.getElem?_toArray, List.getElem?_cons_succ, List.getElem?_cons_zero] at e0 e1 e2 e3
        have HGT := Lib.hid (HX.out.2.2.get ⟨fk, fn⟩)
        go_region_held3 (fun w' => w'.cell? ⟨wB.heap.size, 0, none⟩ = some (.int .i64 tk) ∧ w'.cell? ⟨wB.heap.size, 1, none⟩ = some (.int .i64 tn) ∧ w'.cell? ⟨wB.heap.size, 2, none⟩ = some (.int .i64 fk) ∧ w'.cell? ⟨wB.heap.size, 3, none⟩ = some (.int .i64 fn))
          (first
            | go_keep
            | (go_split_ands
               have hB3 := HBm.out.kept ((Kept.refl (fun _ => False) W).drew.trans f1) (fun h => h)
               refine ⟨?_, ?_, ?_, ?_⟩
               · exact hB3.cell 0
               · exact hB3.cell 1
               · exact hB3.cell 2
               · exact hB3.cell 3)
            | (go_split_ands
               have hB3 := (HBm.out.kept ((Kept.refl (fun _ => False) W).drew.trans f1) (fun h => h)).kept k2 hne
               refine ⟨?_, ?_, ?_, ?_⟩
               · exact hB3.cell 0
               · exact hB3.cell 1
               · exact hB3.cell 2
               · exact hB3.cell 3))
          (first
            | (go_at_call 57; refine (dGet_any bs s' ⟨fk, fn⟩ _ (hwB.out.kept ((Kept.refl (fun _ => False) W).drew) (fun h => h)) HX.out.2.2 (HFR.out (by trivial))).mono ?_; rintro e w1 ⟨rfl, f1⟩)
            | (go_at_call 58; refine (dPut_any bs s' ⟨tk, tn⟩ (getS s' ⟨fk, fn⟩) _ (hwB.out.kept (((Kept.refl (fun _ => False) W).drew).trans f1) (fun h => h)) HTO.out HGT.out).mono ?_; rintro e w2 ⟨rfl, hb2, k2⟩))
        have HN := Lib.hid (And.intro hb2 (And.intro ((hkB.out.trans ((((Kept.refl (fun _ => False) W).drew).trans f1).mono (fun _ _ h => h.elim))).trans k2) HO.out))
        clear hb2 k2 f1
        go_wp2
        go_roundw
        case rel => exact ⟨k + 1, by omega, by go_num, by show _ ∧ _; rw [HT.out]; exact HN.out⟩
        case measure => simp [intOf]; omega
    · obtain rfl : k = l.length := by omega
      have HN := Lib.hid hx.out
      rw [List.take_length] at HN
      go_wp2
      go_end0
      exact ⟨rfl, HN.out.1, HN.out.2.1, HN.out.2.2⟩
end Go.Proofs.Ytodmkjeankbieab

/- The walk of Machine.Go: over whatever does an instruction. -/
namespace Go.Proofs.Ytodmkjeankbieab
open Go.RowKit Go.Sort

theorem Mc.ended {w : World} {g B : Nat} {r : Sh} {vo : Value} (h : Mc w g B r vo) (hg : B ≤ g) : Mc (w.setCell ⟨g, 0, none⟩ (.int .i64 2)) g B ⟨r.pc, r.ins, r.out, r.steps, 2⟩ vo := by
  obtain ⟨how, A, c, hb, h1, h2, hr⟩ := h
  have hK : Kept (fun k => k = g) w (w.setCell ⟨g, 0, none⟩ (.int .i64 2)) := (Kept.refl (fun k => k = g) w).setCell (p := ⟨g, 0, none⟩) (fun _ => rfl) _
  exact ⟨own_kept how hK (fun k hk e => own_blk_ne how hb (by decide) (e ▸ hk)), A, c, hb.set_ 0 (.int .i64 2), h1, h2, hr.kept hK (fun b hb e => by omega)⟩

/-- how a loop of at most n steps leaves the machine -/
def GoPost {σ : Type} (g B n : Nat) (code : List In) (M : Mach σ) (x0 : Sh × σ) (I : World → Sh × σ → Prop) (w' : World) : Prop :=
  ∃ (w1 : World) (vo : Value), I w1 (mRun code M n x0) ∧ Mc w' g B (mRun code M n x0).1 vo ∧ Kept (fun k => k = g) w1 w'
theorem GoPost.of {σ : Type} {g B n : Nat} {code : List In} {M : Mach σ} {x0 x : Sh × σ} {I : World → Sh × σ → Prop} {w1 w' : World} {vo : Value} (hi : I w1 x) (he : x = mRun code M n x0) (hm : Mc w' g B x.1 vo) (hk : Kept (fun k => k = g) w1 w') :
    GoPost g B n code M x0 I w' := by subst he; exact ⟨w1, vo, hi, hm, hk⟩

set_option maxHeartbeats 1000000 in
set_option maxRecDepth 100000 in
theorem Go_any {σ : Type} (f : Nat) (hf : ∀ args w, Sem.run Try.prog (callFunc f args) w = .ok (.enter f args) w) (cap : Array Value) (g B n c : Nat) (A : Option Addr) (code : List In) (M : Mach σ) (x0 : Sh × σ) (I : World → Sh × σ → Prop)
    (hI : ∀ w x, I w x → ∃ vo, Mc w g B (unF x.1) vo)
    (hstep : ∀ w x, I w x → At code M x0 n x → x.1.state = 0 → x.1.steps < n → Calls Try.prog f (#[.int .i64 (x.1.pc : Int)] ++ cap) w fun e w' => e = .returned (.tuple #[]) ∧ I w' (mStep code M x))
    (w : World) (hg : B ≤ g) (hc : code.length ≤ 1000) (hn : n ≤ 100000) (h0 : I w x0) (hat : At code M x0 n x0) :
    Calls Try.prog 40 #[.pointer (some ⟨g, 0, none⟩), .slice A code.length c, .int .i64 (n : Int), .func (.func f) #[] cap] w fun e w' =>
      e = .returned (.tuple #[]) ∧ GoPost g B n code M x0 I w' := by
  have HS := Lib.hid hstep
  have H0 := Lib.hid h0
  have HA := Lib.hid hat
  clear hstep h0 hat
  go_enter Try.func40, Try.ntmps40
  go_wp2
  go_loopw [] (fun wr => ∃ x, Hid (I wr x) ∧ Hid (At code M x0 n x)) (fun wr => n - (match wr.cell? ⟨g, 2, none⟩ with | some v => (intOf v).toNat | none => 0))
  case atStart => exact ⟨x0, H0.out, HA.out⟩
  case round =>
    obtain ⟨x, hi, ha⟩ := hrel
    obtain ⟨vo, hM⟩ := hI _ _ hi.out
    obtain ⟨how, Ai, ci, hB, hl, hcm, hr⟩ := id hM
    have q0 := hB.cell 0
    have q2 := hB.cell 2
    have q3 := hB.cell 3
    have z0 := hB.lt
    have y0 := hB.frozen 0
    have hle := ha.out.le
    simp only [List.getElem?_toArray, List.getElem?_cons_succ, List.getElem?_cons_zero] at q0 q2 q3
    have HM := Lib.hid hM
    clear hM how hB hl hcm hr
    have e2 : (unF x.1).steps = x.1.steps := rfl
    have e3 : (unF x.1).pc = x.1.pc := rfl
    rw [e2] at q2
    rw [e3] at q3
    by_cases hst : x.1.state = 0
    · have e0 : (unF x.1).state = 0 := by unfold unF; simp [hst]
      rw [e0] at q0
      have hpc := ha.out.st0 hst
      have hp0 : (x.1.pc : Int) < (code.length : Int) := by omega
      by_cases hs : x.1.steps < n
      · have hs0 : (x.1.steps : Int) < (n : Int) := by omega
        have HX := Lib.hid (HS.out wr x hi.out ha.out hst hs)
        have HA2 := Lib.hid (ha.out.step hst hs)
        have hq2 := q2
        go_wp2_with fail
        refine HX.out.mono ?_
        rintro e w1 ⟨rfl, h1⟩
        obtain ⟨vo1, hM1⟩ := hI _ _ h1
        obtain ⟨_, A1, c1, hB1, _⟩ := hM1
        have r2 := hB1.cell 2
        simp only [List.getElem?_toArray, List.getElem?_cons_succ, List.getElem?_cons_zero] at r2
        rw [show (unF (mStep code M x).1).steps = x.1.steps + 1 from rfl] at r2
        go_wp2
        go_roundw
        case rel => exact ⟨_, h1, HA2.out⟩
        case measure =>
          rw [q2, r2]
          simp [intOf]
          omega
      · have hs0 : ¬ (x.1.steps : Int) < (n : Int) := by omega
        have hE := Lib.hid (ha.out.stop (Or.inr hs))
        have hSame := Lib.hid (ha.out.same (Or.inr hpc))
        go_wp2
        go_end0
        refine ⟨rfl, GoPost.of hi.out hE.out (vo := vo) ?_ (Kept.refl _ _)⟩
        have := HM.out
        rwa [hSame.out] at this
    · have hE := Lib.hid (ha.out.stop (Or.inl hst))
      by_cases h1 : x.1.state = 1
      · have e0 : (unF x.1).state = 1 := by unfold unF; simp [h1]
        have hSame := Lib.hid (ha.out.same (Or.inl (by rw [e0]; decide)))
        rw [e0] at q0
        go_wp2
        go_end0
        refine ⟨rfl, GoPost.of hi.out hE.out (vo := vo) ?_ (Kept.refl _ _)⟩
        have := HM.out
        rwa [hSame.out] at this
      · have h2 : x.1.state = 2 := by have := ha.out.st; omega
        have e0 : (unF x.1).state = 0 := by unfold unF; simp [h2]
        have hpc := ha.out.st2 h2
        have hp0 : ¬ (x.1.pc : Int) < (code.length : Int) := by omega
        have hEnd := Lib.hid (ha.out.ended e0 hpc)
        rw [e0] at q0
        go_wp2
        go_end0
        refine ⟨rfl, GoPost.of hi.out hE.out (vo := vo) ?_ ((Kept.refl (fun k => k = g) wr).setCell (p := ⟨g, 0, none⟩) (fun _ => rfl) _)⟩
        rw [hEnd.out]
        exact HM.out.ended hg
end Go.Proofs.Ytodmkjeankbieab
