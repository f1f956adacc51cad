/- The walks of the reference of chapter 11 that read bytes: at, read, Get: against the plain reading (rmoves, rrows, rGet). -/
import Derived.Test.YtodmkjeankbieaaCodeGet2
import Derived.Test.YtodmkjeankbieaaCodePlain
import Derived.BigQuiet
import Derived.Deep.QuietTactic
import Derived.Lib.QuietBelow
import Derived.Deep.RegionHeld3
import Derived.Deep.DrawnRows
namespace Go.Proofs.Ytodmkjeankbieaa
open Go.RowKit Go.Sort
attribute [local go_sem ↓] Go.wp_at_zero Go.wp_at_succ

def atv (bs : List Int) (k : Nat) : Int := (bs[k]?).getD (-1)

set_option maxRecDepth 100000 in
theorem at_any (R : Nat → Prop) (A : Option Addr) (c k : Nat) (bs : List Int) (w : World) (hr : Reads w R 1 A bs.length (byteVals bs)) (hl : bs.length ≤ maxLen) (hk : k ≤ bs.length) (hby : ∀ x ∈ bs, 0 ≤ x ∧ x ≤ 255) :
    Calls Try.prog 59 #[.slice A bs.length c, .int .i64 k] w fun e w' => e = .returned (.int .i64 (atv bs k)) ∧ Fr w w' := by
  unfold maxLen at hl
  by_cases hlt : k < bs.length
  · obtain ⟨b, off, rfl, hR, hcell⟩ := hr.2 (by omega)
    have hx : bs[k]? = some bs[k] := List.getElem?_eq_getElem hlt
    have hb := hby _ (List.getElem_mem hlt)
    have hav : Hid (atv bs k = bs[k]) := by
      show atv bs k = bs[k]
      unfold atv; rw [hx]; rfl
    generalize bs[k] = x at *
    have c0 := hcell k (.int .u8 x) (by unfold byteVals; rw [List.getElem?_map, hx]; rfl)
    clear hcell hr hx hby
    go_enter Try.func59, Try.ntmps59
    go_wp2
    go_ret
    exact ⟨ret_i hav.out.symm, Kept.refl _ w⟩
  · have hav : Hid (atv bs k = -1) := by
      show atv bs k = -1
      unfold atv; rw [List.getElem?_eq_none (by omega)]; rfl
    go_enter Try.func59, Try.ntmps59
    go_wp2
    go_ret
    exact ⟨ret_i hav.out.symm, Kept.refl _ w⟩

def RefMoves (w : World) (bs : List Int) (k : Nat) (e : Ending) (w' : World) : Prop :=
  Fr w w' ∧ (((rmoves (bs.drop k, false)).2.2 = true ∧ e = .returned (.tuple #[.slice none 0 0, .int .i64 (-1)])) ∨
    ∃ v k', (rmoves (bs.drop k, false)).2 = (bs.drop k', false) ∧ k' ≤ bs.length ∧ e = .returned (.tuple #[v, .int .i64 (k' : Int)]) ∧ MvOwn w' w.heap.size v (rmoves (bs.drop k, false)).1)

theorem atv_in {bs : List Int} {k : Nat} {x : Int} (h : bs[k]? = some x) : atv bs k = x := by unfold atv; rw [h]; rfl
theorem moves_end (bs : List Int) (k : Nat) (h : k = bs.length) : (rmoves (bs.drop k, false)).2.2 = true := by
  subst h; rw [List.drop_length]; rfl
theorem moves_at {bs : List Int} {k N : Nat} (h : bs[k]? = some (N : Int)) : rmoves (bs.drop k, false) = rloop N (bs.drop (k + 1), false) := by
  obtain ⟨hk, he⟩ := List.getElem?_eq_some_iff.1 h
  rw [List.drop_eq_getElem_cons hk, he]
  simp [rmoves, rget]
theorem loop_short {N : Nat} {t : List Int} (hby : ∀ x ∈ t, 0 ≤ x ∧ x ≤ 255) (h : t.length < 9 * N) : (rloop N (t, false)).2.2 = true := by
  cases hb : (rloop N (t, false)).2.2 with
  | true => rfl
  | false =>
    have h1 := Eats.loop N (s := (t, false)) hby
    have h2 := h1.1 hb
    have h3 := h1.2 hb
    have h4 := congrArg List.length h2.1
    have h5 := mvs_len (rloop N (t, false)).1
    simp only [mvsNums, List.length_append, List.length_cons] at h4 h5
    omega

theorem nine {bs : List Int} {f : Nat} (h : f + 9 ≤ bs.length) : ∃ x0 x1 x2 x3 x4 x5 x6 x7 x8 : Int, bs.drop f = x0 :: x1 :: x2 :: x3 :: x4 :: x5 :: x6 :: x7 :: x8 :: bs.drop (f + 9) ∧
    bs[f]? = some x0 ∧ bs[f + 1]? = some x1 ∧ bs[f + 2]? = some x2 ∧ bs[f + 3]? = some x3 ∧ bs[f + 4]? = some x4 ∧ bs[f + 5]? = some x5 ∧ bs[f + 6]? = some x6 ∧ bs[f + 7]? = some x7 ∧ bs[f + 8]? = some x8 := by
  refine ⟨bs[f], bs[f + 1], bs[f + 2], bs[f + 3], bs[f + 4], bs[f + 5], bs[f + 6], bs[f + 7], bs[f + 8], ?_, ?_, ?_, ?_, ?_, ?_, ?_, ?_, ?_, ?_⟩
  · rw [List.drop_eq_getElem_cons (by omega : f < bs.length), List.drop_eq_getElem_cons (by omega : f + 1 < bs.length), List.drop_eq_getElem_cons (by omega : f + 2 < bs.length), List.drop_eq_getElem_cons (by omega : f + 3 < bs.length),
      List.drop_eq_getElem_cons (by omega : f + 4 < bs.length), List.drop_eq_getElem_cons (by omega : f + 5 < bs.length), List.drop_eq_getElem_cons (by omega : f + 6 < bs.length), List.drop_eq_getElem_cons (by omega : f + 7 < bs.length),
      List.drop_eq_getElem_cons (by omega : f + 8 < bs.length)]
  all_goals exact List.getElem?_eq_getElem (by omega)

theorem ownsRow_drew {w : World} {base : Nat} {e : TypeId} {size n : Nat} {v : Value} {xs : List Value} (h : w.ownsRow base e size v n xs) : w.drew.ownsRow base e size v n xs := h
theorem rmove_nine {t : List Int} (x0 x1 x2 x3 x4 x5 x6 x7 x8 : Int) (b5 : 0 ≤ x5 ∧ x5 ≤ 255) (b6 : 0 ≤ x6 ∧ x6 ≤ 255) (b7 : 0 ≤ x7 ∧ x7 ≤ 255) (b8 : 0 ≤ x8 ∧ x8 ≤ 255) :
    rmove (x0 :: x1 :: x2 :: x3 :: x4 :: x5 :: x6 :: x7 :: x8 :: t, false) = (⟨⟨x0, x1⟩, ⟨x2, x3⟩, decide (x4 = 1), (x5 * 16777216 + x6 * 65536 + x7 * 256 + x8).toNat⟩, (t, decide (1 < x4))) := by
  have e : ((((0 * 256 % 4294967296 + x5.toNat) * 256 % 4294967296 + x6.toNat) * 256 % 4294967296 + x7.toNat) * 256 % 4294967296 + x8.toNat) = (x5 * 16777216 + x6 * 65536 + x7 * 256 + x8).toNat := by omega
  rw [← e]
  rfl
theorem rloop_bad (n : Nat) (t : List Int) : (rloop n (t, true)).2.2 = true := by
  cases n <;> rfl

theorem mvOwn_nine {w : World} {base : Nat} {v : Value} {l : List Mv} {x0 x1 x2 x3 x4 y : Int} (h : w.ownsRow base 99 6 v (l.length + 1) (l.flatMap Mv.cells ++ #[Value.int .i64 x0, .int .i64 x1, .int .i64 x2, .int .i64 x3, .bool (x4 == 1), .int .u32 y].toList)) (hy : 0 ≤ y) :
    MvOwn w base v (l ++ [⟨⟨x0, x1⟩, ⟨x2, x3⟩, decide (x4 = 1), y.toNat⟩]) := by
  have e : (x4 == 1) = decide (x4 = 1) := rfl
  rw [e] at h
  refine mvOwn_snoc (n := y.toNat) ?_ rfl
  rw [Int.toNat_of_nonneg hy]
  exact h

set_option maxHeartbeats 2000000 in
set_option maxRecDepth 100000 in
theorem refRead_any (R : Nat → Prop) (A : Option Addr) (c k : Nat) (bs : List Int) (w : World) (hr : Reads w R 1 A bs.length (byteVals bs)) (hl : bs.length ≤ maxLen) (hk : k ≤ bs.length) (hk2 : k ≤ 1099511627776) (hby : ∀ x ∈ bs, 0 ≤ x ∧ x ≤ 255) :
    Calls Try.prog 42 #[.slice A bs.length c, .int .i64 k] w (RefMoves w bs k) := by
  have HAT := Lib.hid (at_any R A c k bs w hr hl hk hby)
  have HR := Lib.hid hr
  have HBY := Lib.hid hby
  unfold maxLen at hl
  by_cases hlt : k < bs.length
  · have hx : bs[k]? = some bs[k] := List.getElem?_eq_getElem hlt
    have hb := hby _ (List.getElem_mem hlt)
    obtain ⟨N, hN⟩ : ∃ N : Nat, bs[k] = (N : Int) := ⟨bs[k].toNat, by omega⟩
    rw [hN] at hb hx
    have hM := Lib.hid (moves_at hx)
    rw [atv_in hx] at HAT
    clear hx hN
    have hNl : N ≤ 255 := by omega
    clear hb
    by_cases hsh : bs.length < k + 1 + 9 * N
    · have hS := Lib.hid (loop_short (N := N) (t := bs.drop (k + 1)) (fun x hx => hby x (List.mem_of_mem_drop hx)) (by rw [List.length_drop]; omega))
      clear hr hby
      go_enter Try.func42, Try.ntmps42
      go_wp2_with fail
      refine HAT.out.mono ?_
      rintro e w1 ⟨rfl, f1⟩
      go_wp2
      go_ret2
      exact ⟨f1, Or.inl ⟨by rw [hM.out]; exact hS.out, rfl⟩⟩
    · clear hr hby
      go_enter Try.func42, Try.ntmps42
      go_wp2_with fail
      refine HAT.out.mono ?_
      rintro e w1 ⟨rfl, f1⟩
      go_wp2
      go_loopw [7, 8] (fun v i wr => ∃ (j n : Nat) (l : List Mv), j + n = N ∧ i = .int .i64 j ∧ Hid (l.length = j) ∧ Hid (MvOwn wr w.heap.size v l) ∧ Hid (Fr w wr) ∧ Hid (rloop N (bs.drop (k + 1), false) = (l ++ (rloop n (bs.drop (k + 1 + 9 * j), false)).1, (rloop n (bs.drop (k + 1 + 9 * j), false)).2))) (fun _ i _ => N - (intOf i).toNat)
      case atStart => exact ⟨0, N, [], by omega, rfl, rfl, ⟨rfl, Or.inl ⟨rfl, rfl⟩⟩, f1, by show _ = _; simp⟩
      case round =>
        obtain ⟨j, n, l, hjn, rfl, HLJ, HO, HF, hrl⟩ := hrel
        by_cases hj : j < N
        · obtain ⟨x0, x1, x2, x3, x4, x5, x6, x7, x8, hd, e0, e1, e2, e3, e4, e5, e6, e7, e8⟩ := nine (bs := bs) (f := k + 1 + 9 * j) (by omega)
          have hrw := HR.out.kept HF.out (fun _ _ h => h)
          obtain ⟨b, off, rfl, hR, hcell⟩ := hrw.2 (by omega)
          have cc : ∀ (q : Nat) (x : Int), bs[q]? = some x → wr.cell? ⟨b, off + q, none⟩ = some (.int .u8 x) := fun q x hx => hcell q (.int .u8 x) (by unfold byteVals; rw [List.getElem?_map, hx]; rfl)
          have bb : ∀ (q : Nat) (x : Int), bs[q]? = some x → 0 ≤ x ∧ x ≤ 255 := fun q x hx => HBY.out x (List.mem_of_getElem? hx)
          have c0 := cc _ _ e0
          have c1 := cc _ _ e1
          have c2 := cc _ _ e2
          have c3 := cc _ _ e3
          have c4 := cc _ _ e4
          have c5 := cc _ _ e5
          have c6 := cc _ _ e6
          have c7 := cc _ _ e7
          have c8 := cc _ _ e8
          have b0 := bb _ _ e0
          have b1 := bb _ _ e1
          have b2 := bb _ _ e2
          have b3 := bb _ _ e3
          have b4 := bb _ _ e4
          have b5 := bb _ _ e5
          have b6 := bb _ _ e6
          have b7 := bb _ _ e7
          have b8 := bb _ _ e8
          have hbl : b < wr.heap.size := World.block_lt_of_cell? _ _ c0
          have HD := Lib.hid hd
          clear hcell hrw cc bb e0 e1 e2 e3 e4 e5 e6 e7 e8 hd HAT HR
          clear f1
          have hRM := Lib.hid (rmove_nine (t := bs.drop (k + 1 + 9 * j + 9)) x0 x1 x2 x3 x4 x5 x6 x7 x8 b5 b6 b7 b8)
          have hn0 : Hid (n = (n - 1) + 1) := by show n = (n - 1) + 1; omega
          go_wp2_with fail
          · go_ret2
            refine ⟨HF.out, Or.inl ⟨?_, rfl⟩⟩
            rename_i h4
            rw [hM.out, hrl.out, HD.out, hn0.out]
            have hRM2 := hRM.out
            rw [show decide (1 < x4) = true from decide_eq_true h4] at hRM2
            show (rloop (n - 1 + 1) _).2.2 = true
            unfold rloop
            rw [hRM2]
            exact rloop_bad _ _
          · have hF : (k : Int) + 1 + 9 * (j : Int) = ((k + 1 + 9 * j : Nat) : Int) := by omega
            rw [hF]
            have hFl : k + 1 + 9 * j + 9 ≤ bs.length := by omega
            have hFk : k + 1 + 9 * j ≤ 1099511629000 + 9 * 255 := by omega
            clear hF
            generalize hFF : k + 1 + 9 * j = F at *
            have HFF := Lib.hid hFF
            clear hFF
            have g0 : (0 : Int) ≤ (F : Int) := by omega
            have g1 : (0 : Int) ≤ (F : Int) + 1 := by omega
            have g2 : (0 : Int) ≤ (F : Int) + 2 := by omega
            have g3 : (0 : Int) ≤ (F : Int) + 3 := by omega
            have g4 : (0 : Int) ≤ (F : Int) + 4 := by omega
            have l0 : (F : Int) < (bs.length : Int) := by omega
            have l1 : (F : Int) + 1 < (bs.length : Int) := by omega
            have l2 : (F : Int) + 2 < (bs.length : Int) := by omega
            have l3 : (F : Int) + 3 < (bs.length : Int) := by omega
            have l4 : (F : Int) + 4 < (bs.length : Int) := by omega
            have w1 : IntKind.i64.wrap ((F : Int) + 1) = (F : Int) + 1 := by simp [IntKind.wrap, IntKind.bits, IntKind.signed]; omega
            have w2 : IntKind.i64.wrap ((F : Int) + 2) = (F : Int) + 2 := by simp [IntKind.wrap, IntKind.bits, IntKind.signed]; omega
            have w3 : IntKind.i64.wrap ((F : Int) + 3) = (F : Int) + 3 := by simp [IntKind.wrap, IntKind.bits, IntKind.signed]; omega
            have w4 : IntKind.i64.wrap ((F : Int) + 4) = (F : Int) + 4 := by simp [IntKind.wrap, IntKind.bits, IntKind.signed]; omega
            have t1 : ((F : Int) + 1).toNat = F + 1 := by omega
            have t2 : ((F : Int) + 2).toNat = F + 2 := by omega
            have t3 : ((F : Int) + 3).toNat = F + 3 := by omega
            have t4 : ((F : Int) + 4).toNat = F + 4 := by omega
            have u0 : IntKind.i64.wrap x0 = x0 := by simp [IntKind.wrap, IntKind.bits, IntKind.signed]; omega
            have u1 : IntKind.i64.wrap x1 = x1 := by simp [IntKind.wrap, IntKind.bits, IntKind.signed]; omega
            have u2 : IntKind.i64.wrap x2 = x2 := by simp [IntKind.wrap, IntKind.bits, IntKind.signed]; omega
            have u3 : IntKind.i64.wrap x3 = x3 := by simp [IntKind.wrap, IntKind.bits, IntKind.signed]; omega
            have hnew := World.new_ne wr ⟨b, off + (F + 5), none⟩ c5
            go_region_held3 (fun w' => w'.cell? ⟨b, off + (F), none⟩ = some (.int .u8 x0) ∧ w'.cell? ⟨b, off + (F + 1), none⟩ = some (.int .u8 x1) ∧ w'.cell? ⟨b, off + (F + 2), none⟩ = some (.int .u8 x2) ∧ w'.cell? ⟨b, off + (F + 3), none⟩ = some (.int .u8 x3) ∧ w'.cell? ⟨b, off + (F + 4), none⟩ = some (.int .u8 x4)) (go_keep) (fail)
            clear g0 g1 g2 g3 g4 l0 l1 l2 l3 l4 w1 w2 w3 w4 t1 t2 t3 t4 c0 c1 c2 c3 c4 u0 u1 u2 u3
            have g5 : (0 : Int) ≤ (F : Int) + 5 := by omega
            have l5 : (F : Int) + 5 < (bs.length : Int) := by omega
            have w5 : IntKind.i64.wrap ((F : Int) + 5) = (F : Int) + 5 := by simp [IntKind.wrap, IntKind.bits, IntKind.signed]; omega
            have t5 : ((F : Int) + 5).toNat = F + 5 := by omega
            have v5 : IntKind.u32.wrap x5 = x5 := by simp [IntKind.wrap, IntKind.bits, IntKind.signed]; omega
            have g6 : (0 : Int) ≤ (F : Int) + 6 := by omega
            have l6 : (F : Int) + 6 < (bs.length : Int) := by omega
            have w6 : IntKind.i64.wrap ((F : Int) + 6) = (F : Int) + 6 := by simp [IntKind.wrap, IntKind.bits, IntKind.signed]; omega
            have t6 : ((F : Int) + 6).toNat = F + 6 := by omega
            have v6 : IntKind.u32.wrap x6 = x6 := by simp [IntKind.wrap, IntKind.bits, IntKind.signed]; omega
            have g7 : (0 : Int) ≤ (F : Int) + 7 := by omega
            have l7 : (F : Int) + 7 < (bs.length : Int) := by omega
            have w7 : IntKind.i64.wrap ((F : Int) + 7) = (F : Int) + 7 := by simp [IntKind.wrap, IntKind.bits, IntKind.signed]; omega
            have t7 : ((F : Int) + 7).toNat = F + 7 := by omega
            have v7 : IntKind.u32.wrap x7 = x7 := by simp [IntKind.wrap, IntKind.bits, IntKind.signed]; omega
            have g8 : (0 : Int) ≤ (F : Int) + 8 := by omega
            have l8 : (F : Int) + 8 < (bs.length : Int) := by omega
            have w8 : IntKind.i64.wrap ((F : Int) + 8) = (F : Int) + 8 := by simp [IntKind.wrap, IntKind.bits, IntKind.signed]; omega
            have t8 : ((F : Int) + 8).toNat = F + 8 := by omega
            have v8 : IntKind.u32.wrap x8 = x8 := by simp [IntKind.wrap, IntKind.bits, IntKind.signed]; omega
            have m5 : IntKind.u32.wrap (x5 * 16777216) = x5 * 16777216 := by simp [IntKind.wrap, IntKind.bits, IntKind.signed]; omega
            have m6 : IntKind.u32.wrap (x6 * 65536) = x6 * 65536 := by simp [IntKind.wrap, IntKind.bits, IntKind.signed]; omega
            have m7 : IntKind.u32.wrap (x7 * 256) = x7 * 256 := by simp [IntKind.wrap, IntKind.bits, IntKind.signed]; omega
            have s6 : IntKind.u32.wrap (x5 * 16777216 + x6 * 65536) = x5 * 16777216 + x6 * 65536 := by simp [IntKind.wrap, IntKind.bits, IntKind.signed]; omega
            have s7 : IntKind.u32.wrap (x5 * 16777216 + x6 * 65536 + x7 * 256) = x5 * 16777216 + x6 * 65536 + x7 * 256 := by simp [IntKind.wrap, IntKind.bits, IntKind.signed]; omega
            have s8 : IntKind.u32.wrap (x5 * 16777216 + x6 * 65536 + x7 * 256 + x8) = x5 * 16777216 + x6 * 65536 + x7 * 256 + x8 := by simp [IntKind.wrap, IntKind.bits, IntKind.signed]; omega
            go_wp2_with fail
            go_region_held3 (fun w' => w'.cell? ⟨b, off + (F + 5), none⟩ = some (.int .u8 x5) ∧ w'.cell? ⟨b, off + (F + 6), none⟩ = some (.int .u8 x6) ∧ w'.cell? ⟨b, off + (F + 7), none⟩ = some (.int .u8 x7) ∧ w'.cell? ⟨b, off + (F + 8), none⟩ = some (.int .u8 x8) ∧ w'.cell? ⟨wr.heap.size, 0, none⟩ = some (.int .i64 x0)) (go_keep) (fail)
            have HN := Lib.hid (show Blk (((wr.alloc (.cells #[.int .i64 x0, .int .i64 x1, .int .i64 x2, .int .i64 x3, .bool (x4 == 1), .int .u32 (x5 * 16777216 + x6 * 65536 + x7 * 256 + x8)] 99)).drew).drew) wr.heap.size 99 #[.int .i64 x0, .int .i64 x1, .int .i64 x2, .int .i64 x3, .bool (x4 == 1), .int .u32 (x5 * 16777216 + x6 * 65536 + x7 * 256 + x8)] from Blk.new wr _ _)
            have HOw := Lib.hid (show MvOwn (((wr.alloc (.cells #[.int .i64 x0, .int .i64 x1, .int .i64 x2, .int .i64 x3, .bool (x4 == 1), .int .u32 (x5 * 16777216 + x6 * 65536 + x7 * 256 + x8)] 99)).drew).drew) w.heap.size u7 l from ownsRow_drew (ownsRow_drew (World.ownsRow.alloc HO.out _)))
            have HFr := Lib.hid (show Fr w (((wr.alloc (.cells #[.int .i64 x0, .int .i64 x1, .int .i64 x2, .int .i64 x3, .bool (x4 == 1), .int .u32 (x5 * 16777216 + x6 * 65536 + x7 * 256 + x8)] 99)).drew).drew) from ((HF.out.alloc _).drew).drew)
            clear HO HF c5 c6 c7 c8 hbl hnew g5 g6 g7 g8 l5 l6 l7 l8 w5 w6 w7 w8 t5 t6 t7 t8 v5 v6 v7 v8 m5 m6 m7 s6 s7 s8
            generalize ((wr.alloc (.cells #[.int .i64 x0, .int .i64 x1, .int .i64 x2, .int .i64 x3, .bool (x4 == 1), .int .u32 (x5 * 16777216 + x6 * 65536 + x7 * 256 + x8)] 99)).drew).drew = wN at *
            have e0 := HN.out.cell 0
            have e1 := HN.out.cell 1
            have e2 := HN.out.cell 2
            have e3 := HN.out.cell 3
            have e4 := HN.out.cell 4
            have e5 := HN.out.cell 5
            simp only [List.getElem?_toArray, List.getElem?_cons_succ, List.getElem?_cons_zero] at e0 e1 e2 e3 e4 e5
            have zN := HN.out.lt
            have hy : 0 ≤ x5 * 16777216 + x6 * 65536 + x7 * 256 + x8 := by omega
            generalize x5 * 16777216 + x6 * 65536 + x7 * 256 + x8 = y at *
            clear b0 b1 b2 b3 b4 b5 b6 b7 b8
            go_wp2_with (
              (at_builtin
               go_must ((refine wpList_app (base := w.heap.size) _ rfl slMove (.tmp 105) (.tmp 107) rfl u7 _ _ rfl (World.ownsRow.alloc HOw.out _) (fun _ => True) _ 1 1 _ rfl (Reads.lit' (by simp) trivial rfl) ?_ ?_ ?_ ?_ ?_
                         · simp [Value.oneCell']
                         · have := HLJ.out; omega
                         · unfold maxLen; have := HLJ.out; omega
                         · have := HFr.out.size; simp; omega))
               intro v7 w7 hown7 hk7 hat7
               have HO7 := Lib.hid (mvOwn_nine hown7 hy)
               have HF7 := Lib.hid ((HFr.out.alloc _).app (World.ownsRow.alloc HOw.out _) hk7)
               clear hown7 hk7 hat7 HOw HFr HN e0 e1 e2 e3 e4 e5))
            go_roundw
            case rel =>
              refine ⟨j + 1, n - 1, l ++ [⟨⟨x0, x1⟩, ⟨x2, x3⟩, decide (x4 = 1), y.toNat⟩], by omega, by go_num, by show _ = _; rw [List.length_append, HLJ.out]; rfl, HO7, HF7, ?_⟩
              have hRM2 := hRM.out
              rw [show decide (1 < x4) = false from decide_eq_false (by omega)] at hRM2
              have := rloop_step (hRM2.symm.trans (by rw [HD.out])) hn0.out hrl.out
              rw [show k + 1 + 9 * (j + 1) = F + 9 by have := HFF.out; omega]
              exact this
            case measure => simp [intOf]; omega
        · obtain rfl : n = 0 := by omega
          obtain rfl : j = N := by omega
          go_wp2
          go_ret2
          refine ⟨HF.out, Or.inr ⟨u7, k + 1 + 9 * j, ?_, by omega, rfl, ?_⟩⟩
          · rw [hM.out, hrl.out]; rfl
          · rw [hM.out, hrl.out]; simpa [rloop] using HO.out
  · have hE := Lib.hid (moves_end bs k (by omega))
    rw [show atv bs k = -1 by unfold atv; rw [List.getElem?_eq_none (by omega)]; rfl] at HAT
    clear hr hby
    go_enter Try.func42, Try.ntmps42
    go_wp2_with fail
    refine HAT.out.mono ?_
    rintro e w1 ⟨rfl, f1⟩
    go_wp2
    go_ret2
    exact ⟨f1, Or.inl ⟨hE.out, rfl⟩⟩

end Go.Proofs.Ytodmkjeankbieaa
