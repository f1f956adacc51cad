/- The walk of done's store: moves. -/
import Derived.Test.YtodmkjeankbieabSto
import Derived.Deep.RegionHeld3
namespace Go.Proofs.Ytodmkjeankbieab
open Go.RowKit Go.Sort

set_option maxHeartbeats 1000000 in
set_option maxRecDepth 100000 in
theorem dMoves_any (R : Nat → Prop) (bs : Nat) (s : Sto) (v : Value) (l : List Mv) (w : World) (h : Blk w bs 104 (stC s)) (hs : StOk s) (hr : RdMv w R v l) (hR : ∀ b, R b → b ≠ bs) (hl : l.length ≤ 1000) (hm : ∀ m ∈ l, MvHas m) :
    Calls Try.prog 56 #[.pointer (some ⟨bs, 0, none⟩), v] w fun e w' => e = .returned (.tuple #[]) ∧ Blk w' bs 104 (stC (movesS s l)) ∧ Kept (fun b => b = bs) w w' ∧ StOk (movesS s l) := by
  obtain ⟨A, c, rfl, _, hr, _⟩ := hr
  have HR := Lib.hid hr
  have HM := Lib.hid hm
  have HRB := Lib.hid hR
  have H0 := Lib.hid h
  have HS := Lib.hid hs
  clear hr hm hR h hs
  go_enter Try.func56, Try.ntmps56
  go_wp2
  go_loopw [8] (fun i wr => ∃ k : Nat, k ≤ l.length ∧ i = .int .i64 k ∧ Hid (Blk wr bs 104 (stC (movesS s (l.take k))) ∧ Kept (fun b => b = bs) w wr ∧ StOk (movesS s (l.take k)))) (fun i _ => l.length - (intOf i).toNat)
  case atStart => exact ⟨0, Nat.zero_le _, rfl, H0.out, Kept.refl _ w, HS.out⟩
  case round =>
    obtain ⟨k, hk, rfl, hx⟩ := hrel
    by_cases hlt : k < l.length
    · have hg : l[k]? = some l[k] := List.getElem?_eq_getElem hlt
      obtain ⟨b, off, rfl, hRb, c0, c1, c2, c3, c4, c5⟩ := (HR.out.kept hx.out.2.1 (fun b hb e => HRB.out b hb e)).mv hg
      have hmv := HM.out _ (List.getElem_mem hlt)
      have HT := Lib.hid (moves_take (s := s) hg)
      have HO := Lib.hid (hx.out.2.2.move hmv)
      have hbl := cell_lt c0
      have hk0 : (0 : Int) ≤ (k : Int) := Int.natCast_nonneg _
      have hk1 : (k : Int) < (l.length : Int) := by omega
      clear hg
      generalize l[k] = m at *
      obtain ⟨⟨tk, tn⟩, ⟨fk, fn⟩, mc, n⟩ := m
      simp only at c0 c1 c2 c3 c4 c5
      have hto := hmv.to
      have hfr := hmv.fr
      have hn := hmv.n
      simp only at hto hfr hn
      have HTO := Lib.hid hto
      have HFR := Lib.hid hfr
      have HX := Lib.hid hx.out
      clear hmv hto hfr hx
      generalize movesS s (l.take k) = s' at *
      obtain ⟨wB, rfl⟩ : ∃ wB : World, wB = wr := ⟨_, rfl⟩
      cases mc with
      | true =>
        have hwB : Hid (Blk (wB.alloc (.cells #[.int .i64 tk, .int .i64 tn, .int .i64 fk, .int .i64 fn, .bool true, .int .u32 n] 74)) bs 104 (stC s')) := HX.out.1.alloc _
        have hkB : Hid (Kept (fun b => b = bs) w (wB.alloc (.cells #[.int .i64 tk, .int .i64 tn, .int .i64 fk, .int .i64 fn, .bool true, .int .u32 n] 74))) := HX.out.2.1.alloc _
        go_wp2_with fail
        refine (dPut_any bs s' ⟨tk, tn⟩ (n : Int) _ hwB.out HTO.out (by omega)).mono ?_
        rintro e w1 ⟨rfl, hb1, k1⟩
        have HN := Lib.hid (And.intro hb1 (And.intro (hkB.out.trans k1) HO.out))
        clear hb1 k1
        go_wp2
        go_roundw
        case rel => exact ⟨k + 1, by omega, by go_num, by show _ ∧ _; rw [HT.out]; exact HN.out⟩
        case measure => simp [intOf]; omega
      | false =>
        go_wp2
        have HBm := Lib.hid (Blk.new wB 74 #[.int .i64 tk, .int .i64 tn, .int .i64 fk, .int .i64 fn, .bool false, .int .u32 n])
        have hwB : Hid (Blk (wB.alloc (.cells #[.int .i64 tk, .int .i64 tn, .int .i64 fk, .int .i64 fn, .bool false, .int .u32 n] 74)) bs 104 (stC s')) := HX.out.1.alloc _
        have hkB : Hid (Kept (fun b => b = bs) w (wB.alloc (.cells #[.int .i64 tk, .int .i64 tn, .int .i64 fk, .int .i64 fn, .bool false, .int .u32 n] 74))) := HX.out.2.1.alloc _
        have hne : wB.heap.size ≠ bs := by have := HX.out.1.lt; omega
        generalize wB.alloc (.cells #[.int .i64 tk, .int .i64 tn, .int .i64 fk, .int .i64 fn, .bool false, .int .u32 n] 74) = W at *
        clear c0 c1 c2 c3 c4 c5 hbl
        have e0 := HBm.out.cell 0
        have e1 := HBm.out.cell 1
        have e2 := HBm.out.cell 2
        have e3 := HBm.out.cell 3
        have zm := HBm.out.lt
        simp only [List.getElem?_toArray, List.getElem?_cons_succ, List.getElem?_cons_zero] at e0 e1 e2 e3
        have HGT := Lib.hid (HX.out.2.2.get ⟨fk, fn⟩)
        go_region_held3 (fun w' => w'.cell? ⟨wB.heap.size, 0, none⟩ = some (.int .i64 tk) ∧ w'.cell? ⟨wB.heap.size, 1, none⟩ = some (.int .i64 tn) ∧ w'.cell? ⟨wB.heap.size, 2, none⟩ = some (.int .i64 fk) ∧ w'.cell? ⟨wB.heap.size, 3, none⟩ = some (.int .i64 fn))
          (first
            | go_keep
            | (go_split_ands
               have hB3 := HBm.out.kept ((Kept.refl (fun _ => False) W).drew.trans f1) (fun h => h)
               refine ⟨?_, ?_, ?_, ?_⟩
               · exact hB3.cell 0
               · exact hB3.cell 1
               · exact hB3.cell 2
               · exact hB3.cell 3)
            | (go_split_ands
               have hB3 := (HBm.out.kept ((Kept.refl (fun _ => False) W).drew.trans f1) (fun h => h)).kept k2 hne
               refine ⟨?_, ?_, ?_, ?_⟩
               · exact hB3.cell 0
               · exact hB3.cell 1
               · exact hB3.cell 2
               · exact hB3.cell 3))
          (first
            | (go_at_call 57; refine (dGet_any bs s' ⟨fk, fn⟩ _ (hwB.out.kept ((Kept.refl (fun _ => False) W).drew) (fun h => h)) HX.out.2.2 (HFR.out (by trivial))).mono ?_; rintro e w1 ⟨rfl, f1⟩)
            | (go_at_call 58; refine (dPut_any bs s' ⟨tk, tn⟩ (getS s' ⟨fk, fn⟩) _ (hwB.out.kept (((Kept.refl (fun _ => False) W).drew).trans f1) (fun h => h)) HTO.out HGT.out).mono ?_; rintro e w2 ⟨rfl, hb2, k2⟩))
        have HN := Lib.hid (And.intro hb2 (And.intro ((hkB.out.trans ((((Kept.refl (fun _ => False) W).drew).trans f1).mono (fun _ _ h => h.elim))).trans k2) HO.out))
        clear hb2 k2 f1
        go_wp2
        go_roundw
        case rel => exact ⟨k + 1, by omega, by go_num, by show _ ∧ _; rw [HT.out]; exact HN.out⟩
        case measure => simp [intOf]; omega
    · obtain rfl : k = l.length := by omega
      have HN := Lib.hid hx.out
      rw [List.take_length] at HN
      go_wp2
      go_end0
      exact ⟨rfl, HN.out.1, HN.out.2.1, HN.out.2.2⟩
end Go.Proofs.Ytodmkjeankbieab
