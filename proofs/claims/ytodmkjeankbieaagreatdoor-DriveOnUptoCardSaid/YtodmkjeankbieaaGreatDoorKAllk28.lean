/- Texts of this claim, packed. -/
import Derived.Test.YtodmkjeankbieaaGreatDoorKAllk27
import Derived.Test.YtodmkjeankbieaaGreatDoorKAllk26
set_option linter.all false
namespace Go.Proofs.YtodmkjeankbieaaGreatDoor
open Go.RowKit Go.Sort Go.Lib

def LineOk : Prop := ∀ (wB w : World) (r : Nat) (vw vc vi : Value) (g : PS) (s : Tx), Fr wB w → PlM w wB.heap.size r 65 vw vc vi g → Env wB → PsOk g → s.length < 4294967281 →
 Calls Tryz.prog 18 #[.pointer (some ⟨r, 0, none⟩), .string (bA s)] w (LinePost wB r 65 (lineF g s))
theorem plm0 {w : World} {base : Nat} (hb : base ≤ w.heap.size) : PlM (w.alloc (.cells #[.slice none 0 0, .slice none 0 0, .slice none 0 0] 65)) base w.heap.size 65 (.slice none 0 0) (.slice none 0 0) (.slice none 0 0) ps0 :=
 ⟨plTyD, Blk.new w _ _, hb, World.ownsRow_nil _ _ _ _, World.ownsRow_nil _ _ _ _, World.ownsRow_nil _ _ _ _, (fun m hm => nomatch hm), (fun m hm => nomatch hm)⟩

set_option maxHeartbeats 6400000 in
set_option maxRecDepth 100000 in
theorem dplay_any (HL : LineOk) (s : Tx) (hs : s.length < 4294967281) (w : World) (hv : Env w) :
   Calls Tryz.prog 7 #[.string (bA s)] w fun e w' => e = .returned (.string (bA (playF s))) ∧ Fr w w' := by
 have HSP := Lib.hid (splitL_any s 10 hs w hv)
 have HV := Lib.hid hv
 have HLL := Lib.hid HL
 have hne : 0 < (partsL 10 s).length := List.length_pos_iff.2 (partsL_ne 10 s)
 have hlen := partsL_len 10 s
 have HB := Lib.hid (Blk.new w 9 (txs (partsL 10 s)).toArray)
 have hlast : (partsL 10 s)[(partsL 10 s).length - 1]? = (partsL 10 s).getLast? := by rw [List.getLast?_eq_getElem?]
 obtain ⟨x, hx⟩ : ∃ x, (partsL 10 s).getLast? = some x := by
   cases h : (partsL 10 s).getLast? with
   | none => rw [List.getLast?_eq_none_iff] at h; exact absurd h (partsL_ne 10 s)
   | some x => exact ⟨x, rfl⟩
 have c0 : (w.alloc (.cells (txs (partsL 10 s)).toArray 9)).cell? ⟨w.heap.size, (partsL 10 s).length - 1, none⟩ = some (.string (bA x)) := by
   rw [HB.out.cell, List.getElem?_toArray]
   unfold txs
   rw [List.getElem?_map, hlast, hx]; rfl
 have hi1 : ((partsL 10 s).length : Int) - 1 = (((partsL 10 s).length - 1 : Nat) : Int) := by omega
 clear hv HL
 go_enter Tryz.func7, Tryz.ntmps7
 go_wp2_with fail
 refine HSP.out.mono ?_
 rintro e w1 ⟨rfl, rfl⟩
 by_cases hxe : x = []
 · subst hxe
   have hq : (bA []).toList.isEmpty = true := by rw [Lib.toList_data]; rfl
   have hL : linesF s = (partsL 10 s).dropLast := by unfold linesF; rw [if_pos hx]
   have hLl : (linesF s).length = (partsL 10 s).length - 1 := by rw [hL, List.length_dropLast]
   have hLk : ∀ k, k < (partsL 10 s).length - 1 → (linesF s)[k]? = (partsL 10 s)[k]? := fun k hk => by rw [hL, List.getElem?_dropLast, if_pos hk]
   by_cases h60 : (partsL 10 s).length - 1 ≤ 60
   · have h60i : ((((partsL 10 s).length - 1 : Nat) : Int) ≤ 60) := by omega
     have h60j : ¬ ((60 : Int) < (((partsL 10 s).length - 1 : Nat) : Int)) := by omega
     have hTk : (linesF s).take ((partsL 10 s).length - 1) = (linesF s).take 60 := by rw [List.take_of_length_le (by omega), List.take_of_length_le (by omega)]
     have HLN := Lib.hid (show ∀ k, k < ((partsL 10 s).length - 1) → ∃ y, (linesF s)[k]? = some y ∧ (partsL 10 s)[k]? = some y ∧ y.length < 4294967281 from fun k hk => by
       have hk2 : k < (linesF s).length := by rw [hLl]; omega
       have e1 : (linesF s)[k]? = (partsL 10 s)[k]? := hLk k (by omega)
       have hk3 : (linesF s)[k]? = some (linesF s)[k] := List.getElem?_eq_getElem hk2
       refine ⟨_, hk3, e1 ▸ hk3, ?_⟩
       have := parts_mem (List.mem_of_getElem? (e1 ▸ hk3))
       omega)
     have HEND := Lib.hid (show (playTo ((linesF s).take ((partsL 10 s).length - 1)) (ps0, [])).2 = playF s from by
       unfold playF
       rw [show (linesF s).take ((partsL 10 s).length - 1) = (linesF s).take 60 from hTk])
     have HPW := Lib.hid (show PlM ((w.alloc (.cells (txs (partsL 10 s)).toArray 9)).alloc (.cells #[.slice none 0 0, .slice none 0 0, .slice none 0 0] 65)) (w.alloc (.cells (txs (partsL 10 s)).toArray 9)).heap.size (w.heap.size + 1) 65 (.slice none 0 0) (.slice none 0 0) (.slice none 0 0) ps0 from by
       have h := plm0 (w := w.alloc (.cells (txs (partsL 10 s)).toArray 9)) (base := (w.alloc (.cells (txs (partsL 10 s)).toArray 9)).heap.size) (Nat.le_refl _)
       have e : (w.alloc (.cells (txs (partsL 10 s)).toArray 9)).heap.size = w.heap.size + 1 := by simp
       rw [e] at h ⊢
       exact h)
     have HFW := Lib.hid (show Fr (w.alloc (.cells (txs (partsL 10 s)).toArray 9)) ((w.alloc (.cells (txs (partsL 10 s)).toArray 9)).alloc (.cells #[.slice none 0 0, .slice none 0 0, .slice none 0 0] 65)) from (Kept.refl _ _).alloc _)
     clear hLl hLk hTk hlast hx hL
     go_wp2_with fail
     go_loopw [30, 5] (fun i ov wr => ∃ (k : Nat) (vw vc vi : Value), k ≤ ((partsL 10 s).length - 1) ∧ i = .int .i64 k ∧ ov = .string (bA (playTo ((linesF s).take k) (ps0, [])).2) ∧ Hid (PlM wr (w.alloc (.cells (txs (partsL 10 s)).toArray 9)).heap.size (w.heap.size + 1) 65 vw vc vi (playTo ((linesF s).take k) (ps0, [])).1) ∧ Hid (Fr (w.alloc (.cells (txs (partsL 10 s)).toArray 9)) wr)) (fun i _ _ => ((partsL 10 s).length - 1) - (intOf i).toNat)
     case atStart => exact ⟨0, _, _, _, by omega, rfl, rfl, HPW, HFW⟩
     case round =>
       obtain ⟨k, vw, vc, vi, hk, rfl, rfl, hp, hf⟩ := hrel
       have hb := HB.out.kept hf.out (fun h => h)
       by_cases hlt : k < ((partsL 10 s).length - 1)
       · obtain ⟨y, hy, hy2, hyl⟩ := HLN.out k hlt
         have d0 : wr.cell? ⟨w.heap.size, k, none⟩ = some (.string (bA y)) := by
           rw [hb.cell, List.getElem?_toArray]
           unfold txs
           rw [List.getElem?_map, hy2]; rfl
         have hz := cell_lt d0
         have hall : ∀ z ∈ (linesF s).take k, z.length < 4294967296 := by
           intro z hz
           obtain ⟨j, hj, rfl⟩ := List.mem_iff_getElem.1 hz
           rw [List.length_take] at hj
           obtain ⟨y2, e2, _, e3⟩ := HLN.out j (by omega)
           rw [List.getElem_take]
           rw [List.getElem?_eq_getElem (by omega)] at e2
           injection e2 with e2
           rw [e2]; omega
         obtain ⟨hok, hol⟩ := playTo_ok ((linesF s).take k) (ps0, []) ps0_ok hall
         have hll := lineF_len (s := y) hok (by omega)
         rw [List.length_take] at hol
         have HTK : (linesF s).take (k + 1) = (linesF s).take k ++ [y] := by rw [List.take_add_one, hy]; rfl
         have HST := Lib.hid (show playTo ((linesF s).take (k + 1)) (ps0, []) = ((lineF (playTo ((linesF s).take k) (ps0, [])).1 y).1, (playTo ((linesF s).take k) (ps0, [])).2 ++ (lineF (playTo ((linesF s).take k) (ps0, [])).1 y).2 ++ [10]) from by rw [HTK]; exact playTo_snoc _ y _)
         clear HTK
         have HLC := Lib.hid (HLL.out (w.alloc (.cells (txs (partsL 10 s)).toArray 9)) wr (w.heap.size + 1) vw vc vi _ y hf.out hp.out (HV.out.kept ((Kept.refl _ w).alloc _)) hok hyl)
         have hs1 := bA_size (playTo ((linesF s).take k) (ps0, [])).2
         have hs2 := bA_size (lineF (playTo ((linesF s).take k) (ps0, [])).1 y).2
         have hbig1 : ¬ 9223372036854775807 < (bA (lineF (playTo ((linesF s).take k) (ps0, [])).1 y).2).size + 1 := by rw [hs2]; omega
         have hbig2 : ¬ 9223372036854775807 < (bA (playTo ((linesF s).take k) (ps0, [])).2).size + ((bA (lineF (playTo ((linesF s).take k) (ps0, [])).1 y).2).size + 1) := by rw [hs1, hs2]; simp only [List.length_nil] at hol; omega
         clear hs1 hs2 hol hll hok hall hy hy2 hyl
         go_wp2_with fail
         refine HLC.out.mono ?_
         rintro e w2 ⟨rfl, f2, vw2, vc2, vi2, hp2⟩
         have HP2 := Lib.hid hp2
         have HF2 := Lib.hid f2
         clear hp2 f2
         have HOU := Lib.hid (show bA (playTo ((linesF s).take (k + 1)) (ps0, [])).2 = bA (playTo ((linesF s).take k) (ps0, [])).2 ++ (bA (lineF (playTo ((linesF s).take k) (ps0, [])).1 y).2 ++ ⟨#[10]⟩) from by rw [HST.out, bA_app, bA_app, ByteArray.append_assoc]; rfl)
         have HP3 := Lib.hid (show PlM w2 _ _ _ vw2 vc2 vi2 (playTo ((linesF s).take (k + 1)) (ps0, [])).1 from by rw [HST.out]; exact HP2.out)
         clear hb
         go_wp2

         go_roundw
         case rel => exact ⟨k + 1, vw2, vc2, vi2, by omega, by go_num, by rw [HOU.out], HP3, HF2⟩
         case measure => simp [intOf]; omega
       · obtain rfl : k = ((partsL 10 s).length - 1) := by omega
         go_wp2
         go_ret
         exact ⟨by rw [← HEND.out]; rfl, ((Kept.refl _ w).alloc _).trans hf.out⟩
   · have h60i : ¬ ((((partsL 10 s).length - 1 : Nat) : Int) ≤ 60) := by omega
     have h60j : ((60 : Int) < (((partsL 10 s).length - 1 : Nat) : Int)) := by omega
     have hTk : (linesF s).take 60 = (linesF s).take 60 := rfl
     have HLN := Lib.hid (show ∀ k, k < 60 → ∃ y, (linesF s)[k]? = some y ∧ (partsL 10 s)[k]? = some y ∧ y.length < 4294967281 from fun k hk => by
       have hk2 : k < (linesF s).length := by rw [hLl]; omega
       have e1 : (linesF s)[k]? = (partsL 10 s)[k]? := hLk k (by omega)
       have hk3 : (linesF s)[k]? = some (linesF s)[k] := List.getElem?_eq_getElem hk2
       refine ⟨_, hk3, e1 ▸ hk3, ?_⟩
       have := parts_mem (List.mem_of_getElem? (e1 ▸ hk3))
       omega)
     have HEND := Lib.hid (show (playTo ((linesF s).take 60) (ps0, [])).2 = playF s from by
       unfold playF
       rw [show (linesF s).take 60 = (linesF s).take 60 from hTk])
     have HPW := Lib.hid (show PlM ((w.alloc (.cells (txs (partsL 10 s)).toArray 9)).alloc (.cells #[.slice none 0 0, .slice none 0 0, .slice none 0 0] 65)) (w.alloc (.cells (txs (partsL 10 s)).toArray 9)).heap.size (w.heap.size + 1) 65 (.slice none 0 0) (.slice none 0 0) (.slice none 0 0) ps0 from by
       have h := plm0 (w := w.alloc (.cells (txs (partsL 10 s)).toArray 9)) (base := (w.alloc (.cells (txs (partsL 10 s)).toArray 9)).heap.size) (Nat.le_refl _)
       have e : (w.alloc (.cells (txs (partsL 10 s)).toArray 9)).heap.size = w.heap.size + 1 := by simp
       rw [e] at h ⊢
       exact h)
     have HFW := Lib.hid (show Fr (w.alloc (.cells (txs (partsL 10 s)).toArray 9)) ((w.alloc (.cells (txs (partsL 10 s)).toArray 9)).alloc (.cells #[.slice none 0 0, .slice none 0 0, .slice none 0 0] 65)) from (Kept.refl _ _).alloc _)
     clear hLl hLk hTk hlast hx hL
     go_wp2_with fail
     go_loopw [30, 5] (fun i ov wr => ∃ (k : Nat) (vw vc vi : Value), k ≤ 60 ∧ i = .int .i64 k ∧ ov = .string (bA (playTo ((linesF s).take k) (ps0, [])).2) ∧ Hid (PlM wr (w.alloc (.cells (txs (partsL 10 s)).toArray 9)).heap.size (w.heap.size + 1) 65 vw vc vi (playTo ((linesF s).take k) (ps0, [])).1) ∧ Hid (Fr (w.alloc (.cells (txs (partsL 10 s)).toArray 9)) wr)) (fun i _ _ => 60 - (intOf i).toNat)
     case atStart => exact ⟨0, _, _, _, by omega, rfl, rfl, HPW, HFW⟩
     case round =>
       obtain ⟨k, vw, vc, vi, hk, rfl, rfl, hp, hf⟩ := hrel
       have hb := HB.out.kept hf.out (fun h => h)
       by_cases hlt : k < 60
       · obtain ⟨y, hy, hy2, hyl⟩ := HLN.out k hlt
         have d0 : wr.cell? ⟨w.heap.size, k, none⟩ = some (.string (bA y)) := by
           rw [hb.cell, List.getElem?_toArray]
           unfold txs
           rw [List.getElem?_map, hy2]; rfl
         have hz := cell_lt d0
         have hall : ∀ z ∈ (linesF s).take k, z.length < 4294967296 := by
           intro z hz
           obtain ⟨j, hj, rfl⟩ := List.mem_iff_getElem.1 hz
           rw [List.length_take] at hj
           obtain ⟨y2, e2, _, e3⟩ := HLN.out j (by omega)
           rw [List.getElem_take]
           rw [List.getElem?_eq_getElem (by omega)] at e2
           injection e2 with e2
           rw [e2]; omega
         obtain ⟨hok, hol⟩ := playTo_ok ((linesF s).take k) (ps0, []) ps0_ok hall
         have hll := lineF_len (s := y) hok (by omega)
         rw [List.length_take] at hol
         have HTK : (linesF s).take (k + 1) = (linesF s).take k ++ [y] := by rw [List.take_add_one, hy]; rfl
         have HST := Lib.hid (show playTo ((linesF s).take (k + 1)) (ps0, []) = ((lineF (playTo ((linesF s).take k) (ps0, [])).1 y).1, (playTo ((linesF s).take k) (ps0, [])).2 ++ (lineF (playTo ((linesF s).take k) (ps0, [])).1 y).2 ++ [10]) from by rw [HTK]; exact playTo_snoc _ y _)
         clear HTK
         have HLC := Lib.hid (HLL.out (w.alloc (.cells (txs (partsL 10 s)).toArray 9)) wr (w.heap.size + 1) vw vc vi _ y hf.out hp.out (HV.out.kept ((Kept.refl _ w).alloc _)) hok hyl)
         have hs1 := bA_size (playTo ((linesF s).take k) (ps0, [])).2
         have hs2 := bA_size (lineF (playTo ((linesF s).take k) (ps0, [])).1 y).2
         have hbig1 : ¬ 9223372036854775807 < (bA (lineF (playTo ((linesF s).take k) (ps0, [])).1 y).2).size + 1 := by rw [hs2]; omega
         have hbig2 : ¬ 9223372036854775807 < (bA (playTo ((linesF s).take k) (ps0, [])).2).size + ((bA (lineF (playTo ((linesF s).take k) (ps0, [])).1 y).2).size + 1) := by rw [hs1, hs2]; simp only [List.length_nil] at hol; omega
         clear hs1 hs2 hol hll hok hall hy hy2 hyl
         go_wp2_with fail
         refine HLC.out.mono ?_
         rintro e w2 ⟨rfl, f2, vw2, vc2, vi2, hp2⟩
         have HP2 := Lib.hid hp2
         have HF2 := Lib.hid f2
         clear hp2 f2
         have HOU := Lib.hid (show bA (playTo ((linesF s).take (k + 1)) (ps0, [])).2 = bA (playTo ((linesF s).take k) (ps0, [])).2 ++ (bA (lineF (playTo ((linesF s).take k) (ps0, [])).1 y).2 ++ ⟨#[10]⟩) from by rw [HST.out, bA_app, bA_app, ByteArray.append_assoc]; rfl)
         have HP3 := Lib.hid (show PlM w2 _ _ _ vw2 vc2 vi2 (playTo ((linesF s).take (k + 1)) (ps0, [])).1 from by rw [HST.out]; exact HP2.out)
         clear hb
         go_wp2

         go_roundw
         case rel => exact ⟨k + 1, vw2, vc2, vi2, by omega, by go_num, by rw [HOU.out], HP3, HF2⟩
         case measure => simp [intOf]; omega
       · obtain rfl : k = 60 := by omega
         go_wp2
         go_ret
         exact ⟨by rw [← HEND.out]; rfl, ((Kept.refl _ w).alloc _).trans hf.out⟩
 · have hq : (bA x).toList.isEmpty = false := by rw [Lib.toList_data, bA_data]; cases x with | nil => exact absurd rfl hxe | cons c l => rfl
   have hL : linesF s = partsL 10 s := by unfold linesF; rw [if_neg (by rw [hx]; simpa using hxe)]
   have hLl : (linesF s).length = (partsL 10 s).length := by rw [hL]
   have hLk : ∀ k, k < (partsL 10 s).length → (linesF s)[k]? = (partsL 10 s)[k]? := fun k hk => by rw [hL]
   by_cases h60 : (partsL 10 s).length ≤ 60
   · have h60i : ((((partsL 10 s).length : Nat) : Int) ≤ 60) := by omega
     have h60j : ¬ ((60 : Int) < (((partsL 10 s).length : Nat) : Int)) := by omega
     have hTk : (linesF s).take (partsL 10 s).length = (linesF s).take 60 := by rw [List.take_of_length_le (by omega), List.take_of_length_le (by omega)]
     have HLN := Lib.hid (show ∀ k, k < (partsL 10 s).length → ∃ y, (linesF s)[k]? = some y ∧ (partsL 10 s)[k]? = some y ∧ y.length < 4294967281 from fun k hk => by
       have hk2 : k < (linesF s).length := by rw [hLl]; omega
       have e1 : (linesF s)[k]? = (partsL 10 s)[k]? := hLk k (by omega)
       have hk3 : (linesF s)[k]? = some (linesF s)[k] := List.getElem?_eq_getElem hk2
       refine ⟨_, hk3, e1 ▸ hk3, ?_⟩
       have := parts_mem (List.mem_of_getElem? (e1 ▸ hk3))
       omega)
     have HEND := Lib.hid (show (playTo ((linesF s).take (partsL 10 s).length) (ps0, [])).2 = playF s from by
       unfold playF
       rw [show (linesF s).take (partsL 10 s).length = (linesF s).take 60 from hTk])
     have HPW := Lib.hid (show PlM ((w.alloc (.cells (txs (partsL 10 s)).toArray 9)).alloc (.cells #[.slice none 0 0, .slice none 0 0, .slice none 0 0] 65)) (w.alloc (.cells (txs (partsL 10 s)).toArray 9)).heap.size (w.heap.size + 1) 65 (.slice none 0 0) (.slice none 0 0) (.slice none 0 0) ps0 from by
       have h := plm0 (w := w.alloc (.cells (txs (partsL 10 s)).toArray 9)) (base := (w.alloc (.cells (txs (partsL 10 s)).toArray 9)).heap.size) (Nat.le_refl _)
       have e : (w.alloc (.cells (txs (partsL 10 s)).toArray 9)).heap.size = w.heap.size + 1 := by simp
       rw [e] at h ⊢
       exact h)
     have HFW := Lib.hid (show Fr (w.alloc (.cells (txs (partsL 10 s)).toArray 9)) ((w.alloc (.cells (txs (partsL 10 s)).toArray 9)).alloc (.cells #[.slice none 0 0, .slice none 0 0, .slice none 0 0] 65)) from (Kept.refl _ _).alloc _)
     clear hLl hLk hTk hlast hx hL
     go_wp2_with fail
     go_loopw [30, 5] (fun i ov wr => ∃ (k : Nat) (vw vc vi : Value), k ≤ (partsL 10 s).length ∧ i = .int .i64 k ∧ ov = .string (bA (playTo ((linesF s).take k) (ps0, [])).2) ∧ Hid (PlM wr (w.alloc (.cells (txs (partsL 10 s)).toArray 9)).heap.size (w.heap.size + 1) 65 vw vc vi (playTo ((linesF s).take k) (ps0, [])).1) ∧ Hid (Fr (w.alloc (.cells (txs (partsL 10 s)).toArray 9)) wr)) (fun i _ _ => (partsL 10 s).length - (intOf i).toNat)
     case atStart => exact ⟨0, _, _, _, by omega, rfl, rfl, HPW, HFW⟩
     case round =>
       obtain ⟨k, vw, vc, vi, hk, rfl, rfl, hp, hf⟩ := hrel
       have hb := HB.out.kept hf.out (fun h => h)
       by_cases hlt : k < (partsL 10 s).length
       · obtain ⟨y, hy, hy2, hyl⟩ := HLN.out k hlt
         have d0 : wr.cell? ⟨w.heap.size, k, none⟩ = some (.string (bA y)) := by
           rw [hb.cell, List.getElem?_toArray]
           unfold txs
           rw [List.getElem?_map, hy2]; rfl
         have hz := cell_lt d0
         have hall : ∀ z ∈ (linesF s).take k, z.length < 4294967296 := by
           intro z hz
           obtain ⟨j, hj, rfl⟩ := List.mem_iff_getElem.1 hz
           rw [List.length_take] at hj
           obtain ⟨y2, e2, _, e3⟩ := HLN.out j (by omega)
           rw [List.getElem_take]
           rw [List.getElem?_eq_getElem (by omega)] at e2
           injection e2 with e2
           rw [e2]; omega
         obtain ⟨hok, hol⟩ := playTo_ok ((linesF s).take k) (ps0, []) ps0_ok hall
         have hll := lineF_len (s := y) hok (by omega)
         rw [List.length_take] at hol
         have HTK : (linesF s).take (k + 1) = (linesF s).take k ++ [y] := by rw [List.take_add_one, hy]; rfl
         have HST := Lib.hid (show playTo ((linesF s).take (k + 1)) (ps0, []) = ((lineF (playTo ((linesF s).take k) (ps0, [])).1 y).1, (playTo ((linesF s).take k) (ps0, [])).2 ++ (lineF (playTo ((linesF s).take k) (ps0, [])).1 y).2 ++ [10]) from by rw [HTK]; exact playTo_snoc _ y _)
         clear HTK
         have HLC := Lib.hid (HLL.out (w.alloc (.cells (txs (partsL 10 s)).toArray 9)) wr (w.heap.size + 1) vw vc vi _ y hf.out hp.out (HV.out.kept ((Kept.refl _ w).alloc _)) hok hyl)
         have hs1 := bA_size (playTo ((linesF s).take k) (ps0, [])).2
         have hs2 := bA_size (lineF (playTo ((linesF s).take k) (ps0, [])).1 y).2
         have hbig1 : ¬ 9223372036854775807 < (bA (lineF (playTo ((linesF s).take k) (ps0, [])).1 y).2).size + 1 := by rw [hs2]; omega
         have hbig2 : ¬ 9223372036854775807 < (bA (playTo ((linesF s).take k) (ps0, [])).2).size + ((bA (lineF (playTo ((linesF s).take k) (ps0, [])).1 y).2).size + 1) := by rw [hs1, hs2]; simp only [List.length_nil] at hol; omega
         clear hs1 hs2 hol hll hok hall hy hy2 hyl
         go_wp2_with fail
         refine HLC.out.mono ?_
         rintro e w2 ⟨rfl, f2, vw2, vc2, vi2, hp2⟩
         have HP2 := Lib.hid hp2
         have HF2 := Lib.hid f2
         clear hp2 f2
         have HOU := Lib.hid (show bA (playTo ((linesF s).take (k + 1)) (ps0, [])).2 = bA (playTo ((linesF s).take k) (ps0, [])).2 ++ (bA (lineF (playTo ((linesF s).take k) (ps0, [])).1 y).2 ++ ⟨#[10]⟩) from by rw [HST.out, bA_app, bA_app, ByteArray.append_assoc]; rfl)
         have HP3 := Lib.hid (show PlM w2 _ _ _ vw2 vc2 vi2 (playTo ((linesF s).take (k + 1)) (ps0, [])).1 from by rw [HST.out]; exact HP2.out)
         clear hb
         go_wp2

         go_roundw
         case rel => exact ⟨k + 1, vw2, vc2, vi2, by omega, by go_num, by rw [HOU.out], HP3, HF2⟩
         case measure => simp [intOf]; omega
       · obtain rfl : k = (partsL 10 s).length := by omega
         go_wp2
         go_ret
         exact ⟨by rw [← HEND.out]; rfl, ((Kept.refl _ w).alloc _).trans hf.out⟩
   · have h60i : ¬ ((((partsL 10 s).length : Nat) : Int) ≤ 60) := by omega
     have h60j : ((60 : Int) < (((partsL 10 s).length : Nat) : Int)) := by omega
     have hTk : (linesF s).take 60 = (linesF s).take 60 := rfl
     have HLN := Lib.hid (show ∀ k, k < 60 → ∃ y, (linesF s)[k]? = some y ∧ (partsL 10 s)[k]? = some y ∧ y.length < 4294967281 from fun k hk => by
       have hk2 : k < (linesF s).length := by rw [hLl]; omega
       have e1 : (linesF s)[k]? = (partsL 10 s)[k]? := hLk k (by omega)
       have hk3 : (linesF s)[k]? = some (linesF s)[k] := List.getElem?_eq_getElem hk2
       refine ⟨_, hk3, e1 ▸ hk3, ?_⟩
       have := parts_mem (List.mem_of_getElem? (e1 ▸ hk3))
       omega)
     have HEND := Lib.hid (show (playTo ((linesF s).take 60) (ps0, [])).2 = playF s from by
       unfold playF
       rw [show (linesF s).take 60 = (linesF s).take 60 from hTk])
     have HPW := Lib.hid (show PlM ((w.alloc (.cells (txs (partsL 10 s)).toArray 9)).alloc (.cells #[.slice none 0 0, .slice none 0 0, .slice none 0 0] 65)) (w.alloc (.cells (txs (partsL 10 s)).toArray 9)).heap.size (w.heap.size + 1) 65 (.slice none 0 0) (.slice none 0 0) (.slice none 0 0) ps0 from by
       have h := plm0 (w := w.alloc (.cells (txs (partsL 10 s)).toArray 9)) (base := (w.alloc (.cells (txs (partsL 10 s)).toArray 9)).heap.size) (Nat.le_refl _)
       have e : (w.alloc (.cells (txs (partsL 10 s)).toArray 9)).heap.size = w.heap.size + 1 := by simp
       rw [e] at h ⊢
       exact h)
     have HFW := Lib.hid (show Fr (w.alloc (.cells (txs (partsL 10 s)).toArray 9)) ((w.alloc (.cells (txs (partsL 10 s)).toArray 9)).alloc (.cells #[.slice none 0 0, .slice none 0 0, .slice none 0 0] 65)) from (Kept.refl _ _).alloc _)
     clear hLl hLk hTk hlast hx hL
     go_wp2_with fail
     go_loopw [30, 5] (fun i ov wr => ∃ (k : Nat) (vw vc vi : Value), k ≤ 60 ∧ i = .int .i64 k ∧ ov = .string (bA (playTo ((linesF s).take k) (ps0, [])).2) ∧ Hid (PlM wr (w.alloc (.cells (txs (partsL 10 s)).toArray 9)).heap.size (w.heap.size + 1) 65 vw vc vi (playTo ((linesF s).take k) (ps0, [])).1) ∧ Hid (Fr (w.alloc (.cells (txs (partsL 10 s)).toArray 9)) wr)) (fun i _ _ => 60 - (intOf i).toNat)
     case atStart => exact ⟨0, _, _, _, by omega, rfl, rfl, HPW, HFW⟩
     case round =>
       obtain ⟨k, vw, vc, vi, hk, rfl, rfl, hp, hf⟩ := hrel
       have hb := HB.out.kept hf.out (fun h => h)
       by_cases hlt : k < 60
       · obtain ⟨y, hy, hy2, hyl⟩ := HLN.out k hlt
         have d0 : wr.cell? ⟨w.heap.size, k, none⟩ = some (.string (bA y)) := by
           rw [hb.cell, List.getElem?_toArray]
           unfold txs
           rw [List.getElem?_map, hy2]; rfl
         have hz := cell_lt d0
         have hall : ∀ z ∈ (linesF s).take k, z.length < 4294967296 := by
           intro z hz
           obtain ⟨j, hj, rfl⟩ := List.mem_iff_getElem.1 hz
           rw [List.length_take] at hj
           obtain ⟨y2, e2, _, e3⟩ := HLN.out j (by omega)
           rw [List.getElem_take]
           rw [List.getElem?_eq_getElem (by omega)] at e2
           injection e2 with e2
           rw [e2]; omega
         obtain ⟨hok, hol⟩ := playTo_ok ((linesF s).take k) (ps0, []) ps0_ok hall
         have hll := lineF_len (s := y) hok (by omega)
         rw [List.length_take] at hol
         have HTK : (linesF s).take (k + 1) = (linesF s).take k ++ [y] := by rw [List.take_add_one, hy]; rfl
         have HST := Lib.hid (show playTo ((linesF s).take (k + 1)) (ps0, []) = ((lineF (playTo ((linesF s).take k) (ps0, [])).1 y).1, (playTo ((linesF s).take k) (ps0, [])).2 ++ (lineF (playTo ((linesF s).take k) (ps0, [])).1 y).2 ++ [10]) from by rw [HTK]; exact playTo_snoc _ y _)
         clear HTK
         have HLC := Lib.hid (HLL.out (w.alloc (.cells (txs (partsL 10 s)).toArray 9)) wr (w.heap.size + 1) vw vc vi _ y hf.out hp.out (HV.out.kept ((Kept.refl _ w).alloc _)) hok hyl)
         have hs1 := bA_size (playTo ((linesF s).take k) (ps0, [])).2
         have hs2 := bA_size (lineF (playTo ((linesF s).take k) (ps0, [])).1 y).2
         have hbig1 : ¬ 9223372036854775807 < (bA (lineF (playTo ((linesF s).take k) (ps0, [])).1 y).2).size + 1 := by rw [hs2]; omega
         have hbig2 : ¬ 9223372036854775807 < (bA (playTo ((linesF s).take k) (ps0, [])).2).size + ((bA (lineF (playTo ((linesF s).take k) (ps0, [])).1 y).2).size + 1) := by rw [hs1, hs2]; simp only [List.length_nil] at hol; omega
         clear hs1 hs2 hol hll hok hall hy hy2 hyl
         go_wp2_with fail
         refine HLC.out.mono ?_
         rintro e w2 ⟨rfl, f2, vw2, vc2, vi2, hp2⟩
         have HP2 := Lib.hid hp2
         have HF2 := Lib.hid f2
         clear hp2 f2
         have HOU := Lib.hid (show bA (playTo ((linesF s).take (k + 1)) (ps0, [])).2 = bA (playTo ((linesF s).take k) (ps0, [])).2 ++ (bA (lineF (playTo ((linesF s).take k) (ps0, [])).1 y).2 ++ ⟨#[10]⟩) from by rw [HST.out, bA_app, bA_app, ByteArray.append_assoc]; rfl)
         have HP3 := Lib.hid (show PlM w2 _ _ _ vw2 vc2 vi2 (playTo ((linesF s).take (k + 1)) (ps0, [])).1 from by rw [HST.out]; exact HP2.out)
         clear hb
         go_wp2

         go_roundw
         case rel => exact ⟨k + 1, vw2, vc2, vi2, by omega, by go_num, by rw [HOU.out], HP3, HF2⟩
         case measure => simp [intOf]; omega
       · obtain rfl : k = 60 := by omega
         go_wp2
         go_ret
         exact ⟨by rw [← HEND.out]; rfl, ((Kept.refl _ w).alloc _).trans hf.out⟩
end Go.Proofs.YtodmkjeankbieaaGreatDoor


namespace Go.Proofs.YtodmkjeankbieaaGreatDoor
open Go.RowKit Go.Sort Go.Lib

theorem dline_any : LineOk := by
 intro wB w r vw vc vi g s hB hm hv hok hs
 obtain ⟨x, ws, hps⟩ : ∃ x ws, partsL 32 s = x :: ws := by
   cases h : partsL 32 s with
   | nil => exact absurd h (partsL_ne 32 s)
   | cons x ws => exact ⟨x, ws, rfl⟩
 cases hl : numsF ws with
 | none => rw [line_none hps hl]; exact dline_none wB w r vw vc vi g s x ws hB hm hv hok hs hps hl
 | some l =>
   rw [line_some hps hl]
   unfold armF
   by_cases h1 : s = narrowT
   · rw [if_pos (Or.inl h1), show decide (s = wideT) = false from by rw [h1]; decide]
     exact dline_narrow wB w r vw vc vi g s x ws l hB hm hv hok hs hps hl h1
   by_cases h2 : s = wideT
   · rw [if_pos (Or.inr h2), show decide (s = wideT) = true from decide_eq_true h2]
     exact dline_wide wB w r vw vc vi g s x ws l hB hm hv hok hs hps hl h2
   rw [if_neg (by rintro (h | h) <;> contradiction)]
   by_cases h3 : s = nearT
   · rw [if_pos h3]
     exact dline_near wB w r vw vc vi g s x ws l hB hm hv hok hs hps hl (near_head hps h3) h3
   rw [if_neg h3]
   by_cases hc : x = codeT
   · by_cases h6 : l.length = 6
     · rw [if_pos ⟨hc, h6⟩]
       obtain ⟨a0, a1, a2, a3, a4, a5, rfl⟩ := nat6 h6
       exact dline_code wB w r vw vc vi g s x ws a0 a1 a2 a3 a4 a5 hB hm hv hok hs hps hl h1 h2 hc
     · rw [if_neg (fun h => h6 h.2), if_neg (by rw [hc]; decide), if_neg (by rw [hc]; rintro ⟨h, _⟩; exact absurd h (by decide)), if_neg (by rw [hc]; rintro ⟨h, _⟩; exact absurd h (by decide)), if_neg (by rw [hc]; rintro ⟨h, _⟩; exact absurd h (by decide))]
       exact dline_q wB w r vw vc vi g s x ws l hB hm hv hok hs hps hl h1 h2 h3 (.inl ⟨hc, h6⟩)
   rw [if_neg (fun h => hc h.1)]
   by_cases hi : x = insT
   · rw [if_pos hi]
     exact dline_ins wB w r vw vc vi g s x ws l hB hm hv hok hs hps hl h1 h2 hi
   rw [if_neg hi]
   by_cases hr : x = runT
   · by_cases h6 : l.length = 1
     · rw [if_pos ⟨hr, h6⟩]
       obtain ⟨a0, rfl⟩ := nat1 h6
       exact dline_run wB w r vw vc vi g s x ws a0 hB hm hv hok hs hps hl h1 h2 hr
     · rw [if_neg (fun h => h6 h.2), if_neg (by rw [hr]; rintro ⟨h, _⟩; exact absurd h (by decide)), if_neg (by rw [hr]; rintro ⟨h, _⟩; exact absurd h (by decide))]
       exact dline_q wB w r vw vc vi g s x ws l hB hm hv hok hs hps hl h1 h2 h3 (.inr (.inl ⟨hr, h6⟩))
   rw [if_neg (fun h => hr h.1)]
   by_cases ho : x = onT
   · by_cases h6 : l.length = 2
     · rw [if_pos ⟨ho, h6⟩]
       obtain ⟨a0, a1, rfl⟩ := nat2 h6
       exact dline_on wB w r vw vc vi g s x ws a0 a1 hB hm hv hok hs hps hl h1 h2 ho
     · rw [if_neg (fun h => h6 h.2), if_neg (by rw [ho]; rintro ⟨h, _⟩; exact absurd h (by decide))]
       exact dline_q wB w r vw vc vi g s x ws l hB hm hv hok hs hps hl h1 h2 h3 (.inr (.inr (.inl ⟨ho, h6⟩)))
   rw [if_neg (fun h => ho h.1)]
   by_cases hb : x = bytesT
   · by_cases h6 : l.length = 1
     · rw [if_pos ⟨hb, h6⟩]
       obtain ⟨a0, rfl⟩ := nat1 h6
       exact dline_bytes wB w r vw vc vi g s x ws a0 hB hm hv hok hs hps hl h1 h2 h3 hb
     · rw [if_neg (fun h => h6 h.2)]
       exact dline_q wB w r vw vc vi g s x ws l hB hm hv hok hs hps hl h1 h2 h3 (.inr (.inr (.inr (.inl ⟨hb, h6⟩))))
   rw [if_neg (fun h => hb h.1)]
   exact dline_q wB w r vw vc vi g s x ws l hB hm hv hok hs hps hl h1 h2 h3 (.inr (.inr (.inr (.inr ⟨hc, hi, hr, ho, hb⟩))))
theorem play_any (s : Tx) (hs : s.length < 4294967281) (w : World) (hv : Env w) :
   Calls Tryz.prog 7 #[.string (bA s)] w fun e w' => e = .returned (.string (bA (playF s))) ∧ Fr w w' := dplay_any dline_any s hs w hv
end Go.Proofs.YtodmkjeankbieaaGreatDoor


namespace Go.Proofs.YtodmkjeankbieaaGreatDoor
open Go.RowKit Go.Sort Go.Lib

theorem plm0k {w : World} {base : Nat} (hb : base ≤ w.heap.size) : PlM (w.alloc (.cells #[.slice none 0 0, .slice none 0 0, .slice none 0 0] 31)) base w.heap.size 31 (.slice none 0 0) (.slice none 0 0) (.slice none 0 0) ps0 :=
 ⟨plTyK, Blk.new w _ _, hb, World.ownsRow_nil _ _ _ _, World.ownsRow_nil _ _ _ _, World.ownsRow_nil _ _ _ _, (fun m hm => nomatch hm), (fun m hm => nomatch hm)⟩

set_option maxHeartbeats 12800000 in
set_option maxRecDepth 100000 in
theorem driveTells_any (s : Tx) (hs : s.length < 4294967281) (w : World) (hv : Env w) :
   Calls Tryz.prog 3 #[.string (bA s)] w fun e w' => e = .returned (.bool true) ∧ Fr w w' := by
 have HSP := Lib.hid (splitk_any s 10 (by omega) w)
 have HV := Lib.hid hv
 have hne : 0 < (partsL 10 s).length := List.length_pos_iff.2 (partsL_ne 10 s)
 have hlen := partsL_len 10 s
 have hlast : (partsL 10 s)[(partsL 10 s).length - 1]? = (partsL 10 s).getLast? := by rw [List.getLast?_eq_getElem?]
 obtain ⟨x, hx⟩ : ∃ x, (partsL 10 s).getLast? = some x := by
   cases h : (partsL 10 s).getLast? with
   | none => rw [List.getLast?_eq_none_iff] at h; exact absurd h (partsL_ne 10 s)
   | some x => exact ⟨x, rfl⟩
 have hi1 : ((partsL 10 s).length : Int) - 1 = (((partsL 10 s).length - 1 : Nat) : Int) := by omega
 have hi2 : (txs (partsL 10 s))[(partsL 10 s).length - 1]? = some (.string (bA x)) := by unfold txs; rw [List.getElem?_map, hlast, hx]; rfl
 clear hv hlast
 go_enter Tryz.func3, Tryz.ntmps3
 go_wp2_with fail
 refine HSP.out.mono ?_
 rintro e w1 ⟨v1, rfl, ho1, f1⟩
 obtain ⟨Aw, cw, rfl, _, hrw⟩ := own_reads ho1
 obtain ⟨bw, ow, rfl, _, hcw⟩ := hrw.2 hne
 obtain ⟨Aw2, cw2, ecap, hcap1, hcap2, _⟩ := own_cap ho1
 injection ecap with ea _ ecap
 subst ecap
 subst ea
 have HCW := Lib.hid hcw
 have HF1 := Lib.hid f1
 have HV1 := Lib.hid (HV.out.kept f1)
 have c0 := hcw _ _ hi2
 have zc := cell_lt c0
 clear f1 hrw hcw ho1 hi2
 by_cases hxe : x = []
 · subst hxe
   have hq : (bA []).toList.isEmpty = true := by rw [Lib.toList_data]; rfl
   have hL : linesF s = (partsL 10 s).dropLast := by unfold linesF; rw [if_pos hx]
   have hLl : (linesF s).length = (partsL 10 s).length - 1 := by rw [hL, List.length_dropLast]
   have hLk : ∀ k, k < (partsL 10 s).length - 1 → (linesF s)[k]? = (partsL 10 s)[k]? := fun k hk => by rw [hL, List.getElem?_dropLast, if_pos hk]
   by_cases h60 : (partsL 10 s).length - 1 ≤ 60
   · have hTk : (linesF s).take ((partsL 10 s).length - 1) = (linesF s).take 60 := by rw [List.take_of_length_le (by omega), List.take_of_length_le (by omega)]
     have HLN := Lib.hid (show ∀ k, k < ((partsL 10 s).length - 1) → ∃ y, (linesF s)[k]? = some y ∧ (partsL 10 s)[k]? = some y ∧ y.length < 4294967281 from fun k hk => by
       have hk2 : k < (linesF s).length := by rw [hLl]; omega
       have e1 : (linesF s)[k]? = (partsL 10 s)[k]? := hLk k (by omega)
       have hk3 : (linesF s)[k]? = some (linesF s)[k] := List.getElem?_eq_getElem hk2
       refine ⟨_, hk3, e1 ▸ hk3, ?_⟩
       have := parts_mem (List.mem_of_getElem? (e1 ▸ hk3))
       omega)
     have HEND := Lib.hid (show (playTo ((linesF s).take ((partsL 10 s).length - 1)) (ps0, [])).2 = playF s from by
       unfold playF
       rw [show (linesF s).take ((partsL 10 s).length - 1) = (linesF s).take 60 from hTk])
     have HPW := Lib.hid (show PlM (w1.alloc (.cells #[.slice none 0 0, .slice none 0 0, .slice none 0 0] 31)) w1.heap.size w1.heap.size 31 (.slice none 0 0) (.slice none 0 0) (.slice none 0 0) ps0 from plm0k (Nat.le_refl _))
     have HFW := Lib.hid (show Fr w1 (w1.alloc (.cells #[.slice none 0 0, .slice none 0 0, .slice none 0 0] 31)) from (Kept.refl _ _).alloc _)
     clear hLl hLk hTk hx hL
     go_wp2_with fail
     go_loopw [6, 5] (fun i ov wr => ∃ (k : Nat) (vw vc vi : Value), k ≤ ((partsL 10 s).length - 1) ∧ i = .int .i64 k ∧ ov = .string (bA (playTo ((linesF s).take k) (ps0, [])).2) ∧ Hid (PlM wr w1.heap.size w1.heap.size 31 vw vc vi (playTo ((linesF s).take k) (ps0, [])).1) ∧ Hid (Fr w1 wr)) (fun i _ _ => ((partsL 10 s).length - 1) - (intOf i).toNat)
     case atStart => exact ⟨0, _, _, _, by omega, rfl, rfl, HPW, HFW⟩
     case round =>
       obtain ⟨k, vw, vc, vi, hk, rfl, rfl, hp, hf⟩ := hrel
       by_cases hlt : k < ((partsL 10 s).length - 1)
       · obtain ⟨y, hy, hy2, hyl⟩ := HLN.out k hlt
         have d0 : wr.cell? ⟨bw, ow + k, none⟩ = some (.string (bA y)) := by
           have h0 := HCW.out k (.string (bA y)) (by unfold txs; rw [List.getElem?_map, hy2]; rfl)
           exact (Kept.cell hf.out (p := ⟨bw, ow + k, none⟩) (cell_lt h0) (fun h => h)).trans h0
         have hz := cell_lt d0
         have hall : ∀ z ∈ (linesF s).take k, z.length < 4294967296 := by
           intro z hz
           obtain ⟨j, hj, rfl⟩ := List.mem_iff_getElem.1 hz
           rw [List.length_take] at hj
           obtain ⟨y2, e2, _, e3⟩ := HLN.out j (by omega)
           rw [List.getElem_take]
           rw [List.getElem?_eq_getElem (by omega)] at e2
           injection e2 with e2
           rw [e2]; omega
         obtain ⟨hok, hol⟩ := playTo_ok ((linesF s).take k) (ps0, []) ps0_ok hall
         have hll := lineF_len (s := y) hok (by omega)
         rw [List.length_take] at hol
         have HTK : (linesF s).take (k + 1) = (linesF s).take k ++ [y] := by rw [List.take_add_one, hy]; rfl
         have HST := Lib.hid (show playTo ((linesF s).take (k + 1)) (ps0, []) = ((lineF (playTo ((linesF s).take k) (ps0, [])).1 y).1, (playTo ((linesF s).take k) (ps0, [])).2 ++ (lineF (playTo ((linesF s).take k) (ps0, [])).1 y).2 ++ [10]) from by rw [HTK]; exact playTo_snoc _ y _)
         clear HTK
         have HLC := Lib.hid (kline_any w1 wr w1.heap.size vw vc vi _ y hf.out hp.out hok hyl)
         have hs1 := bA_size (playTo ((linesF s).take k) (ps0, [])).2
         have hs2 := bA_size (lineF (playTo ((linesF s).take k) (ps0, [])).1 y).2
         have hbig1 : ¬ 9223372036854775807 < (bA (playTo ((linesF s).take k) (ps0, [])).2).size + (bA (lineF (playTo ((linesF s).take k) (ps0, [])).1 y).2).size := by rw [hs1, hs2]; simp only [List.length_nil] at hol; omega
         have hbig2 : ¬ 9223372036854775807 < (bA (playTo ((linesF s).take k) (ps0, [])).2).size + (bA (lineF (playTo ((linesF s).take k) (ps0, [])).1 y).2).size + 1 := by rw [hs1, hs2]; simp only [List.length_nil] at hol; omega
         have hlt1 : (k : Int) < (((partsL 10 s).length - 1 : Nat) : Int) := by omega
         have hlt60 : (k : Int) < 60 := by omega
         clear hs1 hs2 hol hll hok hall hy hy2 hyl
         go_wp2_with fail
         refine HLC.out.mono ?_
         rintro e w2 ⟨rfl, f2, vw2, vc2, vi2, hp2⟩
         have HP2 := Lib.hid hp2
         have HF2 := Lib.hid f2
         clear hp2 f2
         have HOU := Lib.hid (show bA (playTo ((linesF s).take (k + 1)) (ps0, [])).2 = bA (playTo ((linesF s).take k) (ps0, [])).2 ++ bA (lineF (playTo ((linesF s).take k) (ps0, [])).1 y).2 ++ ⟨#[10]⟩ from by rw [HST.out, bA_app, bA_app]; rfl)
         have HP3 := Lib.hid (show PlM w2 _ _ _ vw2 vc2 vi2 (playTo ((linesF s).take (k + 1)) (ps0, [])).1 from by rw [HST.out]; exact HP2.out)
         go_wp2
         go_roundw
         case rel => exact ⟨k + 1, vw2, vc2, vi2, by omega, by go_num, by rw [HOU.out], HP3, HF2⟩
         case measure => simp [intOf]; omega
       · obtain rfl : k = ((partsL 10 s).length - 1) := by omega
         have HPL := Lib.hid (play_any s hs wr (HV1.out.kept hf.out))
         rw [HEND.out]
         clear hlt
         go_wp2_with fail
         refine HPL.out.mono ?_
         rintro e w2 ⟨rfl, f2⟩
         have HF2 := Lib.hid (HF1.out.trans (hf.out.trans f2))
         clear f2
         go_wp2
         go_ret
         exact ⟨rfl, HF2.out⟩
   · have hTk : (linesF s).take 60 = (linesF s).take 60 := rfl
     have h60i : ((60 : Int) < (((partsL 10 s).length - 1 : Nat) : Int)) := by omega
     have HLN := Lib.hid (show ∀ k, k < 60 → ∃ y, (linesF s)[k]? = some y ∧ (partsL 10 s)[k]? = some y ∧ y.length < 4294967281 from fun k hk => by
       have hk2 : k < (linesF s).length := by rw [hLl]; omega
       have e1 : (linesF s)[k]? = (partsL 10 s)[k]? := hLk k (by omega)
       have hk3 : (linesF s)[k]? = some (linesF s)[k] := List.getElem?_eq_getElem hk2
       refine ⟨_, hk3, e1 ▸ hk3, ?_⟩
       have := parts_mem (List.mem_of_getElem? (e1 ▸ hk3))
       omega)
     have HEND := Lib.hid (show (playTo ((linesF s).take 60) (ps0, [])).2 = playF s from by
       unfold playF
       rw [show (linesF s).take 60 = (linesF s).take 60 from hTk])
     have HPW := Lib.hid (show PlM (w1.alloc (.cells #[.slice none 0 0, .slice none 0 0, .slice none 0 0] 31)) w1.heap.size w1.heap.size 31 (.slice none 0 0) (.slice none 0 0) (.slice none 0 0) ps0 from plm0k (Nat.le_refl _))
     have HFW := Lib.hid (show Fr w1 (w1.alloc (.cells #[.slice none 0 0, .slice none 0 0, .slice none 0 0] 31)) from (Kept.refl _ _).alloc _)
     clear hLl hLk hTk hx hL
     go_wp2_with fail
     go_loopw [6, 5] (fun i ov wr => ∃ (k : Nat) (vw vc vi : Value), k ≤ 60 ∧ i = .int .i64 k ∧ ov = .string (bA (playTo ((linesF s).take k) (ps0, [])).2) ∧ Hid (PlM wr w1.heap.size w1.heap.size 31 vw vc vi (playTo ((linesF s).take k) (ps0, [])).1) ∧ Hid (Fr w1 wr)) (fun i _ _ => 60 - (intOf i).toNat)
     case atStart => exact ⟨0, _, _, _, by omega, rfl, rfl, HPW, HFW⟩
     case round =>
       obtain ⟨k, vw, vc, vi, hk, rfl, rfl, hp, hf⟩ := hrel
       by_cases hlt : k < 60
       · obtain ⟨y, hy, hy2, hyl⟩ := HLN.out k hlt
         have d0 : wr.cell? ⟨bw, ow + k, none⟩ = some (.string (bA y)) := by
           have h0 := HCW.out k (.string (bA y)) (by unfold txs; rw [List.getElem?_map, hy2]; rfl)
           exact (Kept.cell hf.out (p := ⟨bw, ow + k, none⟩) (cell_lt h0) (fun h => h)).trans h0
         have hz := cell_lt d0
         have hall : ∀ z ∈ (linesF s).take k, z.length < 4294967296 := by
           intro z hz
           obtain ⟨j, hj, rfl⟩ := List.mem_iff_getElem.1 hz
           rw [List.length_take] at hj
           obtain ⟨y2, e2, _, e3⟩ := HLN.out j (by omega)
           rw [List.getElem_take]
           rw [List.getElem?_eq_getElem (by omega)] at e2
           injection e2 with e2
           rw [e2]; omega
         obtain ⟨hok, hol⟩ := playTo_ok ((linesF s).take k) (ps0, []) ps0_ok hall
         have hll := lineF_len (s := y) hok (by omega)
         rw [List.length_take] at hol
         have HTK : (linesF s).take (k + 1) = (linesF s).take k ++ [y] := by rw [List.take_add_one, hy]; rfl
         have HST := Lib.hid (show playTo ((linesF s).take (k + 1)) (ps0, []) = ((lineF (playTo ((linesF s).take k) (ps0, [])).1 y).1, (playTo ((linesF s).take k) (ps0, [])).2 ++ (lineF (playTo ((linesF s).take k) (ps0, [])).1 y).2 ++ [10]) from by rw [HTK]; exact playTo_snoc _ y _)
         clear HTK
         have HLC := Lib.hid (kline_any w1 wr w1.heap.size vw vc vi _ y hf.out hp.out hok hyl)
         have hs1 := bA_size (playTo ((linesF s).take k) (ps0, [])).2
         have hs2 := bA_size (lineF (playTo ((linesF s).take k) (ps0, [])).1 y).2
         have hbig1 : ¬ 9223372036854775807 < (bA (playTo ((linesF s).take k) (ps0, [])).2).size + (bA (lineF (playTo ((linesF s).take k) (ps0, [])).1 y).2).size := by rw [hs1, hs2]; simp only [List.length_nil] at hol; omega
         have hbig2 : ¬ 9223372036854775807 < (bA (playTo ((linesF s).take k) (ps0, [])).2).size + (bA (lineF (playTo ((linesF s).take k) (ps0, [])).1 y).2).size + 1 := by rw [hs1, hs2]; simp only [List.length_nil] at hol; omega
         have hlt1 : (k : Int) < (((partsL 10 s).length - 1 : Nat) : Int) := by omega
         have hlt60 : (k : Int) < 60 := by omega
         clear hs1 hs2 hol hll hok hall hy hy2 hyl
         go_wp2_with fail
         refine HLC.out.mono ?_
         rintro e w2 ⟨rfl, f2, vw2, vc2, vi2, hp2⟩
         have HP2 := Lib.hid hp2
         have HF2 := Lib.hid f2
         clear hp2 f2
         have HOU := Lib.hid (show bA (playTo ((linesF s).take (k + 1)) (ps0, [])).2 = bA (playTo ((linesF s).take k) (ps0, [])).2 ++ bA (lineF (playTo ((linesF s).take k) (ps0, [])).1 y).2 ++ ⟨#[10]⟩ from by rw [HST.out, bA_app, bA_app]; rfl)
         have HP3 := Lib.hid (show PlM w2 _ _ _ vw2 vc2 vi2 (playTo ((linesF s).take (k + 1)) (ps0, [])).1 from by rw [HST.out]; exact HP2.out)
         go_wp2
         go_roundw
         case rel => exact ⟨k + 1, vw2, vc2, vi2, by omega, by go_num, by rw [HOU.out], HP3, HF2⟩
         case measure => simp [intOf]; omega
       · obtain rfl : k = 60 := by omega
         have HPL := Lib.hid (play_any s hs wr (HV1.out.kept hf.out))
         rw [HEND.out]
         clear hlt
         go_wp2_with fail
         refine HPL.out.mono ?_
         rintro e w2 ⟨rfl, f2⟩
         have HF2 := Lib.hid (HF1.out.trans (hf.out.trans f2))
         clear f2
         go_wp2
         go_ret
         exact ⟨rfl, HF2.out⟩
 · have hq : (bA x).toList.isEmpty = false := by rw [Lib.toList_data, bA_data]; cases x with | nil => exact absurd rfl hxe | cons c l => rfl
   have hL : linesF s = partsL 10 s := by unfold linesF; rw [if_neg (by rw [hx]; simpa using hxe)]
   have hLl : (linesF s).length = (partsL 10 s).length := by rw [hL]
   have hLk : ∀ k, k < (partsL 10 s).length → (linesF s)[k]? = (partsL 10 s)[k]? := fun k hk => by rw [hL]
   by_cases h60 : (partsL 10 s).length ≤ 60
   · have hTk : (linesF s).take ((partsL 10 s).length) = (linesF s).take 60 := by rw [List.take_of_length_le (by omega), List.take_of_length_le (by omega)]
     have HLN := Lib.hid (show ∀ k, k < ((partsL 10 s).length) → ∃ y, (linesF s)[k]? = some y ∧ (partsL 10 s)[k]? = some y ∧ y.length < 4294967281 from fun k hk => by
       have hk2 : k < (linesF s).length := by rw [hLl]; omega
       have e1 : (linesF s)[k]? = (partsL 10 s)[k]? := hLk k (by omega)
       have hk3 : (linesF s)[k]? = some (linesF s)[k] := List.getElem?_eq_getElem hk2
       refine ⟨_, hk3, e1 ▸ hk3, ?_⟩
       have := parts_mem (List.mem_of_getElem? (e1 ▸ hk3))
       omega)
     have HEND := Lib.hid (show (playTo ((linesF s).take ((partsL 10 s).length)) (ps0, [])).2 = playF s from by
       unfold playF
       rw [show (linesF s).take ((partsL 10 s).length) = (linesF s).take 60 from hTk])
     have HPW := Lib.hid (show PlM (w1.alloc (.cells #[.slice none 0 0, .slice none 0 0, .slice none 0 0] 31)) w1.heap.size w1.heap.size 31 (.slice none 0 0) (.slice none 0 0) (.slice none 0 0) ps0 from plm0k (Nat.le_refl _))
     have HFW := Lib.hid (show Fr w1 (w1.alloc (.cells #[.slice none 0 0, .slice none 0 0, .slice none 0 0] 31)) from (Kept.refl _ _).alloc _)
     clear hLl hLk hTk hx hL
     go_wp2_with fail
     go_loopw [6, 5] (fun i ov wr => ∃ (k : Nat) (vw vc vi : Value), k ≤ ((partsL 10 s).length) ∧ i = .int .i64 k ∧ ov = .string (bA (playTo ((linesF s).take k) (ps0, [])).2) ∧ Hid (PlM wr w1.heap.size w1.heap.size 31 vw vc vi (playTo ((linesF s).take k) (ps0, [])).1) ∧ Hid (Fr w1 wr)) (fun i _ _ => ((partsL 10 s).length) - (intOf i).toNat)
     case atStart => exact ⟨0, _, _, _, by omega, rfl, rfl, HPW, HFW⟩
     case round =>
       obtain ⟨k, vw, vc, vi, hk, rfl, rfl, hp, hf⟩ := hrel
       by_cases hlt : k < ((partsL 10 s).length)
       · obtain ⟨y, hy, hy2, hyl⟩ := HLN.out k hlt
         have d0 : wr.cell? ⟨bw, ow + k, none⟩ = some (.string (bA y)) := by
           have h0 := HCW.out k (.string (bA y)) (by unfold txs; rw [List.getElem?_map, hy2]; rfl)
           exact (Kept.cell hf.out (p := ⟨bw, ow + k, none⟩) (cell_lt h0) (fun h => h)).trans h0
         have hz := cell_lt d0
         have hall : ∀ z ∈ (linesF s).take k, z.length < 4294967296 := by
           intro z hz
           obtain ⟨j, hj, rfl⟩ := List.mem_iff_getElem.1 hz
           rw [List.length_take] at hj
           obtain ⟨y2, e2, _, e3⟩ := HLN.out j (by omega)
           rw [List.getElem_take]
           rw [List.getElem?_eq_getElem (by omega)] at e2
           injection e2 with e2
           rw [e2]; omega
         obtain ⟨hok, hol⟩ := playTo_ok ((linesF s).take k) (ps0, []) ps0_ok hall
         have hll := lineF_len (s := y) hok (by omega)
         rw [List.length_take] at hol
         have HTK : (linesF s).take (k + 1) = (linesF s).take k ++ [y] := by rw [List.take_add_one, hy]; rfl
         have HST := Lib.hid (show playTo ((linesF s).take (k + 1)) (ps0, []) = ((lineF (playTo ((linesF s).take k) (ps0, [])).1 y).1, (playTo ((linesF s).take k) (ps0, [])).2 ++ (lineF (playTo ((linesF s).take k) (ps0, [])).1 y).2 ++ [10]) from by rw [HTK]; exact playTo_snoc _ y _)
         clear HTK
         have HLC := Lib.hid (kline_any w1 wr w1.heap.size vw vc vi _ y hf.out hp.out hok hyl)
         have hs1 := bA_size (playTo ((linesF s).take k) (ps0, [])).2
         have hs2 := bA_size (lineF (playTo ((linesF s).take k) (ps0, [])).1 y).2
         have hbig1 : ¬ 9223372036854775807 < (bA (playTo ((linesF s).take k) (ps0, [])).2).size + (bA (lineF (playTo ((linesF s).take k) (ps0, [])).1 y).2).size := by rw [hs1, hs2]; simp only [List.length_nil] at hol; omega
         have hbig2 : ¬ 9223372036854775807 < (bA (playTo ((linesF s).take k) (ps0, [])).2).size + (bA (lineF (playTo ((linesF s).take k) (ps0, [])).1 y).2).size + 1 := by rw [hs1, hs2]; simp only [List.length_nil] at hol; omega
         have hlt1 : (k : Int) < (((partsL 10 s).length : Nat) : Int) := by omega
         have hlt60 : (k : Int) < 60 := by omega
         clear hs1 hs2 hol hll hok hall hy hy2 hyl
         go_wp2_with fail
         refine HLC.out.mono ?_
         rintro e w2 ⟨rfl, f2, vw2, vc2, vi2, hp2⟩
         have HP2 := Lib.hid hp2
         have HF2 := Lib.hid f2
         clear hp2 f2
         have HOU := Lib.hid (show bA (playTo ((linesF s).take (k + 1)) (ps0, [])).2 = bA (playTo ((linesF s).take k) (ps0, [])).2 ++ bA (lineF (playTo ((linesF s).take k) (ps0, [])).1 y).2 ++ ⟨#[10]⟩ from by rw [HST.out, bA_app, bA_app]; rfl)
         have HP3 := Lib.hid (show PlM w2 _ _ _ vw2 vc2 vi2 (playTo ((linesF s).take (k + 1)) (ps0, [])).1 from by rw [HST.out]; exact HP2.out)
         go_wp2
         go_roundw
         case rel => exact ⟨k + 1, vw2, vc2, vi2, by omega, by go_num, by rw [HOU.out], HP3, HF2⟩
         case measure => simp [intOf]; omega
       · obtain rfl : k = ((partsL 10 s).length) := by omega
         have HPL := Lib.hid (play_any s hs wr (HV1.out.kept hf.out))
         rw [HEND.out]
         clear hlt
         go_wp2_with fail
         refine HPL.out.mono ?_
         rintro e w2 ⟨rfl, f2⟩
         have HF2 := Lib.hid (HF1.out.trans (hf.out.trans f2))
         clear f2
         go_wp2
         go_ret
         exact ⟨rfl, HF2.out⟩
   · have hTk : (linesF s).take 60 = (linesF s).take 60 := rfl
     have h60i : ((60 : Int) < (((partsL 10 s).length : Nat) : Int)) := by omega
     have HLN := Lib.hid (show ∀ k, k < 60 → ∃ y, (linesF s)[k]? = some y ∧ (partsL 10 s)[k]? = some y ∧ y.length < 4294967281 from fun k hk => by
       have hk2 : k < (linesF s).length := by rw [hLl]; omega
       have e1 : (linesF s)[k]? = (partsL 10 s)[k]? := hLk k (by omega)
       have hk3 : (linesF s)[k]? = some (linesF s)[k] := List.getElem?_eq_getElem hk2
       refine ⟨_, hk3, e1 ▸ hk3, ?_⟩
       have := parts_mem (List.mem_of_getElem? (e1 ▸ hk3))
       omega)
     have HEND := Lib.hid (show (playTo ((linesF s).take 60) (ps0, [])).2 = playF s from by
       unfold playF
       rw [show (linesF s).take 60 = (linesF s).take 60 from hTk])
     have HPW := Lib.hid (show PlM (w1.alloc (.cells #[.slice none 0 0, .slice none 0 0, .slice none 0 0] 31)) w1.heap.size w1.heap.size 31 (.slice none 0 0) (.slice none 0 0) (.slice none 0 0) ps0 from plm0k (Nat.le_refl _))
     have HFW := Lib.hid (show Fr w1 (w1.alloc (.cells #[.slice none 0 0, .slice none 0 0, .slice none 0 0] 31)) from (Kept.refl _ _).alloc _)
     clear hLl hLk hTk hx hL
     go_wp2_with fail
     go_loopw [6, 5] (fun i ov wr => ∃ (k : Nat) (vw vc vi : Value), k ≤ 60 ∧ i = .int .i64 k ∧ ov = .string (bA (playTo ((linesF s).take k) (ps0, [])).2) ∧ Hid (PlM wr w1.heap.size w1.heap.size 31 vw vc vi (playTo ((linesF s).take k) (ps0, [])).1) ∧ Hid (Fr w1 wr)) (fun i _ _ => 60 - (intOf i).toNat)
     case atStart => exact ⟨0, _, _, _, by omega, rfl, rfl, HPW, HFW⟩
     case round =>
       obtain ⟨k, vw, vc, vi, hk, rfl, rfl, hp, hf⟩ := hrel
       by_cases hlt : k < 60
       · obtain ⟨y, hy, hy2, hyl⟩ := HLN.out k hlt
         have d0 : wr.cell? ⟨bw, ow + k, none⟩ = some (.string (bA y)) := by
           have h0 := HCW.out k (.string (bA y)) (by unfold txs; rw [List.getElem?_map, hy2]; rfl)
           exact (Kept.cell hf.out (p := ⟨bw, ow + k, none⟩) (cell_lt h0) (fun h => h)).trans h0
         have hz := cell_lt d0
         have hall : ∀ z ∈ (linesF s).take k, z.length < 4294967296 := by
           intro z hz
           obtain ⟨j, hj, rfl⟩ := List.mem_iff_getElem.1 hz
           rw [List.length_take] at hj
           obtain ⟨y2, e2, _, e3⟩ := HLN.out j (by omega)
           rw [List.getElem_take]
           rw [List.getElem?_eq_getElem (by omega)] at e2
           injection e2 with e2
           rw [e2]; omega
         obtain ⟨hok, hol⟩ := playTo_ok ((linesF s).take k) (ps0, []) ps0_ok hall
         have hll := lineF_len (s := y) hok (by omega)
         rw [List.length_take] at hol
         have HTK : (linesF s).take (k + 1) = (linesF s).take k ++ [y] := by rw [List.take_add_one, hy]; rfl
         have HST := Lib.hid (show playTo ((linesF s).take (k + 1)) (ps0, []) = ((lineF (playTo ((linesF s).take k) (ps0, [])).1 y).1, (playTo ((linesF s).take k) (ps0, [])).2 ++ (lineF (playTo ((linesF s).take k) (ps0, [])).1 y).2 ++ [10]) from by rw [HTK]; exact playTo_snoc _ y _)
         clear HTK
         have HLC := Lib.hid (kline_any w1 wr w1.heap.size vw vc vi _ y hf.out hp.out hok hyl)
         have hs1 := bA_size (playTo ((linesF s).take k) (ps0, [])).2
         have hs2 := bA_size (lineF (playTo ((linesF s).take k) (ps0, [])).1 y).2
         have hbig1 : ¬ 9223372036854775807 < (bA (playTo ((linesF s).take k) (ps0, [])).2).size + (bA (lineF (playTo ((linesF s).take k) (ps0, [])).1 y).2).size := by rw [hs1, hs2]; simp only [List.length_nil] at hol; omega
         have hbig2 : ¬ 9223372036854775807 < (bA (playTo ((linesF s).take k) (ps0, [])).2).size + (bA (lineF (playTo ((linesF s).take k) (ps0, [])).1 y).2).size + 1 := by rw [hs1, hs2]; simp only [List.length_nil] at hol; omega
         have hlt1 : (k : Int) < (((partsL 10 s).length : Nat) : Int) := by omega
         have hlt60 : (k : Int) < 60 := by omega
         clear hs1 hs2 hol hll hok hall hy hy2 hyl
         go_wp2_with fail
         refine HLC.out.mono ?_
         rintro e w2 ⟨rfl, f2, vw2, vc2, vi2, hp2⟩
         have HP2 := Lib.hid hp2
         have HF2 := Lib.hid f2
         clear hp2 f2
         have HOU := Lib.hid (show bA (playTo ((linesF s).take (k + 1)) (ps0, [])).2 = bA (playTo ((linesF s).take k) (ps0, [])).2 ++ bA (lineF (playTo ((linesF s).take k) (ps0, [])).1 y).2 ++ ⟨#[10]⟩ from by rw [HST.out, bA_app, bA_app]; rfl)
         have HP3 := Lib.hid (show PlM w2 _ _ _ vw2 vc2 vi2 (playTo ((linesF s).take (k + 1)) (ps0, [])).1 from by rw [HST.out]; exact HP2.out)
         go_wp2
         go_roundw
         case rel => exact ⟨k + 1, vw2, vc2, vi2, by omega, by go_num, by rw [HOU.out], HP3, HF2⟩
         case measure => simp [intOf]; omega
       · obtain rfl : k = 60 := by omega
         have HPL := Lib.hid (play_any s hs wr (HV1.out.kept hf.out))
         rw [HEND.out]
         clear hlt
         go_wp2_with fail
         refine HPL.out.mono ?_
         rintro e w2 ⟨rfl, f2⟩
         have HF2 := Lib.hid (HF1.out.trans (hf.out.trans f2))
         clear f2
         go_wp2
         go_ret
         exact ⟨rfl, HF2.out⟩
set_option maxHeartbeats 12800000 in
set_option maxRecDepth 100000 in
theorem driveOn_any (a b : Tx) (ha : a.length < 2000000000) (hb : b.length < 2000000000) (w : World) (hv : Env w) :
   Calls Tryz.prog 4 #[.string (bA a), .string (bA b)] w fun e w' => e = .returned (.bool true) ∧ Fr w w' := by
 obtain ⟨t, ht⟩ := playF_on a b
 have hsa := bA_size a
 have hsb := bA_size b
 have hsab := bA_size (a ++ [10])
 rw [List.length_append, List.length_singleton] at hsab
 have h1 := play_any (a ++ [10]) (by rw [List.length_append, List.length_singleton]; omega) w hv
 have h2 := fun (w1 : World) (f : Fr w w1) => play_any (a ++ [10] ++ b) (by rw [List.length_append, List.length_append, List.length_singleton]; omega) w1 (hv.kept f)
 have h3 : ∀ w1, Fr w w1 → Calls Tryz.prog 7 #[.string ⟨#[63]⟩] w1 (fun e w' => e = .returned (.string ⟨#[63, 10]⟩) ∧ Fr w1 w') := fun w1 f => by
   have h := play_any [63] (by decide) w1 (hv.kept f)
   rw [playF_q] at h
   exact h
 have e1 : bA a ++ ⟨#[10]⟩ = bA (a ++ [10]) := by rw [bA_app]; rfl
 have e2 : bA (a ++ [10]) ++ bA b = bA (a ++ [10] ++ b) := by rw [bA_app (a ++ [10]) b]
 have hxt : (bA (playF (a ++ [10] ++ b))).extract 0 (bA (playF (a ++ [10]))).size = bA (playF (a ++ [10])) := by
   rw [bA_extract, bA_size, Nat.sub_zero, List.drop_zero, ← ht, List.take_left']
   rfl
 have hle : (bA (playF (a ++ [10]))).size ≤ (bA (playF (a ++ [10] ++ b))).size := by rw [bA_size, bA_size, ← ht, List.length_append]; omega
 generalize bA (playF (a ++ [10] ++ b)) = Q at *
 generalize bA (playF (a ++ [10])) = R at *
 generalize bA (a ++ [10] ++ b) = AB at *
 generalize bA (a ++ [10]) = A1 at *
 generalize bA a = A0 at *
 generalize bA b = B0 at *
 have hn1 : ¬ 9223372036854775807 < A0.size + 1 := by omega
 have hn2 : ¬ 9223372036854775807 < A1.size + B0.size := by omega
 have hle2 : (R.size : Int) ≤ (Q.size : Int) := by omega
 have H1 := Lib.hid h1
 have H2 := Lib.hid h2
 have H3 := Lib.hid h3
 clear h1 h2 h3 ht hsa hsb hsab ha hb hv
 go_enter Tryz.func4, Tryz.ntmps4
 go_wp2_with fail
 refine H1.out.mono ?_
 rintro e w1 ⟨rfl, f1⟩
 have F1 := Lib.hid f1
 have H2a := Lib.hid (H2.out w1 f1)
 clear f1 H1 H2
 go_wp2_with fail
 refine H2a.out.mono ?_
 rintro e w2 ⟨rfl, f2⟩
 have F2 := Lib.hid (F1.out.trans f2)
 have H3a := Lib.hid (H3.out w2 (F1.out.trans f2))
 clear f2 H2a H3 F1
 go_wp2_with fail
 refine H3a.out.mono ?_
 rintro e w3 ⟨rfl, f3⟩
 have F3 := Lib.hid (F2.out.trans f3)
 clear f3 H3a F2
 go_wp2
 go_ret
 exact ⟨rfl, F3.out⟩
end Go.Proofs.YtodmkjeankbieaaGreatDoor

