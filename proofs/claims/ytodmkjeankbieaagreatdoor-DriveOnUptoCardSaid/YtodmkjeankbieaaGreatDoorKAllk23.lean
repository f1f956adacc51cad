/- Texts of this claim, packed. -/
import Derived.Test.YtodmkjeankbieaaGreatDoorKAllk22
set_option linter.all false
namespace Go.Proofs.YtodmkjeankbieaaGreatDoor
open Go.RowKit Go.Sort Go.Lib

set_option maxHeartbeats 12800000 in
set_option maxRecDepth 100000 in
theorem kline_none (wB w : World) (r : Nat) (vw vc vi : Value) (g : PS) (s x : Tx) (ws : List Tx) (hB : Fr wB w) (hm : PlM w wB.heap.size r 31 vw vc vi g) (hok : PsOk g) (hs : s.length < 4294967281) (hps : partsL 32 s = x :: ws) (hl : numsF ws = none) :
   Calls Tryz.prog 6 #[.pointer (some ⟨r, 0, none⟩), .string (bA s)] w (LinePost wB r 31 (g, [63])) := by
 have HB := Lib.hid hB
 have HM := Lib.hid hm
 have hl0 := partsL_len 32 s
 rw [hps] at hl0
 simp only [List.length_cons] at hl0
 have hk1 := splitk_any s 32 (by omega) w
 rw [hps] at hk1
 simp only [List.length_cons] at hk1
 have HSP := Lib.hid hk1
 have hsw := hB.size
 have HL := Lib.hid hl
 clear hB hm hok hk1 hps hl
 go_enter Tryz.func6, Tryz.ntmps6
 go_wp2_with fail
 refine HSP.out.mono ?_
 rintro e w1 ⟨v1, rfl, ho1, f1⟩
 obtain ⟨Aw, cw, rfl, _, hrw⟩ := own_reads ho1
 obtain ⟨bw, ow, rfl, _, hcw⟩ := hrw.2 (by omega)
 have HCW := Lib.hid hcw
 have HF1 := Lib.hid (HB.out.trans f1)
 have HP1 := Lib.hid (HM.out.fr f1)
 have hsz1 := f1.size
 clear f1 hrw hcw ho1
 go_wp2_with fail
 go_loopw [6, 7] (fun lv iv wr => ∃ (j : Nat) (ns : List Nat), 1 ≤ j ∧ j ≤ ws.length + 1 ∧ iv = .int .i64 j ∧ Hid (numsF (ws.take (j - 1)) = some ns) ∧ Hid (wr.ownsRow w1.heap.size 35 1 lv ns.length (u32n ns)) ∧ Hid (Fr w1 wr)) (fun _ i _ => ws.length + 1 - (intOf i).toNat)
 case atStart => exact ⟨1, [], by omega, by omega, rfl, rfl, World.ownsRow_nil _ _ _ _, Kept.refl _ w1⟩
 case round =>
   obtain ⟨j, ns, hj1, hj2, rfl, hto, ho, hf⟩ := hrel
   have hsw1 := hf.out.size
   have hnl : ns.length = j - 1 := by have := numsF_len hto.out; rw [List.length_take] at this; omega
   by_cases hlt : j < ws.length + 1
   · have hy : ws[j - 1]? = some ws[j - 1] := List.getElem?_eq_getElem (by omega)
     generalize ws[j - 1] = y at *
     have d0 : wr.cell? ⟨bw, ow + j, none⟩ = some (.string (bA y)) := by
       have h0 := HCW.out j _ (txs_at hj1 hy)
       exact (Kept.cell hf.out (p := ⟨bw, ow + j, none⟩) (cell_lt h0) (fun h => h)).trans h0
     have hbz := cell_lt d0
     have HLL := Lib.hid hnl
     have HY := Lib.hid hy
     clear hy hnl
     cases hn : numF y with
     | some u =>
       have HN := Lib.hid (number_ok hn wr)
       have HTK := Lib.hid (show numsF (ws.take (j + 1 - 1)) = some (ns ++ [u]) from by
         rw [show j + 1 - 1 = (j - 1) + 1 by omega, List.take_add_one, HY.out]
         exact numsF_snoc hto.out hn)
       clear hn
       go_wp2_with fail
       refine HN.out.mono ?_
       rintro e w3 ⟨rfl, rfl⟩
       go_wp2_with (first
         | (at_builtin
            refine wpList_app (base := w1.heap.size) _ rfl slU32d (.tmp 46) (.tmp 48) rfl u6 _ _ rfl (World.ownsRow.alloc ho.out _) (fun _ => True) _ 1 1 [.int .u32 (u : Int)] rfl (Reads.lit' (by simp) trivial rfl) ?_ ?_ ?_ ?_ ?_
            · simp [Value.oneCell']
            · have := HLL.out; omega
            · have := HLL.out; unfold maxLen; omega
            · simp; omega
            intro v7 w7 hown7 hk7 _
            have HO7 := Lib.hid (show w7.ownsRow w1.heap.size 35 1 v7 (ns ++ [u]).length (u32n (ns ++ [u])) from by rw [List.length_append, List.length_singleton, u32n_snoc]; exact hown7)
            have HF7 := Lib.hid ((hf.out.alloc _).app (World.ownsRow.alloc ho.out _) hk7)
            clear hown7 hk7)
         | go_in)
       go_roundw
       case rel => exact ⟨j + 1, _, by omega, by omega, by go_num, HTK, HO7, HF7⟩
       case measure => simp [intOf]; omega
     | none =>
       have HN := Lib.hid (number_bad hn wr)
       clear hn
       go_wp2_with fail
       refine HN.out.mono ?_
       rintro e w3 ⟨x3, rfl, rfl⟩
       go_wp2
       go_ret
       exact ⟨rfl, HF1.out.trans hf.out, _, _, _, HP1.out.fr hf.out⟩
   · obtain rfl : j = ws.length + 1 := by omega
     have h5 := hto.out
     rw [Nat.add_sub_cancel, List.take_length, HL.out] at h5
     cases h5
set_option maxHeartbeats 12800000 in
set_option maxRecDepth 100000 in
theorem kline_narrow (wB w : World) (r : Nat) (vw vc vi : Value) (g : PS) (s x : Tx) (ws : List Tx) (l : List Nat) (hB : Fr wB w) (hm : PlM w wB.heap.size r 31 vw vc vi g) (hok : PsOk g) (hs : s.length < 4294967281) (hps : partsL 32 s = x :: ws) (hl : numsF ws = some l) (h : s = narrowT) :
   Calls Tryz.prog 6 #[.pointer (some ⟨r, 0, none⟩), .string (bA s)] w (LinePost wB r 31 (tempF g false)) := by
 have q1 : (bA s).toList = ([110, 97, 114, 114, 111, 119] : List UInt8) := tx_t (t := narrowT) h
 have q2 : ((bA s).toList == ([119, 105, 100, 101] : List UInt8)) = false := tx_f (t := wideT) (by rw [h]; decide)
 have q2n : ¬ (bA s).toList = ([119, 105, 100, 101] : List UInt8) := tx_n (t := wideT) (by rw [h]; decide)
 clear h
 have HB := Lib.hid hB
 have HM := Lib.hid hm
 have HOK := Lib.hid hok
 have hl0 := partsL_len 32 s
 rw [hps] at hl0
 simp only [List.length_cons] at hl0
 have hk1 := splitk_any s 32 (by omega) w
 rw [hps] at hk1
 simp only [List.length_cons] at hk1
 have HSP := Lib.hid hk1
 have hsw := hB.size
 have hlw : (l : List Nat).length = ws.length := numsF_len hl
 have HNL := Lib.hid (numsF_all hl)
 clear hB hm hok hk1 hps hl
 go_enter Tryz.func6, Tryz.ntmps6
 go_wp2_with fail
 refine HSP.out.mono ?_
 rintro e w1 ⟨v1, rfl, ho1, f1⟩
 obtain ⟨Aw, cw, rfl, _, hrw⟩ := own_reads ho1
 obtain ⟨bw, ow, rfl, _, hcw⟩ := hrw.2 (by omega)
 have HCW := Lib.hid hcw
 have HF1 := Lib.hid (HB.out.trans f1)
 have HP1 := Lib.hid (HM.out.fr f1)
 have hsz1 := f1.size
 have hc0 := hcw 0 (.string (bA x)) rfl
 rw [Nat.add_zero] at hc0
 have HC0 := Lib.hid hc0
 clear f1 hrw hcw ho1 hc0
 go_wp2_with fail
 go_loopw [6, 7] (fun lv iv wr => ∃ j : Nat, 1 ≤ j ∧ j ≤ ws.length + 1 ∧ iv = .int .i64 j ∧ Hid (wr.ownsRow w1.heap.size 35 1 lv ((l : List Nat).take (j - 1)).length (u32n ((l : List Nat).take (j - 1)))) ∧ Hid (Fr w1 wr)) (fun _ i _ => ws.length + 1 - (intOf i).toNat)
 case atStart => exact ⟨1, by omega, by omega, rfl, World.ownsRow_nil _ _ _ _, Kept.refl _ w1⟩
 case round =>
   obtain ⟨j, hj1, hj2, rfl, ho, hf⟩ := hrel
   have hsw1 := hf.out.size
   have hll : ((l : List Nat).take (j - 1)).length = j - 1 := by rw [List.length_take]; omega
   by_cases hlt : j < ws.length + 1
   · obtain ⟨y, u, hy, hu, hn, hu32⟩ := HNL.out (j - 1) (by omega)
     have d0 : wr.cell? ⟨bw, ow + j, none⟩ = some (.string (bA y)) := by
       have h0 := HCW.out j _ (txs_at hj1 hy)
       exact (Kept.cell hf.out (p := ⟨bw, ow + j, none⟩) (cell_lt h0) (fun h => h)).trans h0
     have hbz := cell_lt d0
     have HN := Lib.hid (number_ok hn wr)
     have HTK := Lib.hid (take_snoc' hj1 hu)
     have HLL := Lib.hid hll
     clear hy hu hn hll
     go_wp2_with fail
     refine HN.out.mono ?_
     rintro e w3 ⟨rfl, rfl⟩
     go_wp2_with (first
       | (at_builtin
          refine wpList_app (base := w1.heap.size) _ rfl slU32d (.tmp 46) (.tmp 48) rfl u6 _ _ rfl (World.ownsRow.alloc ho.out _) (fun _ => True) _ 1 1 [.int .u32 (u : Int)] rfl (Reads.lit' (by simp) trivial rfl) ?_ ?_ ?_ ?_ ?_
          · simp [Value.oneCell']
          · have := HLL.out; omega
          · have := HLL.out; unfold maxLen; omega
          · simp; omega
          intro v7 w7 hown7 hk7 _
          have HO7 := Lib.hid (show w7.ownsRow w1.heap.size 35 1 v7 ((l : List Nat).take (j + 1 - 1)).length (u32n ((l : List Nat).take (j + 1 - 1))) from by rw [HTK.out, List.length_append, List.length_singleton, u32n_snoc]; exact hown7)
          have HF7 := Lib.hid ((hf.out.alloc _).app (World.ownsRow.alloc ho.out _) hk7)
          clear hown7 hk7)
       | go_in)
     go_roundw
     case rel => exact ⟨j + 1, by omega, by omega, by go_num, HO7, HF7⟩
     case measure => simp [intOf]; omega
   · obtain rfl : j = ws.length + 1 := by omega
     have hta : (l : List Nat).take (ws.length + 1 - 1) = l := List.take_of_length_le (by omega)
     have hob := ho.out
     rw [hta] at hob
     have HO2 := Lib.hid (show wr.ownsRow wB.heap.size 35 1 u6 l.length (u32n l) from own_low hob (by omega))
     have HF2 := Lib.hid (HF1.out.trans hf.out)
     have HP2 := Lib.hid (HP1.out.fr hf.out)
     have c0 : wr.cell? ⟨bw, ow, none⟩ = some (.string (bA x)) := (Kept.cell hf.out (p := ⟨bw, ow, none⟩) (cell_lt HC0.out) (fun h => h)).trans HC0.out
     have z0 := cell_lt c0
     obtain ⟨A2, c2, rfl, _⟩ := own_reads HO2.out
     clear ho hf hob hta hll hj1 hj2 hlt hlw HNL HCW HC0
     obtain ⟨A1, c1, rfl, _, _, _⟩ := own_cap HP2.out.ow
     have hwl := HOK.out.1
     have p0 := HP2.out.blk.cell 0
     have zp := HP2.out.blk.lt
     simp only [List.getElem?_toArray, List.getElem?_cons_succ, List.getElem?_cons_zero] at p0
     have hsB := HF2.out.size
     clear c0
     by_cases h12 : 12 ≤ g.p.wide.length
     · have HE : Hid (tempF g false = (g, [63])) := by show _ = _; unfold tempF; rw [if_pos h12]
       go_wp2
       go_ret
       rw [HE.out]
       exact ⟨rfl, HF2.out, _, _, _, HP2.out⟩
     · have HE : Hid (tempF g false = (⟨⟨g.p.wide ++ [false], g.p.code⟩, g.ins⟩, saidF okT [g.p.wide.length + 1])) := by show _ = _; unfold tempF; rw [if_neg h12]
       go_wp2_with (first
         | (at_builtin
            refine wpList_app (base := wB.heap.size) _ rfl slBoolD (.tmp 70) (.tmp 73) rfl (.slice A1 g.p.wide.length c1) _ _ rfl (World.ownsRow.alloc HP2.out.ow _) (fun _ => True) _ 1 1 [.bool false] rfl (Reads.lit' (by simp) trivial rfl) ?_ ?_ ?_ ?_ ?_
            · simp [Value.oneCell']
            · omega
            · unfold maxLen; omega
            · simp; omega
            intro v7 w7 hown7 hk7 _
            have hk8 := (((Kept.refl (fun k => (Value.slice A1 g.p.wide.length c1).ownBlock = some k) wr).alloc (.cells #[.bool false] 4)).trans hk7)
            have HP7 := Lib.hid (HP2.out.putW hown7 hk8)
            have HF7 := Lib.hid ((HF2.out.alloc _).app (World.ownsRow.alloc HP2.out.ow _) hk7)
            have hb7 := HP2.out.blk.kept hk8 (own_blk_ne HP2.out.ow HP2.out.blk HP2.out.hty.1)
            have y7 := hb7.frozen 0
            have z7 := hb7.lt
            have p7 := hb7.cell 0
            simp only [List.getElem?_toArray, List.getElem?_cons_succ, List.getElem?_cons_zero] at p7
            have HF8 := Lib.hid (HF7.out.setCell (p := ⟨r, 0, none⟩) (fun h => absurd h (Nat.not_lt.2 HP2.out.hb)) v7)
            obtain ⟨A7, c7, rfl, _⟩ := own_reads hown7
            have HS := Lib.hid (said1x okT ⟨#[111, 107]⟩ rfl (g.p.wide.length + 1) ((g.p.wide.length : Int) + 1) (by omega) (by omega) (by decide) (w7.setCell ⟨r, 0, none⟩ (.slice A7 (g.p.wide.length + 1) c7)) w7.heap.size (by simp [World.setCell]))
            clear hown7 hk7 hk8 hb7)
         | fail)
       refine HS.out.mono ?_
       rintro e w9 ⟨rfl, f9⟩
       have HP9 := Lib.hid (HP7.out.fr f9)
       have HF9 := Lib.hid (HF8.out.trans f9)
       clear f9
       go_wp2
       go_ret
       rw [HE.out]
       exact ⟨rfl, HF9.out, _, _, _, HP9.out⟩
set_option maxHeartbeats 12800000 in
set_option maxRecDepth 100000 in
theorem kline_wide (wB w : World) (r : Nat) (vw vc vi : Value) (g : PS) (s x : Tx) (ws : List Tx) (l : List Nat) (hB : Fr wB w) (hm : PlM w wB.heap.size r 31 vw vc vi g) (hok : PsOk g) (hs : s.length < 4294967281) (hps : partsL 32 s = x :: ws) (hl : numsF ws = some l) (h : s = wideT) :
   Calls Tryz.prog 6 #[.pointer (some ⟨r, 0, none⟩), .string (bA s)] w (LinePost wB r 31 (tempF g true)) := by
 have q1 : ((bA s).toList == ([110, 97, 114, 114, 111, 119] : List UInt8)) = false := tx_f (t := narrowT) (by rw [h]; decide)
 have q1n : ¬ (bA s).toList = ([110, 97, 114, 114, 111, 119] : List UInt8) := tx_n (t := narrowT) (by rw [h]; decide)
 have q2 : (bA s).toList = ([119, 105, 100, 101] : List UInt8) := tx_t (t := wideT) h
 clear h
 have HB := Lib.hid hB
 have HM := Lib.hid hm
 have HOK := Lib.hid hok
 have hl0 := partsL_len 32 s
 rw [hps] at hl0
 simp only [List.length_cons] at hl0
 have hk1 := splitk_any s 32 (by omega) w
 rw [hps] at hk1
 simp only [List.length_cons] at hk1
 have HSP := Lib.hid hk1
 have hsw := hB.size
 have hlw : (l : List Nat).length = ws.length := numsF_len hl
 have HNL := Lib.hid (numsF_all hl)
 clear hB hm hok hk1 hps hl
 go_enter Tryz.func6, Tryz.ntmps6
 go_wp2_with fail
 refine HSP.out.mono ?_
 rintro e w1 ⟨v1, rfl, ho1, f1⟩
 obtain ⟨Aw, cw, rfl, _, hrw⟩ := own_reads ho1
 obtain ⟨bw, ow, rfl, _, hcw⟩ := hrw.2 (by omega)
 have HCW := Lib.hid hcw
 have HF1 := Lib.hid (HB.out.trans f1)
 have HP1 := Lib.hid (HM.out.fr f1)
 have hsz1 := f1.size
 have hc0 := hcw 0 (.string (bA x)) rfl
 rw [Nat.add_zero] at hc0
 have HC0 := Lib.hid hc0
 clear f1 hrw hcw ho1 hc0
 go_wp2_with fail
 go_loopw [6, 7] (fun lv iv wr => ∃ j : Nat, 1 ≤ j ∧ j ≤ ws.length + 1 ∧ iv = .int .i64 j ∧ Hid (wr.ownsRow w1.heap.size 35 1 lv ((l : List Nat).take (j - 1)).length (u32n ((l : List Nat).take (j - 1)))) ∧ Hid (Fr w1 wr)) (fun _ i _ => ws.length + 1 - (intOf i).toNat)
 case atStart => exact ⟨1, by omega, by omega, rfl, World.ownsRow_nil _ _ _ _, Kept.refl _ w1⟩
 case round =>
   obtain ⟨j, hj1, hj2, rfl, ho, hf⟩ := hrel
   have hsw1 := hf.out.size
   have hll : ((l : List Nat).take (j - 1)).length = j - 1 := by rw [List.length_take]; omega
   by_cases hlt : j < ws.length + 1
   · obtain ⟨y, u, hy, hu, hn, hu32⟩ := HNL.out (j - 1) (by omega)
     have d0 : wr.cell? ⟨bw, ow + j, none⟩ = some (.string (bA y)) := by
       have h0 := HCW.out j _ (txs_at hj1 hy)
       exact (Kept.cell hf.out (p := ⟨bw, ow + j, none⟩) (cell_lt h0) (fun h => h)).trans h0
     have hbz := cell_lt d0
     have HN := Lib.hid (number_ok hn wr)
     have HTK := Lib.hid (take_snoc' hj1 hu)
     have HLL := Lib.hid hll
     clear hy hu hn hll
     go_wp2_with fail
     refine HN.out.mono ?_
     rintro e w3 ⟨rfl, rfl⟩
     go_wp2_with (first
       | (at_builtin
          refine wpList_app (base := w1.heap.size) _ rfl slU32d (.tmp 46) (.tmp 48) rfl u6 _ _ rfl (World.ownsRow.alloc ho.out _) (fun _ => True) _ 1 1 [.int .u32 (u : Int)] rfl (Reads.lit' (by simp) trivial rfl) ?_ ?_ ?_ ?_ ?_
          · simp [Value.oneCell']
          · have := HLL.out; omega
          · have := HLL.out; unfold maxLen; omega
          · simp; omega
          intro v7 w7 hown7 hk7 _
          have HO7 := Lib.hid (show w7.ownsRow w1.heap.size 35 1 v7 ((l : List Nat).take (j + 1 - 1)).length (u32n ((l : List Nat).take (j + 1 - 1))) from by rw [HTK.out, List.length_append, List.length_singleton, u32n_snoc]; exact hown7)
          have HF7 := Lib.hid ((hf.out.alloc _).app (World.ownsRow.alloc ho.out _) hk7)
          clear hown7 hk7)
       | go_in)
     go_roundw
     case rel => exact ⟨j + 1, by omega, by omega, by go_num, HO7, HF7⟩
     case measure => simp [intOf]; omega
   · obtain rfl : j = ws.length + 1 := by omega
     have hta : (l : List Nat).take (ws.length + 1 - 1) = l := List.take_of_length_le (by omega)
     have hob := ho.out
     rw [hta] at hob
     have HO2 := Lib.hid (show wr.ownsRow wB.heap.size 35 1 u6 l.length (u32n l) from own_low hob (by omega))
     have HF2 := Lib.hid (HF1.out.trans hf.out)
     have HP2 := Lib.hid (HP1.out.fr hf.out)
     have c0 : wr.cell? ⟨bw, ow, none⟩ = some (.string (bA x)) := (Kept.cell hf.out (p := ⟨bw, ow, none⟩) (cell_lt HC0.out) (fun h => h)).trans HC0.out
     have z0 := cell_lt c0
     obtain ⟨A2, c2, rfl, _⟩ := own_reads HO2.out
     clear ho hf hob hta hll hj1 hj2 hlt hlw HNL HCW HC0
     obtain ⟨A1, c1, rfl, _, _, _⟩ := own_cap HP2.out.ow
     have hwl := HOK.out.1
     have p0 := HP2.out.blk.cell 0
     have zp := HP2.out.blk.lt
     simp only [List.getElem?_toArray, List.getElem?_cons_succ, List.getElem?_cons_zero] at p0
     have hsB := HF2.out.size
     clear c0
     by_cases h12 : 12 ≤ g.p.wide.length
     · have HE : Hid (tempF g true = (g, [63])) := by show _ = _; unfold tempF; rw [if_pos h12]
       go_wp2
       go_ret
       rw [HE.out]
       exact ⟨rfl, HF2.out, _, _, _, HP2.out⟩
     · have HE : Hid (tempF g true = (⟨⟨g.p.wide ++ [true], g.p.code⟩, g.ins⟩, saidF okT [g.p.wide.length + 1])) := by show _ = _; unfold tempF; rw [if_neg h12]
       go_wp2_with (first
         | (at_builtin
            refine wpList_app (base := wB.heap.size) _ rfl slBoolD (.tmp 70) (.tmp 73) rfl (.slice A1 g.p.wide.length c1) _ _ rfl (World.ownsRow.alloc HP2.out.ow _) (fun _ => True) _ 1 1 [.bool true] rfl (Reads.lit' (by simp) trivial rfl) ?_ ?_ ?_ ?_ ?_
            · simp [Value.oneCell']
            · omega
            · unfold maxLen; omega
            · simp; omega
            intro v7 w7 hown7 hk7 _
            have hk8 := (((Kept.refl (fun k => (Value.slice A1 g.p.wide.length c1).ownBlock = some k) wr).alloc (.cells #[.bool true] 4)).trans hk7)
            have HP7 := Lib.hid (HP2.out.putW hown7 hk8)
            have HF7 := Lib.hid ((HF2.out.alloc _).app (World.ownsRow.alloc HP2.out.ow _) hk7)
            have hb7 := HP2.out.blk.kept hk8 (own_blk_ne HP2.out.ow HP2.out.blk HP2.out.hty.1)
            have y7 := hb7.frozen 0
            have z7 := hb7.lt
            have p7 := hb7.cell 0
            simp only [List.getElem?_toArray, List.getElem?_cons_succ, List.getElem?_cons_zero] at p7
            have HF8 := Lib.hid (HF7.out.setCell (p := ⟨r, 0, none⟩) (fun h => absurd h (Nat.not_lt.2 HP2.out.hb)) v7)
            obtain ⟨A7, c7, rfl, _⟩ := own_reads hown7
            have HS := Lib.hid (said1x okT ⟨#[111, 107]⟩ rfl (g.p.wide.length + 1) ((g.p.wide.length : Int) + 1) (by omega) (by omega) (by decide) (w7.setCell ⟨r, 0, none⟩ (.slice A7 (g.p.wide.length + 1) c7)) w7.heap.size (by simp [World.setCell]))
            clear hown7 hk7 hk8 hb7)
         | fail)
       refine HS.out.mono ?_
       rintro e w9 ⟨rfl, f9⟩
       have HP9 := Lib.hid (HP7.out.fr f9)
       have HF9 := Lib.hid (HF8.out.trans f9)
       clear f9
       go_wp2
       go_ret
       rw [HE.out]
       exact ⟨rfl, HF9.out, _, _, _, HP9.out⟩
set_option maxHeartbeats 12800000 in
set_option maxRecDepth 100000 in
theorem kline_ins (wB w : World) (r : Nat) (vw vc vi : Value) (g : PS) (s x : Tx) (ws : List Tx) (l : List Nat) (hB : Fr wB w) (hm : PlM w wB.heap.size r 31 vw vc vi g) (hok : PsOk g) (hs : s.length < 4294967281) (hps : partsL 32 s = x :: ws) (hl : numsF ws = some l) (h1 : s ≠ narrowT) (h2 : s ≠ wideT) (h3 : s ≠ nearT) (hx : x = insT) :
   Calls Tryz.prog 6 #[.pointer (some ⟨r, 0, none⟩), .string (bA s)] w (LinePost wB r 31 (⟨g.p, l⟩, saidF okT [l.length])) := by
 have q1 : ((bA s).toList == ([110, 97, 114, 114, 111, 119] : List UInt8)) = false := tx_f (t := narrowT) h1
 have q1n : ¬ (bA s).toList = ([110, 97, 114, 114, 111, 119] : List UInt8) := tx_n (t := narrowT) h1
 have q2 : ((bA s).toList == ([119, 105, 100, 101] : List UInt8)) = false := tx_f (t := wideT) h2
 have q2n : ¬ (bA s).toList = ([119, 105, 100, 101] : List UInt8) := tx_n (t := wideT) h2
 have q3 : ((bA s).toList == ([110, 101, 97, 114] : List UInt8)) = false := tx_f (t := nearT) h3
 have q3n : ¬ (bA s).toList = ([110, 101, 97, 114] : List UInt8) := tx_n (t := nearT) h3
 have x0 : ((bA x).toList == ([99, 111, 100, 101] : List UInt8)) = false := tx_f (t := codeT) (by rw [hx]; decide)
 have x0n : ¬ (bA x).toList = ([99, 111, 100, 101] : List UInt8) := tx_n (t := codeT) (by rw [hx]; decide)
 have x1 : (bA x).toList = ([105, 110, 115] : List UInt8) := tx_t (t := insT) hx
 have x2 : ((bA x).toList == ([114, 117, 110] : List UInt8)) = false := tx_f (t := runT) (by rw [hx]; decide)
 have x2n : ¬ (bA x).toList = ([114, 117, 110] : List UInt8) := tx_n (t := runT) (by rw [hx]; decide)
 have x3 : ((bA x).toList == ([111, 110] : List UInt8)) = false := tx_f (t := onT) (by rw [hx]; decide)
 have x3n : ¬ (bA x).toList = ([111, 110] : List UInt8) := tx_n (t := onT) (by rw [hx]; decide)
 have x4 : ((bA x).toList == ([98, 121, 116, 101, 115] : List UInt8)) = false := tx_f (t := bytesT) (by rw [hx]; decide)
 have x4n : ¬ (bA x).toList = ([98, 121, 116, 101, 115] : List UInt8) := tx_n (t := bytesT) (by rw [hx]; decide)
 have HL := Lib.hid hl
 clear h1 h2 h3 hx
 have HB := Lib.hid hB
 have HM := Lib.hid hm
 have HOK := Lib.hid hok
 have hl0 := partsL_len 32 s
 rw [hps] at hl0
 simp only [List.length_cons] at hl0
 have hk1 := splitk_any s 32 (by omega) w
 rw [hps] at hk1
 simp only [List.length_cons] at hk1
 have HSP := Lib.hid hk1
 have hsw := hB.size
 have hlw : (l : List Nat).length = ws.length := numsF_len hl
 have HNL := Lib.hid (numsF_all hl)
 clear hB hm hok hk1 hps hl
 go_enter Tryz.func6, Tryz.ntmps6
 go_wp2_with fail
 refine HSP.out.mono ?_
 rintro e w1 ⟨v1, rfl, ho1, f1⟩
 obtain ⟨Aw, cw, rfl, _, hrw⟩ := own_reads ho1
 obtain ⟨bw, ow, rfl, _, hcw⟩ := hrw.2 (by omega)
 have HCW := Lib.hid hcw
 have HF1 := Lib.hid (HB.out.trans f1)
 have HP1 := Lib.hid (HM.out.fr f1)
 have hsz1 := f1.size
 have hc0 := hcw 0 (.string (bA x)) rfl
 rw [Nat.add_zero] at hc0
 have HC0 := Lib.hid hc0
 clear f1 hrw hcw ho1 hc0
 go_wp2_with fail
 go_loopw [6, 7] (fun lv iv wr => ∃ j : Nat, 1 ≤ j ∧ j ≤ ws.length + 1 ∧ iv = .int .i64 j ∧ Hid (wr.ownsRow w1.heap.size 35 1 lv ((l : List Nat).take (j - 1)).length (u32n ((l : List Nat).take (j - 1)))) ∧ Hid (Fr w1 wr)) (fun _ i _ => ws.length + 1 - (intOf i).toNat)
 case atStart => exact ⟨1, by omega, by omega, rfl, World.ownsRow_nil _ _ _ _, Kept.refl _ w1⟩
 case round =>
   obtain ⟨j, hj1, hj2, rfl, ho, hf⟩ := hrel
   have hsw1 := hf.out.size
   have hll : ((l : List Nat).take (j - 1)).length = j - 1 := by rw [List.length_take]; omega
   by_cases hlt : j < ws.length + 1
   · obtain ⟨y, u, hy, hu, hn, hu32⟩ := HNL.out (j - 1) (by omega)
     have d0 : wr.cell? ⟨bw, ow + j, none⟩ = some (.string (bA y)) := by
       have h0 := HCW.out j _ (txs_at hj1 hy)
       exact (Kept.cell hf.out (p := ⟨bw, ow + j, none⟩) (cell_lt h0) (fun h => h)).trans h0
     have hbz := cell_lt d0
     have HN := Lib.hid (number_ok hn wr)
     have HTK := Lib.hid (take_snoc' hj1 hu)
     have HLL := Lib.hid hll
     clear hy hu hn hll
     go_wp2_with fail
     refine HN.out.mono ?_
     rintro e w3 ⟨rfl, rfl⟩
     go_wp2_with (first
       | (at_builtin
          refine wpList_app (base := w1.heap.size) _ rfl slU32d (.tmp 46) (.tmp 48) rfl u6 _ _ rfl (World.ownsRow.alloc ho.out _) (fun _ => True) _ 1 1 [.int .u32 (u : Int)] rfl (Reads.lit' (by simp) trivial rfl) ?_ ?_ ?_ ?_ ?_
          · simp [Value.oneCell']
          · have := HLL.out; omega
          · have := HLL.out; unfold maxLen; omega
          · simp; omega
          intro v7 w7 hown7 hk7 _
          have HO7 := Lib.hid (show w7.ownsRow w1.heap.size 35 1 v7 ((l : List Nat).take (j + 1 - 1)).length (u32n ((l : List Nat).take (j + 1 - 1))) from by rw [HTK.out, List.length_append, List.length_singleton, u32n_snoc]; exact hown7)
          have HF7 := Lib.hid ((hf.out.alloc _).app (World.ownsRow.alloc ho.out _) hk7)
          clear hown7 hk7)
       | go_in)
     go_roundw
     case rel => exact ⟨j + 1, by omega, by omega, by go_num, HO7, HF7⟩
     case measure => simp [intOf]; omega
   · obtain rfl : j = ws.length + 1 := by omega
     have hta : (l : List Nat).take (ws.length + 1 - 1) = l := List.take_of_length_le (by omega)
     have hob := ho.out
     rw [hta] at hob
     have HO2 := Lib.hid (show wr.ownsRow wB.heap.size 35 1 u6 l.length (u32n l) from own_low hob (by omega))
     have HF2 := Lib.hid (HF1.out.trans hf.out)
     have HP2 := Lib.hid (HP1.out.fr hf.out)
     have c0 : wr.cell? ⟨bw, ow, none⟩ = some (.string (bA x)) := (Kept.cell hf.out (p := ⟨bw, ow, none⟩) (cell_lt HC0.out) (fun h => h)).trans HC0.out
     have z0 := cell_lt c0
     obtain ⟨A2, c2, rfl, _⟩ := own_reads HO2.out
     clear ho hf hob hta hll hj1 hj2 hlt hlw HNL HCW HC0
     have p2 := HP2.out.blk.cell 2
     have z2 := HP2.out.blk.lt
     have y2 := HP2.out.blk.frozen 2
     simp only [List.getElem?_toArray, List.getElem?_cons_succ, List.getElem?_cons_zero] at p2
     have HP3 := Lib.hid (HP2.out.putI HO2.out (numsF_lt HL.out))
     have HF3 := Lib.hid (HF2.out.setCell (p := ⟨r, 2, none⟩) (fun h => absurd h (Nat.not_lt.2 HP2.out.hb)) (.slice A2 l.length c2))
     have hll := numsF_len HL.out
     have HS := Lib.hid (said1x okT ⟨#[111, 107]⟩ rfl l.length (l.length : Int) rfl (by omega) (by decide) (wr.setCell ⟨r, 2, none⟩ (.slice A2 l.length c2)) wr.heap.size (by simp [World.setCell]))
     clear hll
     go_wp2_with fail
     refine HS.out.mono ?_
     rintro e w4 ⟨rfl, f4⟩
     have HF4 := Lib.hid (HF3.out.trans f4)
     have HP4 := Lib.hid (HP3.out.fr f4)
     clear f4
     go_wp2
     go_ret
     exact ⟨rfl, HF4.out, _, _, _, HP4.out⟩
set_option maxHeartbeats 12800000 in
set_option maxRecDepth 100000 in
theorem kline_q (wB w : World) (r : Nat) (vw vc vi : Value) (g : PS) (s x : Tx) (ws : List Tx) (l : List Nat) (hB : Fr wB w) (hm : PlM w wB.heap.size r 31 vw vc vi g) (hok : PsOk g) (hs : s.length < 4294967281) (hps : partsL 32 s = x :: ws) (hl : numsF ws = some l) (h1 : s ≠ narrowT) (h2 : s ≠ wideT) (h3 : s ≠ nearT) (hq : (x = codeT ∧ l.length ≠ 6) ∨ (x = runT ∧ l.length ≠ 1) ∨ (x = onT ∧ l.length ≠ 2) ∨ (x = bytesT ∧ l.length ≠ 1) ∨ (x ≠ codeT ∧ x ≠ insT ∧ x ≠ runT ∧ x ≠ onT ∧ x ≠ bytesT)) :
   Calls Tryz.prog 6 #[.pointer (some ⟨r, 0, none⟩), .string (bA s)] w (LinePost wB r 31 (g, [63])) := by
 have q1 : ((bA s).toList == ([110, 97, 114, 114, 111, 119] : List UInt8)) = false := tx_f (t := narrowT) h1
 have q1n : ¬ (bA s).toList = ([110, 97, 114, 114, 111, 119] : List UInt8) := tx_n (t := narrowT) h1
 have q2 : ((bA s).toList == ([119, 105, 100, 101] : List UInt8)) = false := tx_f (t := wideT) h2
 have q2n : ¬ (bA s).toList = ([119, 105, 100, 101] : List UInt8) := tx_n (t := wideT) h2
 have q3 : ((bA s).toList == ([110, 101, 97, 114] : List UInt8)) = false := tx_f (t := nearT) h3
 have q3n : ¬ (bA s).toList = ([110, 101, 97, 114] : List UInt8) := tx_n (t := nearT) h3
 have HQ := Lib.hid hq
 clear h1 h2 h3 hq
 have HB := Lib.hid hB
 have HM := Lib.hid hm
 have HOK := Lib.hid hok
 have hl0 := partsL_len 32 s
 rw [hps] at hl0
 simp only [List.length_cons] at hl0
 have hk1 := splitk_any s 32 (by omega) w
 rw [hps] at hk1
 simp only [List.length_cons] at hk1
 have HSP := Lib.hid hk1
 have hsw := hB.size
 have hlw : (l : List Nat).length = ws.length := numsF_len hl
 have HNL := Lib.hid (numsF_all hl)
 clear hB hm hok hk1 hps hl
 go_enter Tryz.func6, Tryz.ntmps6
 go_wp2_with fail
 refine HSP.out.mono ?_
 rintro e w1 ⟨v1, rfl, ho1, f1⟩
 obtain ⟨Aw, cw, rfl, _, hrw⟩ := own_reads ho1
 obtain ⟨bw, ow, rfl, _, hcw⟩ := hrw.2 (by omega)
 have HCW := Lib.hid hcw
 have HF1 := Lib.hid (HB.out.trans f1)
 have HP1 := Lib.hid (HM.out.fr f1)
 have hsz1 := f1.size
 have hc0 := hcw 0 (.string (bA x)) rfl
 rw [Nat.add_zero] at hc0
 have HC0 := Lib.hid hc0
 clear f1 hrw hcw ho1 hc0
 go_wp2_with fail
 go_loopw [6, 7] (fun lv iv wr => ∃ j : Nat, 1 ≤ j ∧ j ≤ ws.length + 1 ∧ iv = .int .i64 j ∧ Hid (wr.ownsRow w1.heap.size 35 1 lv ((l : List Nat).take (j - 1)).length (u32n ((l : List Nat).take (j - 1)))) ∧ Hid (Fr w1 wr)) (fun _ i _ => ws.length + 1 - (intOf i).toNat)
 case atStart => exact ⟨1, by omega, by omega, rfl, World.ownsRow_nil _ _ _ _, Kept.refl _ w1⟩
 case round =>
   obtain ⟨j, hj1, hj2, rfl, ho, hf⟩ := hrel
   have hsw1 := hf.out.size
   have hll : ((l : List Nat).take (j - 1)).length = j - 1 := by rw [List.length_take]; omega
   by_cases hlt : j < ws.length + 1
   · obtain ⟨y, u, hy, hu, hn, hu32⟩ := HNL.out (j - 1) (by omega)
     have d0 : wr.cell? ⟨bw, ow + j, none⟩ = some (.string (bA y)) := by
       have h0 := HCW.out j _ (txs_at hj1 hy)
       exact (Kept.cell hf.out (p := ⟨bw, ow + j, none⟩) (cell_lt h0) (fun h => h)).trans h0
     have hbz := cell_lt d0
     have HN := Lib.hid (number_ok hn wr)
     have HTK := Lib.hid (take_snoc' hj1 hu)
     have HLL := Lib.hid hll
     clear hy hu hn hll
     go_wp2_with fail
     refine HN.out.mono ?_
     rintro e w3 ⟨rfl, rfl⟩
     go_wp2_with (first
       | (at_builtin
          refine wpList_app (base := w1.heap.size) _ rfl slU32d (.tmp 46) (.tmp 48) rfl u6 _ _ rfl (World.ownsRow.alloc ho.out _) (fun _ => True) _ 1 1 [.int .u32 (u : Int)] rfl (Reads.lit' (by simp) trivial rfl) ?_ ?_ ?_ ?_ ?_
          · simp [Value.oneCell']
          · have := HLL.out; omega
          · have := HLL.out; unfold maxLen; omega
          · simp; omega
          intro v7 w7 hown7 hk7 _
          have HO7 := Lib.hid (show w7.ownsRow w1.heap.size 35 1 v7 ((l : List Nat).take (j + 1 - 1)).length (u32n ((l : List Nat).take (j + 1 - 1))) from by rw [HTK.out, List.length_append, List.length_singleton, u32n_snoc]; exact hown7)
          have HF7 := Lib.hid ((hf.out.alloc _).app (World.ownsRow.alloc ho.out _) hk7)
          clear hown7 hk7)
       | go_in)
     go_roundw
     case rel => exact ⟨j + 1, by omega, by omega, by go_num, HO7, HF7⟩
     case measure => simp [intOf]; omega
   · obtain rfl : j = ws.length + 1 := by omega
     have hta : (l : List Nat).take (ws.length + 1 - 1) = l := List.take_of_length_le (by omega)
     have hob := ho.out
     rw [hta] at hob
     have HO2 := Lib.hid (show wr.ownsRow wB.heap.size 35 1 u6 l.length (u32n l) from own_low hob (by omega))
     have HF2 := Lib.hid (HF1.out.trans hf.out)
     have HP2 := Lib.hid (HP1.out.fr hf.out)
     have c0 : wr.cell? ⟨bw, ow, none⟩ = some (.string (bA x)) := (Kept.cell hf.out (p := ⟨bw, ow, none⟩) (cell_lt HC0.out) (fun h => h)).trans HC0.out
     have z0 := cell_lt c0
     obtain ⟨A2, c2, rfl, _⟩ := own_reads HO2.out
     clear ho hf hob hta hll hj1 hj2 hlt hlw HNL HCW HC0
     rcases HQ.out with ⟨hx, hn⟩ | ⟨hx, hn⟩ | ⟨hx, hn⟩ | ⟨hx, hn⟩ | hx
     · have x0 : (bA x).toList = ([99, 111, 100, 101] : List UInt8) := tx_t (t := codeT) hx
       have x1 : ((bA x).toList == ([105, 110, 115] : List UInt8)) = false := tx_f (t := insT) (by rw [hx]; decide)
       have x1n : ¬ (bA x).toList = ([105, 110, 115] : List UInt8) := tx_n (t := insT) (by rw [hx]; decide)
       have x2 : ((bA x).toList == ([114, 117, 110] : List UInt8)) = false := tx_f (t := runT) (by rw [hx]; decide)
       have x2n : ¬ (bA x).toList = ([114, 117, 110] : List UInt8) := tx_n (t := runT) (by rw [hx]; decide)
       have x3 : ((bA x).toList == ([111, 110] : List UInt8)) = false := tx_f (t := onT) (by rw [hx]; decide)
       have x3n : ¬ (bA x).toList = ([111, 110] : List UInt8) := tx_n (t := onT) (by rw [hx]; decide)
       have x4 : ((bA x).toList == ([98, 121, 116, 101, 115] : List UInt8)) = false := tx_f (t := bytesT) (by rw [hx]; decide)
       have x4n : ¬ (bA x).toList = ([98, 121, 116, 101, 115] : List UInt8) := tx_n (t := bytesT) (by rw [hx]; decide)
       have hn2 : ((l.length : Int) == 6) = false := beq_false_of_ne (by omega)
       clear hx hn
       go_wp2
       go_ret
       exact ⟨rfl, HF2.out, _, _, _, HP2.out⟩
     · have x0 : ((bA x).toList == ([99, 111, 100, 101] : List UInt8)) = false := tx_f (t := codeT) (by rw [hx]; decide)
       have x0n : ¬ (bA x).toList = ([99, 111, 100, 101] : List UInt8) := tx_n (t := codeT) (by rw [hx]; decide)
       have x1 : ((bA x).toList == ([105, 110, 115] : List UInt8)) = false := tx_f (t := insT) (by rw [hx]; decide)
       have x1n : ¬ (bA x).toList = ([105, 110, 115] : List UInt8) := tx_n (t := insT) (by rw [hx]; decide)
       have x2 : (bA x).toList = ([114, 117, 110] : List UInt8) := tx_t (t := runT) hx
       have x3 : ((bA x).toList == ([111, 110] : List UInt8)) = false := tx_f (t := onT) (by rw [hx]; decide)
       have x3n : ¬ (bA x).toList = ([111, 110] : List UInt8) := tx_n (t := onT) (by rw [hx]; decide)
       have x4 : ((bA x).toList == ([98, 121, 116, 101, 115] : List UInt8)) = false := tx_f (t := bytesT) (by rw [hx]; decide)
       have x4n : ¬ (bA x).toList = ([98, 121, 116, 101, 115] : List UInt8) := tx_n (t := bytesT) (by rw [hx]; decide)
       have hn2 : ((l.length : Int) == 1) = false := beq_false_of_ne (by omega)
       clear hx hn
       go_wp2
       go_ret
       exact ⟨rfl, HF2.out, _, _, _, HP2.out⟩
     · have x0 : ((bA x).toList == ([99, 111, 100, 101] : List UInt8)) = false := tx_f (t := codeT) (by rw [hx]; decide)
       have x0n : ¬ (bA x).toList = ([99, 111, 100, 101] : List UInt8) := tx_n (t := codeT) (by rw [hx]; decide)
       have x1 : ((bA x).toList == ([105, 110, 115] : List UInt8)) = false := tx_f (t := insT) (by rw [hx]; decide)
       have x1n : ¬ (bA x).toList = ([105, 110, 115] : List UInt8) := tx_n (t := insT) (by rw [hx]; decide)
       have x2 : ((bA x).toList == ([114, 117, 110] : List UInt8)) = false := tx_f (t := runT) (by rw [hx]; decide)
       have x2n : ¬ (bA x).toList = ([114, 117, 110] : List UInt8) := tx_n (t := runT) (by rw [hx]; decide)
       have x3 : (bA x).toList = ([111, 110] : List UInt8) := tx_t (t := onT) hx
       have x4 : ((bA x).toList == ([98, 121, 116, 101, 115] : List UInt8)) = false := tx_f (t := bytesT) (by rw [hx]; decide)
       have x4n : ¬ (bA x).toList = ([98, 121, 116, 101, 115] : List UInt8) := tx_n (t := bytesT) (by rw [hx]; decide)
       have hn2 : ((l.length : Int) == 2) = false := beq_false_of_ne (by omega)
       clear hx hn
       go_wp2
       go_ret
       exact ⟨rfl, HF2.out, _, _, _, HP2.out⟩
     · have x0 : ((bA x).toList == ([99, 111, 100, 101] : List UInt8)) = false := tx_f (t := codeT) (by rw [hx]; decide)
       have x0n : ¬ (bA x).toList = ([99, 111, 100, 101] : List UInt8) := tx_n (t := codeT) (by rw [hx]; decide)
       have x1 : ((bA x).toList == ([105, 110, 115] : List UInt8)) = false := tx_f (t := insT) (by rw [hx]; decide)
       have x1n : ¬ (bA x).toList = ([105, 110, 115] : List UInt8) := tx_n (t := insT) (by rw [hx]; decide)
       have x2 : ((bA x).toList == ([114, 117, 110] : List UInt8)) = false := tx_f (t := runT) (by rw [hx]; decide)
       have x2n : ¬ (bA x).toList = ([114, 117, 110] : List UInt8) := tx_n (t := runT) (by rw [hx]; decide)
       have x3 : ((bA x).toList == ([111, 110] : List UInt8)) = false := tx_f (t := onT) (by rw [hx]; decide)
       have x3n : ¬ (bA x).toList = ([111, 110] : List UInt8) := tx_n (t := onT) (by rw [hx]; decide)
       have x4 : (bA x).toList = ([98, 121, 116, 101, 115] : List UInt8) := tx_t (t := bytesT) hx
       have hn2 : ((l.length : Int) == 1) = false := beq_false_of_ne (by omega)
       clear hx hn
       go_wp2
       go_ret
       exact ⟨rfl, HF2.out, _, _, _, HP2.out⟩
     · have x0 : ((bA x).toList == ([99, 111, 100, 101] : List UInt8)) = false := tx_f (t := codeT) hx.1
       have x0n : ¬ (bA x).toList = ([99, 111, 100, 101] : List UInt8) := tx_n (t := codeT) hx.1
       have x1 : ((bA x).toList == ([105, 110, 115] : List UInt8)) = false := tx_f (t := insT) hx.2.1
       have x1n : ¬ (bA x).toList = ([105, 110, 115] : List UInt8) := tx_n (t := insT) hx.2.1
       have x2 : ((bA x).toList == ([114, 117, 110] : List UInt8)) = false := tx_f (t := runT) hx.2.2.1
       have x2n : ¬ (bA x).toList = ([114, 117, 110] : List UInt8) := tx_n (t := runT) hx.2.2.1
       have x3 : ((bA x).toList == ([111, 110] : List UInt8)) = false := tx_f (t := onT) hx.2.2.2.1
       have x3n : ¬ (bA x).toList = ([111, 110] : List UInt8) := tx_n (t := onT) hx.2.2.2.1
       have x4 : ((bA x).toList == ([98, 121, 116, 101, 115] : List UInt8)) = false := tx_f (t := bytesT) hx.2.2.2.2
       have x4n : ¬ (bA x).toList = ([98, 121, 116, 101, 115] : List UInt8) := tx_n (t := bytesT) hx.2.2.2.2
       clear hx
       go_wp2
       go_ret
       exact ⟨rfl, HF2.out, _, _, _, HP2.out⟩
end Go.Proofs.YtodmkjeankbieaaGreatDoor


namespace Go.Proofs.YtodmkjeankbieaaGreatDoor
open Go.RowKit Go.Sort Go.Lib

set_option maxHeartbeats 12800000 in
set_option maxRecDepth 100000 in
theorem kline_near (wB w : World) (r : Nat) (vw vc vi : Value) (g : PS) (s x : Tx) (ws : List Tx) (l : List Nat) (hB : Fr wB w) (hm : PlM w wB.heap.size r 31 vw vc vi g) (hok : PsOk g) (hs : s.length < 4294967281) (hps : partsL 32 s = x :: ws) (hl : numsF ws = some l) (h3 : s = nearT) :
   Calls Tryz.prog 6 #[.pointer (some ⟨r, 0, none⟩), .string (bA s)] w (LinePost wB r 31 (g, nearF g)) := by
 have q1 : ((bA s).toList == ([110, 97, 114, 114, 111, 119] : List UInt8)) = false := tx_f (t := narrowT) (by rw [h3]; decide)
 have q1n : ¬ (bA s).toList = ([110, 97, 114, 114, 111, 119] : List UInt8) := tx_n (t := narrowT) (by rw [h3]; decide)
 have q2 : ((bA s).toList == ([119, 105, 100, 101] : List UInt8)) = false := tx_f (t := wideT) (by rw [h3]; decide)
 have q2n : ¬ (bA s).toList = ([119, 105, 100, 101] : List UInt8) := tx_n (t := wideT) (by rw [h3]; decide)
 have q3 : (bA s).toList = ([110, 101, 97, 114] : List UInt8) := tx_t (t := nearT) h3
 clear h3
 have HB := Lib.hid hB
 have HM := Lib.hid hm
 have HOK := Lib.hid hok
 have hl0 := partsL_len 32 s
 rw [hps] at hl0
 simp only [List.length_cons] at hl0
 have hk1 := splitk_any s 32 (by omega) w
 rw [hps] at hk1
 simp only [List.length_cons] at hk1
 have HSP := Lib.hid hk1
 have hsw := hB.size
 have hlw : (l : List Nat).length = ws.length := numsF_len hl
 have HNL := Lib.hid (numsF_all hl)
 clear hB hm hok hk1 hps hl
 go_enter Tryz.func6, Tryz.ntmps6
 go_wp2_with fail
 refine HSP.out.mono ?_
 rintro e w1 ⟨v1, rfl, ho1, f1⟩
 obtain ⟨Aw, cw, rfl, _, hrw⟩ := own_reads ho1
 obtain ⟨bw, ow, rfl, _, hcw⟩ := hrw.2 (by omega)
 have HCW := Lib.hid hcw
 have HF1 := Lib.hid (HB.out.trans f1)
 have HP1 := Lib.hid (HM.out.fr f1)
 have hsz1 := f1.size
 have hc0 := hcw 0 (.string (bA x)) rfl
 rw [Nat.add_zero] at hc0
 have HC0 := Lib.hid hc0
 clear f1 hrw hcw ho1 hc0
 go_wp2_with fail
 go_loopw [6, 7] (fun lv iv wr => ∃ j : Nat, 1 ≤ j ∧ j ≤ ws.length + 1 ∧ iv = .int .i64 j ∧ Hid (wr.ownsRow w1.heap.size 35 1 lv ((l : List Nat).take (j - 1)).length (u32n ((l : List Nat).take (j - 1)))) ∧ Hid (Fr w1 wr)) (fun _ i _ => ws.length + 1 - (intOf i).toNat)
 case atStart => exact ⟨1, by omega, by omega, rfl, World.ownsRow_nil _ _ _ _, Kept.refl _ w1⟩
 case round =>
   obtain ⟨j, hj1, hj2, rfl, ho, hf⟩ := hrel
   have hsw1 := hf.out.size
   have hll : ((l : List Nat).take (j - 1)).length = j - 1 := by rw [List.length_take]; omega
   by_cases hlt : j < ws.length + 1
   · obtain ⟨y, u, hy, hu, hn, hu32⟩ := HNL.out (j - 1) (by omega)
     have d0 : wr.cell? ⟨bw, ow + j, none⟩ = some (.string (bA y)) := by
       have h0 := HCW.out j _ (txs_at hj1 hy)
       exact (Kept.cell hf.out (p := ⟨bw, ow + j, none⟩) (cell_lt h0) (fun h => h)).trans h0
     have hbz := cell_lt d0
     have HN := Lib.hid (number_ok hn wr)
     have HTK := Lib.hid (take_snoc' hj1 hu)
     have HLL := Lib.hid hll
     clear hy hu hn hll
     go_wp2_with fail
     refine HN.out.mono ?_
     rintro e w3 ⟨rfl, rfl⟩
     go_wp2_with (first
       | (at_builtin
          refine wpList_app (base := w1.heap.size) _ rfl slU32d (.tmp 46) (.tmp 48) rfl u6 _ _ rfl (World.ownsRow.alloc ho.out _) (fun _ => True) _ 1 1 [.int .u32 (u : Int)] rfl (Reads.lit' (by simp) trivial rfl) ?_ ?_ ?_ ?_ ?_
          · simp [Value.oneCell']
          · have := HLL.out; omega
          · have := HLL.out; unfold maxLen; omega
          · simp; omega
          intro v7 w7 hown7 hk7 _
          have HO7 := Lib.hid (show w7.ownsRow w1.heap.size 35 1 v7 ((l : List Nat).take (j + 1 - 1)).length (u32n ((l : List Nat).take (j + 1 - 1))) from by rw [HTK.out, List.length_append, List.length_singleton, u32n_snoc]; exact hown7)
          have HF7 := Lib.hid ((hf.out.alloc _).app (World.ownsRow.alloc ho.out _) hk7)
          clear hown7 hk7)
       | go_in)
     go_roundw
     case rel => exact ⟨j + 1, by omega, by omega, by go_num, HO7, HF7⟩
     case measure => simp [intOf]; omega
   · obtain rfl : j = ws.length + 1 := by omega
     have hta : (l : List Nat).take (ws.length + 1 - 1) = l := List.take_of_length_le (by omega)
     have hob := ho.out
     rw [hta] at hob
     have HO2 := Lib.hid (show wr.ownsRow wB.heap.size 35 1 u6 l.length (u32n l) from own_low hob (by omega))
     have HF2 := Lib.hid (HF1.out.trans hf.out)
     have HP2 := Lib.hid (HP1.out.fr hf.out)
     have c0 : wr.cell? ⟨bw, ow, none⟩ = some (.string (bA x)) := (Kept.cell hf.out (p := ⟨bw, ow, none⟩) (cell_lt HC0.out) (fun h => h)).trans HC0.out
     have z0 := cell_lt c0
     obtain ⟨A2, c2, rfl, _⟩ := own_reads HO2.out
     clear ho hf hob hta hll hj1 hj2 hlt hlw HNL HCW HC0
     have p0 := HP2.out.blk.cell 0
     have p1 := HP2.out.blk.cell 1
     have zp := HP2.out.blk.lt
     simp only [List.getElem?_toArray, List.getElem?_cons_succ, List.getElem?_cons_zero] at p0 p1
     have HNO := Lib.hid (nearOf_cap _ _ g.p wr HP2.out.rd)
     clear c0
     go_wp2_with fail
     refine HNO.out.mono ?_
     rintro e w4 ⟨f4, ⟨hmay, rfl⟩ | ⟨hmay, g0, rb, f, rfl, hrow, hcell, hM⟩⟩
     · have HE : Hid (nearF g = saidF badT [2]) := by show _ = _; unfold nearF; rw [if_pos hmay]
       have HF4 := Lib.hid (HF2.out.trans f4)
       have HP4 := Lib.hid (HP2.out.fr f4)
       have HS := Lib.hid (said1x badT ⟨#[98, 97, 100]⟩ rfl 2 2 rfl (by omega) (by decide) w4 w4.heap.size rfl)
       clear f4 hmay
       go_wp2_with fail
       refine HS.out.mono ?_
       rintro e w5 ⟨rfl, f5⟩
       have HF5 := Lib.hid (HF4.out.trans f5)
       have HP5 := Lib.hid (HP4.out.fr f5)
       clear f5
       go_wp2
       go_ret
       exact ⟨by rw [HE.out]; rfl, HF5.out, _, _, _, HP5.out⟩
     · have hW : g.p.wide.length ≤ 12 := by
         unfold mayB at hmay
         simp only [Bool.and_eq_true, decide_eq_true_eq] at hmay
         exact hmay.1.1.2
       have HE : Hid (nearF g = decDigits (aheadM (matL g.p.wide.length g.p.wide.length f) g.p.wide.length)) := by show _ = _; unfold nearF; rw [if_neg (by rw [hmay]; simp), hM]
       have HF4 := Lib.hid (HF2.out.trans f4)
       have HP4 := Lib.hid (HP2.out.fr f4)
       have HR := Lib.hid hrow
       have HC := Lib.hid hcell
       clear f4 hmay hrow hcell hM p0 p1 zp HP2 HF2 HP1 HM HNO
       have HAL := Lib.hid (aheadM_le (matL g.p.wide.length g.p.wide.length f))
       generalize hMM : matL g.p.wide.length g.p.wide.length f = M at *
       have HMM := Lib.hid hMM
       clear hMM
       generalize hWW : g.p.wide.length = W at *
       clear hWW
       go_wp2
       go_loopw [14, 13] (fun i nv wx => ∃ a : Nat, a ≤ W ∧ i = .int .i64 a ∧ nv = .int .i64 (aheadM M a : Nat) ∧ w4 = wx) (fun i _ _ => W - (intOf i).toNat)
       case atStart => exact ⟨0, by omega, rfl, rfl, rfl⟩
       case round =>
         obtain ⟨a, ha, rfl, rfl, rfl⟩ := hrel
         have hal := HAL.out a
         have hal2 : a * a ≤ 144 := Nat.le_trans (Nat.mul_le_mul (show a ≤ 12 by omega) (show a ≤ 12 by omega)) (by omega)
         by_cases hlt : a < W
         · have hr := HR.out a hlt
           have hz := cell_lt hr
           have HAS := Lib.hid (show aheadM M (a + 1) = aheadM M a + cntR (f a) a from by rw [← HMM.out]; exact aheadM_s hlt)
           generalize aheadM M a = nA at *
           have ha2 : (a : Int) ≤ (W : Int) := by omega
           go_wp2
           go_loopw [15, 13] (fun i nv wx => ∃ b : Nat, b ≤ a ∧ i = .int .i64 b ∧ nv = .int .i64 ((nA + cntR (f a) b : Nat) : Int) ∧ w4 = wx) (fun i _ _ => a - (intOf i).toNat)
           case atStart => exact ⟨0, by omega, rfl, rfl, rfl⟩
           case round =>
             obtain ⟨b, hb, rfl, rfl, rfl⟩ := hrel
             have hcl := cntR_le (f a) b
             by_cases hbl : b < a
             · have hc := HC.out a b hlt (by omega)
               have hzc := cell_lt hc
               cases hfab : f a b with
               | true =>
                 rw [hfab] at hc
                 have HS := Lib.hid (show cntR (f a) (b + 1) = cntR (f a) b + 1 from by show _ + _ = _; rw [hfab]; rfl)
                 generalize cntR (f a) b = nB at *
                 go_wp2
                 go_roundw
                 case rel => exact ⟨b + 1, by omega, by go_num, by rw [HS.out]; go_num, trivial⟩
                 case measure => simp [intOf]; omega
               | false =>
                 rw [hfab] at hc
                 have HS := Lib.hid (show cntR (f a) (b + 1) = cntR (f a) b from by show _ + _ = _; rw [hfab]; rfl)
                 generalize cntR (f a) b = nB at *
                 go_wp2
                 go_roundw
                 case rel => exact ⟨b + 1, by omega, by go_num, by rw [HS.out], trivial⟩
                 case measure => simp [intOf]; omega
             · obtain rfl : b = a := by omega
               go_wp2
               go_roundw
               case rel => exact ⟨b + 1, by omega, by go_num, by rw [HAS.out], trivial⟩
               case measure => simp [intOf]; omega
         · obtain rfl : a = W := by omega
           have HDG := Lib.hid (digits_any (aheadM M a) (by omega) w4)
           generalize aheadM M a = nA at *
           go_wp2_with fail
           refine HDG.out.mono ?_
           rintro e w5 ⟨rfl, f5⟩
           have HF5 := Lib.hid (HF4.out.trans f5)
           have HP5 := Lib.hid (HP4.out.fr f5)
           clear f5
           go_wp2
           go_ret
           exact ⟨by rw [HE.out]; rfl, HF5.out, _, _, _, HP5.out⟩
end Go.Proofs.YtodmkjeankbieaaGreatDoor

