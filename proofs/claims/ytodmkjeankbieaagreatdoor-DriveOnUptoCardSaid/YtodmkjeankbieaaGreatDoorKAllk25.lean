/- Texts of this claim, packed. -/
import Derived.Test.YtodmkjeankbieaaGreatDoorKAllk22
import Derived.Test.YtodmkjeankbieaaGreatDoorKAllk24
set_option linter.all false
namespace Go.Proofs.YtodmkjeankbieaaGreatDoor
open Go.RowKit Go.Sort Go.Lib

set_option maxHeartbeats 12800000 in
set_option maxRecDepth 100000 in
theorem kline_code (wB w : World) (r : Nat) (vw vc vi : Value) (g : PS) (s x : Tx) (ws : List Tx) (a0 a1 a2 a3 a4 a5 : Nat) (hB : Fr wB w) (hm : PlM w wB.heap.size r 31 vw vc vi g) (hok : PsOk g) (hs : s.length < 4294967281) (hps : partsL 32 s = x :: ws) (hl : numsF ws = some [a0, a1, a2, a3, a4, a5]) (h1 : s ≠ narrowT) (h2 : s ≠ wideT) (h3 : s ≠ nearT) (hx : x = codeT) :
   Calls Tryz.prog 6 #[.pointer (some ⟨r, 0, none⟩), .string (bA s)] w (LinePost wB r 31 (addF g [a0, a1, a2, a3, a4, a5])) := by
 have q1 : ((bA s).toList == ([110, 97, 114, 114, 111, 119] : List UInt8)) = false := tx_f (t := narrowT) h1
 have q1n : ¬ (bA s).toList = ([110, 97, 114, 114, 111, 119] : List UInt8) := tx_n (t := narrowT) h1
 have q2 : ((bA s).toList == ([119, 105, 100, 101] : List UInt8)) = false := tx_f (t := wideT) h2
 have q2n : ¬ (bA s).toList = ([119, 105, 100, 101] : List UInt8) := tx_n (t := wideT) h2
 have q3 : ((bA s).toList == ([110, 101, 97, 114] : List UInt8)) = false := tx_f (t := nearT) h3
 have q3n : ¬ (bA s).toList = ([110, 101, 97, 114] : List UInt8) := tx_n (t := nearT) h3
 have x0 : (bA x).toList = ([99, 111, 100, 101] : List UInt8) := tx_t (t := codeT) hx
 have x1 : ((bA x).toList == ([105, 110, 115] : List UInt8)) = false := tx_f (t := insT) (by rw [hx]; decide)
 have x1n : ¬ (bA x).toList = ([105, 110, 115] : List UInt8) := tx_n (t := insT) (by rw [hx]; decide)
 have x2 : ((bA x).toList == ([114, 117, 110] : List UInt8)) = false := tx_f (t := runT) (by rw [hx]; decide)
 have x2n : ¬ (bA x).toList = ([114, 117, 110] : List UInt8) := tx_n (t := runT) (by rw [hx]; decide)
 have x3 : ((bA x).toList == ([111, 110] : List UInt8)) = false := tx_f (t := onT) (by rw [hx]; decide)
 have x3n : ¬ (bA x).toList = ([111, 110] : List UInt8) := tx_n (t := onT) (by rw [hx]; decide)
 have x4 : ((bA x).toList == ([98, 121, 116, 101, 115] : List UInt8)) = false := tx_f (t := bytesT) (by rw [hx]; decide)
 have x4n : ¬ (bA x).toList = ([98, 121, 116, 101, 115] : List UInt8) := tx_n (t := bytesT) (by rw [hx]; decide)
 have hk0 : a0 < 4294967296 := numsF_lt hl a0 (by simp)
 have hk1 : a1 < 4294967296 := numsF_lt hl a1 (by simp)
 have hk2 : a2 < 4294967296 := numsF_lt hl a2 (by simp)
 have hk3 : a3 < 4294967296 := numsF_lt hl a3 (by simp)
 have hk4 : a4 < 4294967296 := numsF_lt hl a4 (by simp)
 have hk5 : a5 < 4294967296 := numsF_lt hl a5 (by simp)
 have u0 : IntKind.i64.wrap (a0 : Int) = (a0 : Int) := by simp [IntKind.wrap, IntKind.bits, IntKind.signed]; omega
 have u1 : IntKind.i64.wrap (a1 : Int) = (a1 : Int) := by simp [IntKind.wrap, IntKind.bits, IntKind.signed]; omega
 have u2 : IntKind.i64.wrap (a2 : Int) = (a2 : Int) := by simp [IntKind.wrap, IntKind.bits, IntKind.signed]; omega
 have u3 : IntKind.i64.wrap (a3 : Int) = (a3 : Int) := by simp [IntKind.wrap, IntKind.bits, IntKind.signed]; omega
 have u4 : IntKind.i64.wrap (a4 : Int) = (a4 : Int) := by simp [IntKind.wrap, IntKind.bits, IntKind.signed]; omega
 clear h1 h2 h3 hx
 have HB := Lib.hid hB
 have HM := Lib.hid hm
 have HOK := Lib.hid hok
 have hl0 := partsL_len 32 s
 rw [hps] at hl0
 simp only [List.length_cons] at hl0
 have hk1 := splitk_any s 32 (by omega) w
 rw [hps] at hk1
 simp only [List.length_cons] at hk1
 have HSP := Lib.hid hk1
 have hsw := hB.size
 have hlw : ([a0, a1, a2, a3, a4, a5] : List Nat).length = ws.length := numsF_len hl
 have HNL := Lib.hid (numsF_all hl)
 clear hB hm hok hk1 hps hl
 go_enter Tryz.func6, Tryz.ntmps6
 go_wp2_with fail
 refine HSP.out.mono ?_
 rintro e w1 ⟨v1, rfl, ho1, f1⟩
 obtain ⟨Aw, cw, rfl, _, hrw⟩ := own_reads ho1
 obtain ⟨bw, ow, rfl, _, hcw⟩ := hrw.2 (by omega)
 have HCW := Lib.hid hcw
 have HF1 := Lib.hid (HB.out.trans f1)
 have HP1 := Lib.hid (HM.out.fr f1)
 have hsz1 := f1.size
 have hc0 := hcw 0 (.string (bA x)) rfl
 rw [Nat.add_zero] at hc0
 have HC0 := Lib.hid hc0
 clear f1 hrw hcw ho1 hc0
 go_wp2_with fail
 go_loopw [6, 7] (fun lv iv wr => ∃ j : Nat, 1 ≤ j ∧ j ≤ ws.length + 1 ∧ iv = .int .i64 j ∧ Hid (wr.ownsRow w1.heap.size 35 1 lv (([a0, a1, a2, a3, a4, a5] : List Nat).take (j - 1)).length (u32n (([a0, a1, a2, a3, a4, a5] : List Nat).take (j - 1)))) ∧ Hid (Fr w1 wr)) (fun _ i _ => ws.length + 1 - (intOf i).toNat)
 case atStart => exact ⟨1, by omega, by omega, rfl, World.ownsRow_nil _ _ _ _, Kept.refl _ w1⟩
 case round =>
   obtain ⟨j, hj1, hj2, rfl, ho, hf⟩ := hrel
   have hsw1 := hf.out.size
   have hll : (([a0, a1, a2, a3, a4, a5] : List Nat).take (j - 1)).length = j - 1 := by rw [List.length_take]; omega
   by_cases hlt : j < ws.length + 1
   · obtain ⟨y, u, hy, hu, hn, hu32⟩ := HNL.out (j - 1) (by omega)
     have d0 : wr.cell? ⟨bw, ow + j, none⟩ = some (.string (bA y)) := by
       have h0 := HCW.out j _ (txs_at hj1 hy)
       exact (Kept.cell hf.out (p := ⟨bw, ow + j, none⟩) (cell_lt h0) (fun h => h)).trans h0
     have hbz := cell_lt d0
     have HN := Lib.hid (number_ok hn wr)
     have HTK := Lib.hid (take_snoc' hj1 hu)
     have HLL := Lib.hid hll
     clear hy hu hn hll
     go_wp2_with fail
     refine HN.out.mono ?_
     rintro e w3 ⟨rfl, rfl⟩
     go_wp2_with (first
       | (at_builtin
          refine wpList_app (base := w1.heap.size) _ rfl slU32d (.tmp 46) (.tmp 48) rfl u6 _ _ rfl (World.ownsRow.alloc ho.out _) (fun _ => True) _ 1 1 [.int .u32 (u : Int)] rfl (Reads.lit' (by simp) trivial rfl) ?_ ?_ ?_ ?_ ?_
          · simp [Value.oneCell']
          · have := HLL.out; omega
          · have := HLL.out; unfold maxLen; omega
          · simp; omega
          intro v7 w7 hown7 hk7 _
          have HO7 := Lib.hid (show w7.ownsRow w1.heap.size 35 1 v7 (([a0, a1, a2, a3, a4, a5] : List Nat).take (j + 1 - 1)).length (u32n (([a0, a1, a2, a3, a4, a5] : List Nat).take (j + 1 - 1))) from by rw [HTK.out, List.length_append, List.length_singleton, u32n_snoc]; exact hown7)
          have HF7 := Lib.hid ((hf.out.alloc _).app (World.ownsRow.alloc ho.out _) hk7)
          clear hown7 hk7)
       | go_in)
     go_roundw
     case rel => exact ⟨j + 1, by omega, by omega, by go_num, HO7, HF7⟩
     case measure => simp [intOf]; omega
   · obtain rfl : j = ws.length + 1 := by omega
     have hta : ([a0, a1, a2, a3, a4, a5] : List Nat).take (ws.length + 1 - 1) = [a0, a1, a2, a3, a4, a5] := List.take_of_length_le (by omega)
     have hob := ho.out
     rw [hta] at hob
     have HO2 := Lib.hid (show wr.ownsRow wB.heap.size 35 1 u6 6 (u32n [a0, a1, a2, a3, a4, a5]) from own_low hob (by omega))
     have HF2 := Lib.hid (HF1.out.trans hf.out)
     have HP2 := Lib.hid (HP1.out.fr hf.out)
     have c0 : wr.cell? ⟨bw, ow, none⟩ = some (.string (bA x)) := (Kept.cell hf.out (p := ⟨bw, ow, none⟩) (cell_lt HC0.out) (fun h => h)).trans HC0.out
     have z0 := cell_lt c0
     obtain ⟨A2, c2, rfl, _⟩ := own_reads HO2.out
     clear ho hf hob hta hll hj1 hj2 hlt hlw HNL HCW HC0
     obtain ⟨bl, ol, rfl, ⟨hbr, hbo⟩, hcl⟩ := (own_apart HO2.out HP2.out).2 (by omega)
     have d0 := hcl 0 (.int .u32 (a0 : Int)) rfl
     have d1 := hcl 1 (.int .u32 (a1 : Int)) rfl
     have d2 := hcl 2 (.int .u32 (a2 : Int)) rfl
     have d3 := hcl 3 (.int .u32 (a3 : Int)) rfl
     have d4 := hcl 4 (.int .u32 (a4 : Int)) rfl
     have d5 := hcl 5 (.int .u32 (a5 : Int)) rfl
     rw [Nat.add_zero] at d0
     have hbl := cell_lt d0
     clear hcl
     have hcl := HOK.out.2.1
     obtain ⟨A1, c1, rfl, _, _, _⟩ := own_cap HP2.out.oc
     have q0 := HP2.out.blk.cell 0
     have q1 := HP2.out.blk.cell 1
     have zq := HP2.out.blk.lt
     simp only [List.getElem?_toArray, List.getElem?_cons_succ, List.getElem?_cons_zero] at q0 q1
     have hsB := HF2.out.size
     by_cases h12 : 40 ≤ g.p.code.length
     · have HE : Hid (addF g [a0, a1, a2, a3, a4, a5] = (g, [63])) := by show _ = _; unfold addF; rw [if_pos h12]
       go_wp2
       go_ret
       rw [HE.out]
       exact ⟨rfl, HF2.out, _, _, _, HP2.out⟩
     · have HE : Hid (addF g [a0, a1, a2, a3, a4, a5] = (⟨⟨g.p.wide, g.p.code ++ [⟨a0, a1, a2, a3, a4, a5⟩]⟩, g.ins⟩, saidF okT [g.p.code.length + 1])) := by show _ = _; unfold addF; rw [if_neg h12]; rfl
       have HOI := Lib.hid (show In.ok ⟨a0, a1, a2, a3, a4, a5⟩ from by
         unfold In.ok inI
         simp only
         omega)
       go_wp2_with fail
       go_region_held_law (fun w' => w'.cell? ⟨bl, ol, none⟩ = some (.int .u32 (a0 : Int)) ∧ w'.cell? ⟨bl, ol + 1, none⟩ = some (.int .u32 (a1 : Int)) ∧ w'.cell? ⟨bl, ol + 2, none⟩ = some (.int .u32 (a2 : Int)) ∧ w'.cell? ⟨bl, ol + 3, none⟩ = some (.int .u32 (a3 : Int)) ∧ w'.cell? ⟨bl, ol + 4, none⟩ = some (.int .u32 (a4 : Int)) ∧ w'.cell? ⟨bl, ol + 5, none⟩ = some (.int .u32 (a5 : Int))) (first | go_keep) (fail)
       have fI := ((Kept.refl (fun _ => False) wr).alloc (.cells #[.int .i64 (a0 : Int), .int .i64 (a1 : Int), .int .i64 (a2 : Int), .int .i64 (a3 : Int), .int .i64 (a4 : Int), .int .u32 (a5 : Int)] 45)).drew
       have HFI := Lib.hid (HF2.out.trans fI)
       have HPI := Lib.hid (HP2.out.fr fI)
       have bI := (Blk.new wr 45 #[.int .i64 (a0 : Int), .int .i64 (a1 : Int), .int .i64 (a2 : Int), .int .i64 (a3 : Int), .int .i64 (a4 : Int), .int .u32 (a5 : Int)]).drew
       have i0 := bI.cell 0
       have i1 := bI.cell 1
       have i2 := bI.cell 2
       have i3 := bI.cell 3
       have i4 := bI.cell 4
       have i5 := bI.cell 5
       have zi := bI.lt
       simp only [List.getElem?_toArray, List.getElem?_cons_succ, List.getElem?_cons_zero] at i0 i1 i2 i3 i4 i5
       have hbo2 : ∀ k, (Value.slice A1 g.p.code.length c1).ownBlock = some k → k < wr.heap.size := fun k hk => (own_lt HP2.out.oc hk).2
       have hsI := HFI.out.size
       have z0 := HPI.out.blk.lt
       have p0 := HPI.out.blk.cell 0
       have p1 := HPI.out.blk.cell 1
       simp only [List.getElem?_toArray, List.getElem?_cons_succ, List.getElem?_cons_zero] at p0 p1
       clear bI fI
       generalize (wr.alloc (.cells #[.int .i64 (a0 : Int), .int .i64 (a1 : Int), .int .i64 (a2 : Int), .int .i64 (a3 : Int), .int .i64 (a4 : Int), .int .u32 (a5 : Int)] 45)).drew = wI at *
       generalize hgI : wr.heap.size = gI at *
       clear hgI
       have hbo : ¬ (Value.slice A1 g.p.code.length c1).ownBlock = some gI := fun h => absurd (hbo2 gI h) (Nat.lt_irrefl gI)
       have hgr : gI ≠ r := by omega
       clear hbo2 q0 q1 d0 d1 d2 d3 d4 d5
       go_wp2_with fail
       refine wp_region_held_drew (S := (fun w' => w'.cell? ⟨gI, 0, none⟩ = some (.int .i64 (a0 : Int)) ∧ w'.cell? ⟨gI, 1, none⟩ = some (.int .i64 (a1 : Int)) ∧ w'.cell? ⟨gI, 2, none⟩ = some (.int .i64 (a2 : Int)) ∧ w'.cell? ⟨gI, 3, none⟩ = some (.int .i64 (a3 : Int)) ∧ w'.cell? ⟨gI, 4, none⟩ = some (.int .i64 (a4 : Int)) ∧ w'.cell? ⟨gI, 5, none⟩ = some (.int .u32 (a5 : Int)))) (by kernel_rfl) ⟨i0, i1, i2, i3, i4, i5⟩ (fun hHeld => ?_)
       refine' take_by (i := 0) ?hi0x1 ?hw0x1 ?hy0x1 (by kernel_rfl) (by kernel_rfl) (by kernel_rfl) ?hQ0x1 (by assumption) ?rest0x1
       case hi0x1 => simp only [List.getElem?_toArray, List.getElem?_cons_succ, List.getElem?_cons_zero]; rfl
       case hw0x1 => rfl
       case hy0x1 => intro w hSw; (try dsimp only at hSw); go_simp; (try with_reducible rfl)
       case hQ0x1 => exact fun _ _ _ h => h
       try simp only [Act.put, List.setIfInBounds_toArray, List.set_cons_zero, List.set_cons_succ]
       refine' take_by (i := 1) ?hi1x2 ?hw1x2 ?hy1x2 (by kernel_rfl) (by kernel_rfl) (by kernel_rfl) ?hQ1x2 (by assumption) ?rest1x2
       case hi1x2 => simp only [List.getElem?_toArray, List.getElem?_cons_succ, List.getElem?_cons_zero]; rfl
       case hw1x2 => rfl
       case hy1x2 => intro w hSw; (try dsimp only at hSw); go_simp; (try with_reducible rfl)
       case hQ1x2 => exact fun _ _ _ h => h
       try simp only [Act.put, List.setIfInBounds_toArray, List.set_cons_zero, List.set_cons_succ]
       refine' take_by (i := 2) ?hi2x3 ?hw2x3 ?hy2x3 (by kernel_rfl) (by kernel_rfl) (by kernel_rfl) ?hQ2x3 (by assumption) ?rest2x3
       case hi2x3 => simp only [List.getElem?_toArray, List.getElem?_cons_succ, List.getElem?_cons_zero]; rfl
       case hw2x3 => rfl
       case hy2x3 => intro w hSw; (try dsimp only at hSw); go_simp; (try with_reducible rfl)
       case hQ2x3 => exact fun _ _ _ h => h
       try simp only [Act.put, List.setIfInBounds_toArray, List.set_cons_zero, List.set_cons_succ]
       refine' take_by (i := 3) ?hi3x4 ?hw3x4 ?hy3x4 (by kernel_rfl) (by kernel_rfl) (by kernel_rfl) ?hQ3x4 (by assumption) ?rest3x4
       case hi3x4 => simp only [List.getElem?_toArray, List.getElem?_cons_succ, List.getElem?_cons_zero]; rfl
       case hw3x4 => rfl
       case hy3x4 => intro w hSw; (try dsimp only at hSw); go_simp; (try with_reducible rfl)
       case hQ3x4 => exact fun _ _ _ h => h
       try simp only [Act.put, List.setIfInBounds_toArray, List.set_cons_zero, List.set_cons_succ]
       refine' take_by (i := 4) ?hi4x5 ?hw4x5 ?hy4x5 (by kernel_rfl) (by kernel_rfl) (by kernel_rfl) ?hQ4x5 (by assumption) ?rest4x5
       case hi4x5 => simp only [List.getElem?_toArray, List.getElem?_cons_succ, List.getElem?_cons_zero]; rfl
       case hw4x5 => rfl
       case hy4x5 => intro w hSw; (try dsimp only at hSw); go_simp; (try with_reducible rfl)
       case hQ4x5 => exact fun _ _ _ h => h
       try simp only [Act.put, List.setIfInBounds_toArray, List.set_cons_zero, List.set_cons_succ]
       refine' take_by (i := 6) ?hi6x6 ?hw6x6 ?hy6x6 (by kernel_rfl) (by kernel_rfl) (by kernel_rfl) ?hQ6x6 (by assumption) ?rest6x6
       case hi6x6 => simp only [List.getElem?_toArray, List.getElem?_cons_succ, List.getElem?_cons_zero]; rfl
       case hw6x6 => rfl
       case hy6x6 => intro w hSw; (try dsimp only at hSw); go_simp; (try with_reducible rfl)
       case hQ6x6 => exact fun _ _ _ h => h
       try simp only [Act.put, List.setIfInBounds_toArray, List.set_cons_zero, List.set_cons_succ]
       refine wpAnyH_ready (rs := [5, 7]) (by kernel_rfl) (by simp) ?_
       refine' AllReadyH.cons ?hoA (fun K hK => ?stA) (AllReadyH.cons ?hoB (fun K hK => ?stB) AllReadyH.nil)
       case hoA => simp only [List.getElem?_toArray, List.getElem?_cons_succ, List.getElem?_cons_zero]; rfl
       case hoB => simp only [List.getElem?_toArray, List.getElem?_cons_succ, List.getElem?_cons_zero]; rfl
       case stA =>
         go_simp
         refine hK.out _ _ (by first | assumption | go_keep) (fun hHeld => ?_)
         clear hK K
         try simp only [Act.put, List.setIfInBounds_toArray, List.set_cons_zero, List.set_cons_succ]
         refine wpAnyH_ready (rs := [7]) (by kernel_rfl) (by simp) ?_
         refine' AllReadyH.cons ?ho7s7 (fun K hK => ?st7s7) AllReadyH.nil
         case ho7s7 => simp only [List.getElem?_toArray, List.getElem?_cons_succ, List.getElem?_cons_zero]; rfl
         go_simp
         refine hK.out _ _ (by first | assumption | go_keep) (fun hHeld => ?_)
         clear hK K
         try simp only [Act.put, List.setIfInBounds_toArray, List.set_cons_zero, List.set_cons_succ]
         refine wpAnyH_ready (rs := [8]) (by kernel_rfl) (by simp) ?_
         refine' AllReadyH.cons ?ho8s8 (fun K hK => ?st8s8) AllReadyH.nil
         case ho8s8 => simp only [List.getElem?_toArray, List.getElem?_cons_succ, List.getElem?_cons_zero]; rfl
         refine step_app (base := wB.heap.size) (by rfl) slInsD (.tmp 168) (.tmp 170) (by rfl) (.slice A1 g.p.code.length c1) g.p.code.length _ (by rfl) ((World.ownsRow.alloc HPI.out.oc _).drew_) (fun _ => True) _ 1 1 [.int .i64 (a0 : Int), .int .i64 (a1 : Int), .int .i64 (a2 : Int), .int .i64 (a3 : Int), .int .i64 (a4 : Int), .int .u32 (a5 : Int)] (by rfl) (Reads.lit' (by simp) trivial rfl) (by simp [Value.oneCell']) (by omega) (by unfold maxLen; omega) (by simp; omega) ?_
         intro v7 w7 hown7 hk7 hat7
         have sa : w7.cell? ⟨gI, 0, none⟩ = some (.int .i64 (a0 : Int)) ∧ w7.cell? ⟨gI, 1, none⟩ = some (.int .i64 (a1 : Int)) ∧ w7.cell? ⟨gI, 2, none⟩ = some (.int .i64 (a2 : Int)) ∧ w7.cell? ⟨gI, 3, none⟩ = some (.int .i64 (a3 : Int)) ∧ w7.cell? ⟨gI, 4, none⟩ = some (.int .i64 (a4 : Int)) ∧ w7.cell? ⟨gI, 5, none⟩ = some (.int .u32 (a5 : Int)) := ⟨(hk7.cell (p := ⟨gI, 0, none⟩) (by simp; omega) hbo).trans (by simp [*]), (hk7.cell (p := ⟨gI, 1, none⟩) (by simp; omega) hbo).trans (by simp [*]), (hk7.cell (p := ⟨gI, 2, none⟩) (by simp; omega) hbo).trans (by simp [*]), (hk7.cell (p := ⟨gI, 3, none⟩) (by simp; omega) hbo).trans (by simp [*]), (hk7.cell (p := ⟨gI, 4, none⟩) (by simp; omega) hbo).trans (by simp [*]), (hk7.cell (p := ⟨gI, 5, none⟩) (by simp; omega) hbo).trans (by simp [*])⟩
         have hk8 := ((Kept.refl (fun k => (Value.slice A1 g.p.code.length c1).ownBlock = some k) wI).alloc (.cells #[.int .i64 (a0 : Int), .int .i64 (a1 : Int), .int .i64 (a2 : Int), .int .i64 (a3 : Int), .int .i64 (a4 : Int), .int .u32 (a5 : Int)] 45)).drew.trans hk7
         have HP7 := Lib.hid (HPI.out.putC HOI.out hown7 hk8)
         have HF7 := Lib.hid ((HFI.out.alloc (.cells #[.int .i64 (a0 : Int), .int .i64 (a1 : Int), .int .i64 (a2 : Int), .int .i64 (a3 : Int), .int .i64 (a4 : Int), .int .u32 (a5 : Int)] 45)).drew.app ((World.ownsRow.alloc HPI.out.oc _).drew_) hk7)
         have hb7 := HPI.out.blk.kept hk8 (own_blk_ne HPI.out.oc HPI.out.blk HPI.out.hty.2.1)
         have y7 := hb7.frozen 1
         have z7 := hb7.lt
         have p7 := hb7.cell 1
         simp only [List.getElem?_toArray, List.getElem?_cons_succ, List.getElem?_cons_zero] at p7
         have HF8 := Lib.hid (HF7.out.setCell (p := ⟨r, 1, none⟩) (fun h => absurd h (Nat.not_lt.2 HPI.out.hb)) v7)
         obtain ⟨A7, c7, rfl, _⟩ := own_reads hown7
         have hs7 := ((Kept.refl (fun k => k = r) w7).setCell (p := ⟨r, 1, none⟩) (fun _ => rfl) (.slice A7 (g.p.code.length + 1) c7))
         have hbl7 := cell_lt sa.1
         have sb : (w7.setCell ⟨r, 1, none⟩ (.slice A7 (g.p.code.length + 1) c7)).cell? ⟨gI, 0, none⟩ = some (.int .i64 (a0 : Int)) ∧ (w7.setCell ⟨r, 1, none⟩ (.slice A7 (g.p.code.length + 1) c7)).cell? ⟨gI, 1, none⟩ = some (.int .i64 (a1 : Int)) ∧ (w7.setCell ⟨r, 1, none⟩ (.slice A7 (g.p.code.length + 1) c7)).cell? ⟨gI, 2, none⟩ = some (.int .i64 (a2 : Int)) ∧ (w7.setCell ⟨r, 1, none⟩ (.slice A7 (g.p.code.length + 1) c7)).cell? ⟨gI, 3, none⟩ = some (.int .i64 (a3 : Int)) ∧ (w7.setCell ⟨r, 1, none⟩ (.slice A7 (g.p.code.length + 1) c7)).cell? ⟨gI, 4, none⟩ = some (.int .i64 (a4 : Int)) ∧ (w7.setCell ⟨r, 1, none⟩ (.slice A7 (g.p.code.length + 1) c7)).cell? ⟨gI, 5, none⟩ = some (.int .u32 (a5 : Int)) := ⟨(hs7.cell (p := ⟨gI, 0, none⟩) hbl7 (fun h => hgr h)).trans sa.1, (hs7.cell (p := ⟨gI, 1, none⟩) hbl7 (fun h => hgr h)).trans sa.2.1, (hs7.cell (p := ⟨gI, 2, none⟩) hbl7 (fun h => hgr h)).trans sa.2.2.1, (hs7.cell (p := ⟨gI, 3, none⟩) hbl7 (fun h => hgr h)).trans sa.2.2.2.1, (hs7.cell (p := ⟨gI, 4, none⟩) hbl7 (fun h => hgr h)).trans sa.2.2.2.2.1, (hs7.cell (p := ⟨gI, 5, none⟩) hbl7 (fun h => hgr h)).trans sa.2.2.2.2.2⟩
         have HS := Lib.hid (said1x okT ⟨#[111, 107]⟩ rfl (g.p.code.length + 1) ((g.p.code.length : Int) + 1) (by omega) (by omega) (by decide) (w7.setCell ⟨r, 1, none⟩ (.slice A7 (g.p.code.length + 1) c7)) w7.heap.size (by simp [World.setCell]))
         clear hown7 hk7 hk8 hb7 hs7
         refine hK.out _ _ sa (fun hHeld => ?_)
         clear hK K
         try simp only [Act.put, List.setIfInBounds_toArray, List.set_cons_zero, List.set_cons_succ]
         refine' take_by (i := 9) ?hi9x9 ?hw9x9 ?hy9x9 (by kernel_rfl) (by kernel_rfl) (by kernel_rfl) ?hQ9x9 (by assumption) ?rest9x9
         case hi9x9 => simp only [List.getElem?_toArray, List.getElem?_cons_succ, List.getElem?_cons_zero]; rfl
         case hw9x9 => rfl
         case hy9x9 => intro w hSw; (try dsimp only at hSw); go_simp; (try with_reducible rfl)
         case hQ9x9 => exact fun _ _ _ h => h
         try simp only [Act.put, List.setIfInBounds_toArray, List.set_cons_zero, List.set_cons_succ]
         refine' take_by (i := 10) ?hi10x10 ?hw10x10 ?hy10x10 (by kernel_rfl) (by kernel_rfl) (by kernel_rfl) ?hQ10x10 (by assumption) ?rest10x10
         case hi10x10 => simp only [List.getElem?_toArray, List.getElem?_cons_succ, List.getElem?_cons_zero]; rfl
         case hw10x10 => rfl
         case hy10x10 => intro w hSw; (try dsimp only at hSw); go_simp; (try with_reducible rfl)
         case hQ10x10 => exact fun _ _ _ h => h
         try simp only [Act.put, List.setIfInBounds_toArray, List.set_cons_zero, List.set_cons_succ]
         refine' take_by (i := 11) ?hi11x11 ?hw11x11 ?hy11x11 (by kernel_rfl) (by kernel_rfl) (by kernel_rfl) ?hQ11x11 (by assumption) ?rest11x11
         case hi11x11 => simp only [List.getElem?_toArray, List.getElem?_cons_succ, List.getElem?_cons_zero]; rfl
         case hw11x11 => rfl
         case hy11x11 => intro w hSw; (try dsimp only at hSw); go_simp; (try with_reducible rfl)
         case hQ11x11 => exact fun _ _ _ h => h
         try simp only [Act.put, List.setIfInBounds_toArray, List.set_cons_zero, List.set_cons_succ]
         refine wpAnyH_ready (rs := [12]) (by kernel_rfl) (by simp) ?_
         refine' AllReadyH.cons ?ho12s12 (fun K hK => ?st12s12) AllReadyH.nil
         case ho12s12 => simp only [List.getElem?_toArray, List.getElem?_cons_succ, List.getElem?_cons_zero]; rfl
         go_simp
         refine hK.out _ _ sb (fun hHeld => ?_)
         clear hK K
         try simp only [Act.put, List.setIfInBounds_toArray, List.set_cons_zero, List.set_cons_succ]
         refine wpAnyH_done (by kernel_rfl) ?_ _
         go_wp2_with fail
         refine HS.out.mono ?_
         rintro e w9 ⟨rfl, f9⟩
         have HP9 := Lib.hid (HP7.out.fr f9)
         have HF9 := Lib.hid (HF8.out.trans f9)
         clear f9
         go_wp2
         go_ret
         rw [HE.out]
         exact ⟨rfl, HF9.out, _, _, _, HP9.out⟩
       case stB =>
         go_simp
         refine hK.out _ _ (by first | assumption | go_keep) (fun hHeld => ?_)
         clear hK K
         try simp only [Act.put, List.setIfInBounds_toArray, List.set_cons_zero, List.set_cons_succ]
         refine wpAnyH_ready (rs := [5]) (by kernel_rfl) (by simp) ?_
         refine' AllReadyH.cons ?ho5s13 (fun K hK => ?st5s13) AllReadyH.nil
         case ho5s13 => simp only [List.getElem?_toArray, List.getElem?_cons_succ, List.getElem?_cons_zero]; rfl
         go_simp
         refine hK.out _ _ (by first | assumption | go_keep) (fun hHeld => ?_)
         clear hK K
         try simp only [Act.put, List.setIfInBounds_toArray, List.set_cons_zero, List.set_cons_succ]
         refine wpAnyH_ready (rs := [8]) (by kernel_rfl) (by simp) ?_
         refine' AllReadyH.cons ?ho8s14 (fun K hK => ?st8s14) AllReadyH.nil
         case ho8s14 => simp only [List.getElem?_toArray, List.getElem?_cons_succ, List.getElem?_cons_zero]; rfl
         refine step_app (base := wB.heap.size) (by rfl) slInsD (.tmp 168) (.tmp 170) (by rfl) (.slice A1 g.p.code.length c1) g.p.code.length _ (by rfl) ((World.ownsRow.alloc HPI.out.oc _).drew_) (fun _ => True) _ 1 1 [.int .i64 (a0 : Int), .int .i64 (a1 : Int), .int .i64 (a2 : Int), .int .i64 (a3 : Int), .int .i64 (a4 : Int), .int .u32 (a5 : Int)] (by rfl) (Reads.lit' (by simp) trivial rfl) (by simp [Value.oneCell']) (by omega) (by unfold maxLen; omega) (by simp; omega) ?_
         intro v7 w7 hown7 hk7 hat7
         have sa : w7.cell? ⟨gI, 0, none⟩ = some (.int .i64 (a0 : Int)) ∧ w7.cell? ⟨gI, 1, none⟩ = some (.int .i64 (a1 : Int)) ∧ w7.cell? ⟨gI, 2, none⟩ = some (.int .i64 (a2 : Int)) ∧ w7.cell? ⟨gI, 3, none⟩ = some (.int .i64 (a3 : Int)) ∧ w7.cell? ⟨gI, 4, none⟩ = some (.int .i64 (a4 : Int)) ∧ w7.cell? ⟨gI, 5, none⟩ = some (.int .u32 (a5 : Int)) := ⟨(hk7.cell (p := ⟨gI, 0, none⟩) (by simp; omega) hbo).trans (by simp [*]), (hk7.cell (p := ⟨gI, 1, none⟩) (by simp; omega) hbo).trans (by simp [*]), (hk7.cell (p := ⟨gI, 2, none⟩) (by simp; omega) hbo).trans (by simp [*]), (hk7.cell (p := ⟨gI, 3, none⟩) (by simp; omega) hbo).trans (by simp [*]), (hk7.cell (p := ⟨gI, 4, none⟩) (by simp; omega) hbo).trans (by simp [*]), (hk7.cell (p := ⟨gI, 5, none⟩) (by simp; omega) hbo).trans (by simp [*])⟩
         have hk8 := ((Kept.refl (fun k => (Value.slice A1 g.p.code.length c1).ownBlock = some k) wI).alloc (.cells #[.int .i64 (a0 : Int), .int .i64 (a1 : Int), .int .i64 (a2 : Int), .int .i64 (a3 : Int), .int .i64 (a4 : Int), .int .u32 (a5 : Int)] 45)).drew.trans hk7
         have HP7 := Lib.hid (HPI.out.putC HOI.out hown7 hk8)
         have HF7 := Lib.hid ((HFI.out.alloc (.cells #[.int .i64 (a0 : Int), .int .i64 (a1 : Int), .int .i64 (a2 : Int), .int .i64 (a3 : Int), .int .i64 (a4 : Int), .int .u32 (a5 : Int)] 45)).drew.app ((World.ownsRow.alloc HPI.out.oc _).drew_) hk7)
         have hb7 := HPI.out.blk.kept hk8 (own_blk_ne HPI.out.oc HPI.out.blk HPI.out.hty.2.1)
         have y7 := hb7.frozen 1
         have z7 := hb7.lt
         have p7 := hb7.cell 1
         simp only [List.getElem?_toArray, List.getElem?_cons_succ, List.getElem?_cons_zero] at p7
         have HF8 := Lib.hid (HF7.out.setCell (p := ⟨r, 1, none⟩) (fun h => absurd h (Nat.not_lt.2 HPI.out.hb)) v7)
         obtain ⟨A7, c7, rfl, _⟩ := own_reads hown7
         have hs7 := ((Kept.refl (fun k => k = r) w7).setCell (p := ⟨r, 1, none⟩) (fun _ => rfl) (.slice A7 (g.p.code.length + 1) c7))
         have hbl7 := cell_lt sa.1
         have sb : (w7.setCell ⟨r, 1, none⟩ (.slice A7 (g.p.code.length + 1) c7)).cell? ⟨gI, 0, none⟩ = some (.int .i64 (a0 : Int)) ∧ (w7.setCell ⟨r, 1, none⟩ (.slice A7 (g.p.code.length + 1) c7)).cell? ⟨gI, 1, none⟩ = some (.int .i64 (a1 : Int)) ∧ (w7.setCell ⟨r, 1, none⟩ (.slice A7 (g.p.code.length + 1) c7)).cell? ⟨gI, 2, none⟩ = some (.int .i64 (a2 : Int)) ∧ (w7.setCell ⟨r, 1, none⟩ (.slice A7 (g.p.code.length + 1) c7)).cell? ⟨gI, 3, none⟩ = some (.int .i64 (a3 : Int)) ∧ (w7.setCell ⟨r, 1, none⟩ (.slice A7 (g.p.code.length + 1) c7)).cell? ⟨gI, 4, none⟩ = some (.int .i64 (a4 : Int)) ∧ (w7.setCell ⟨r, 1, none⟩ (.slice A7 (g.p.code.length + 1) c7)).cell? ⟨gI, 5, none⟩ = some (.int .u32 (a5 : Int)) := ⟨(hs7.cell (p := ⟨gI, 0, none⟩) hbl7 (fun h => hgr h)).trans sa.1, (hs7.cell (p := ⟨gI, 1, none⟩) hbl7 (fun h => hgr h)).trans sa.2.1, (hs7.cell (p := ⟨gI, 2, none⟩) hbl7 (fun h => hgr h)).trans sa.2.2.1, (hs7.cell (p := ⟨gI, 3, none⟩) hbl7 (fun h => hgr h)).trans sa.2.2.2.1, (hs7.cell (p := ⟨gI, 4, none⟩) hbl7 (fun h => hgr h)).trans sa.2.2.2.2.1, (hs7.cell (p := ⟨gI, 5, none⟩) hbl7 (fun h => hgr h)).trans sa.2.2.2.2.2⟩
         have HS := Lib.hid (said1x okT ⟨#[111, 107]⟩ rfl (g.p.code.length + 1) ((g.p.code.length : Int) + 1) (by omega) (by omega) (by decide) (w7.setCell ⟨r, 1, none⟩ (.slice A7 (g.p.code.length + 1) c7)) w7.heap.size (by simp [World.setCell]))
         clear hown7 hk7 hk8 hb7 hs7
         refine hK.out _ _ sa (fun hHeld => ?_)
         clear hK K
         try simp only [Act.put, List.setIfInBounds_toArray, List.set_cons_zero, List.set_cons_succ]
         refine' take_by (i := 9) ?hi9x15 ?hw9x15 ?hy9x15 (by kernel_rfl) (by kernel_rfl) (by kernel_rfl) ?hQ9x15 (by assumption) ?rest9x15
         case hi9x15 => simp only [List.getElem?_toArray, List.getElem?_cons_succ, List.getElem?_cons_zero]; rfl
         case hw9x15 => rfl
         case hy9x15 => intro w hSw; (try dsimp only at hSw); go_simp; (try with_reducible rfl)
         case hQ9x15 => exact fun _ _ _ h => h
         try simp only [Act.put, List.setIfInBounds_toArray, List.set_cons_zero, List.set_cons_succ]
         refine' take_by (i := 10) ?hi10x16 ?hw10x16 ?hy10x16 (by kernel_rfl) (by kernel_rfl) (by kernel_rfl) ?hQ10x16 (by assumption) ?rest10x16
         case hi10x16 => simp only [List.getElem?_toArray, List.getElem?_cons_succ, List.getElem?_cons_zero]; rfl
         case hw10x16 => rfl
         case hy10x16 => intro w hSw; (try dsimp only at hSw); go_simp; (try with_reducible rfl)
         case hQ10x16 => exact fun _ _ _ h => h
         try simp only [Act.put, List.setIfInBounds_toArray, List.set_cons_zero, List.set_cons_succ]
         refine' take_by (i := 11) ?hi11x17 ?hw11x17 ?hy11x17 (by kernel_rfl) (by kernel_rfl) (by kernel_rfl) ?hQ11x17 (by assumption) ?rest11x17
         case hi11x17 => simp only [List.getElem?_toArray, List.getElem?_cons_succ, List.getElem?_cons_zero]; rfl
         case hw11x17 => rfl
         case hy11x17 => intro w hSw; (try dsimp only at hSw); go_simp; (try with_reducible rfl)
         case hQ11x17 => exact fun _ _ _ h => h
         try simp only [Act.put, List.setIfInBounds_toArray, List.set_cons_zero, List.set_cons_succ]
         refine wpAnyH_ready (rs := [12]) (by kernel_rfl) (by simp) ?_
         refine' AllReadyH.cons ?ho12s18 (fun K hK => ?st12s18) AllReadyH.nil
         case ho12s18 => simp only [List.getElem?_toArray, List.getElem?_cons_succ, List.getElem?_cons_zero]; rfl
         go_simp
         refine hK.out _ _ sb (fun hHeld => ?_)
         clear hK K
         try simp only [Act.put, List.setIfInBounds_toArray, List.set_cons_zero, List.set_cons_succ]
         refine wpAnyH_done (by kernel_rfl) ?_ _
         go_wp2_with fail
         refine HS.out.mono ?_
         rintro e w9 ⟨rfl, f9⟩
         have HP9 := Lib.hid (HP7.out.fr f9)
         have HF9 := Lib.hid (HF8.out.trans f9)
         clear f9
         go_wp2
         go_ret
         rw [HE.out]
         exact ⟨rfl, HF9.out, _, _, _, HP9.out⟩
end Go.Proofs.YtodmkjeankbieaaGreatDoor


namespace Go.Proofs.YtodmkjeankbieaaGreatDoor
open Go.RowKit Go.Sort Go.Lib

set_option maxHeartbeats 12800000 in
set_option maxRecDepth 100000 in
theorem kline_run (wB w : World) (r : Nat) (vw vc vi : Value) (g : PS) (s x : Tx) (ws : List Tx) (a0 : Nat) (hB : Fr wB w) (hm : PlM w wB.heap.size r 31 vw vc vi g) (hok : PsOk g) (hs : s.length < 4294967281) (hps : partsL 32 s = x :: ws) (hl : numsF ws = some [a0]) (h1 : s ≠ narrowT) (h2 : s ≠ wideT) (h3 : s ≠ nearT) (hx : x = runT) :
   Calls Tryz.prog 6 #[.pointer (some ⟨r, 0, none⟩), .string (bA s)] w (LinePost wB r 31 (g, runF g a0)) := by
 have q1 : ((bA s).toList == ([110, 97, 114, 114, 111, 119] : List UInt8)) = false := tx_f (t := narrowT) h1
 have q1n : ¬ (bA s).toList = ([110, 97, 114, 114, 111, 119] : List UInt8) := tx_n (t := narrowT) h1
 have q2 : ((bA s).toList == ([119, 105, 100, 101] : List UInt8)) = false := tx_f (t := wideT) h2
 have q2n : ¬ (bA s).toList = ([119, 105, 100, 101] : List UInt8) := tx_n (t := wideT) h2
 have q3 : ((bA s).toList == ([110, 101, 97, 114] : List UInt8)) = false := tx_f (t := nearT) h3
 have q3n : ¬ (bA s).toList = ([110, 101, 97, 114] : List UInt8) := tx_n (t := nearT) h3
 have x0 : ((bA x).toList == ([99, 111, 100, 101] : List UInt8)) = false := tx_f (t := codeT) (by rw [hx]; decide)
 have x0n : ¬ (bA x).toList = ([99, 111, 100, 101] : List UInt8) := tx_n (t := codeT) (by rw [hx]; decide)
 have x1 : ((bA x).toList == ([105, 110, 115] : List UInt8)) = false := tx_f (t := insT) (by rw [hx]; decide)
 have x1n : ¬ (bA x).toList = ([105, 110, 115] : List UInt8) := tx_n (t := insT) (by rw [hx]; decide)
 have x2 : (bA x).toList = ([114, 117, 110] : List UInt8) := tx_t (t := runT) hx
 have x3 : ((bA x).toList == ([111, 110] : List UInt8)) = false := tx_f (t := onT) (by rw [hx]; decide)
 have x3n : ¬ (bA x).toList = ([111, 110] : List UInt8) := tx_n (t := onT) (by rw [hx]; decide)
 have x4 : ((bA x).toList == ([98, 121, 116, 101, 115] : List UInt8)) = false := tx_f (t := bytesT) (by rw [hx]; decide)
 have x4n : ¬ (bA x).toList = ([98, 121, 116, 101, 115] : List UInt8) := tx_n (t := bytesT) (by rw [hx]; decide)
 have hk0 : a0 < 4294967296 := numsF_lt hl a0 (by simp)
 have u0 : IntKind.i64.wrap (a0 : Int) = (a0 : Int) := by simp [IntKind.wrap, IntKind.bits, IntKind.signed]; omega
 clear h1 h2 h3 hx
 have HB := Lib.hid hB
 have HM := Lib.hid hm
 have HOK := Lib.hid hok
 have hl0 := partsL_len 32 s
 rw [hps] at hl0
 simp only [List.length_cons] at hl0
 have hk1 := splitk_any s 32 (by omega) w
 rw [hps] at hk1
 simp only [List.length_cons] at hk1
 have HSP := Lib.hid hk1
 have hsw := hB.size
 have hlw : ([a0] : List Nat).length = ws.length := numsF_len hl
 have HNL := Lib.hid (numsF_all hl)
 clear hB hm hok hk1 hps hl
 go_enter Tryz.func6, Tryz.ntmps6
 go_wp2_with fail
 refine HSP.out.mono ?_
 rintro e w1 ⟨v1, rfl, ho1, f1⟩
 obtain ⟨Aw, cw, rfl, _, hrw⟩ := own_reads ho1
 obtain ⟨bw, ow, rfl, _, hcw⟩ := hrw.2 (by omega)
 have HCW := Lib.hid hcw
 have HF1 := Lib.hid (HB.out.trans f1)
 have HP1 := Lib.hid (HM.out.fr f1)
 have hsz1 := f1.size
 have hc0 := hcw 0 (.string (bA x)) rfl
 rw [Nat.add_zero] at hc0
 have HC0 := Lib.hid hc0
 clear f1 hrw hcw ho1 hc0
 go_wp2_with fail
 go_loopw [6, 7] (fun lv iv wr => ∃ j : Nat, 1 ≤ j ∧ j ≤ ws.length + 1 ∧ iv = .int .i64 j ∧ Hid (wr.ownsRow w1.heap.size 35 1 lv (([a0] : List Nat).take (j - 1)).length (u32n (([a0] : List Nat).take (j - 1)))) ∧ Hid (Fr w1 wr)) (fun _ i _ => ws.length + 1 - (intOf i).toNat)
 case atStart => exact ⟨1, by omega, by omega, rfl, World.ownsRow_nil _ _ _ _, Kept.refl _ w1⟩
 case round =>
   obtain ⟨j, hj1, hj2, rfl, ho, hf⟩ := hrel
   have hsw1 := hf.out.size
   have hll : (([a0] : List Nat).take (j - 1)).length = j - 1 := by rw [List.length_take]; omega
   by_cases hlt : j < ws.length + 1
   · obtain ⟨y, u, hy, hu, hn, hu32⟩ := HNL.out (j - 1) (by omega)
     have d0 : wr.cell? ⟨bw, ow + j, none⟩ = some (.string (bA y)) := by
       have h0 := HCW.out j _ (txs_at hj1 hy)
       exact (Kept.cell hf.out (p := ⟨bw, ow + j, none⟩) (cell_lt h0) (fun h => h)).trans h0
     have hbz := cell_lt d0
     have HN := Lib.hid (number_ok hn wr)
     have HTK := Lib.hid (take_snoc' hj1 hu)
     have HLL := Lib.hid hll
     clear hy hu hn hll
     go_wp2_with fail
     refine HN.out.mono ?_
     rintro e w3 ⟨rfl, rfl⟩
     go_wp2_with (first
       | (at_builtin
          refine wpList_app (base := w1.heap.size) _ rfl slU32d (.tmp 46) (.tmp 48) rfl u6 _ _ rfl (World.ownsRow.alloc ho.out _) (fun _ => True) _ 1 1 [.int .u32 (u : Int)] rfl (Reads.lit' (by simp) trivial rfl) ?_ ?_ ?_ ?_ ?_
          · simp [Value.oneCell']
          · have := HLL.out; omega
          · have := HLL.out; unfold maxLen; omega
          · simp; omega
          intro v7 w7 hown7 hk7 _
          have HO7 := Lib.hid (show w7.ownsRow w1.heap.size 35 1 v7 (([a0] : List Nat).take (j + 1 - 1)).length (u32n (([a0] : List Nat).take (j + 1 - 1))) from by rw [HTK.out, List.length_append, List.length_singleton, u32n_snoc]; exact hown7)
          have HF7 := Lib.hid ((hf.out.alloc _).app (World.ownsRow.alloc ho.out _) hk7)
          clear hown7 hk7)
       | go_in)
     go_roundw
     case rel => exact ⟨j + 1, by omega, by omega, by go_num, HO7, HF7⟩
     case measure => simp [intOf]; omega
   · obtain rfl : j = ws.length + 1 := by omega
     have hta : ([a0] : List Nat).take (ws.length + 1 - 1) = [a0] := List.take_of_length_le (by omega)
     have hob := ho.out
     rw [hta] at hob
     have HO2 := Lib.hid (show wr.ownsRow wB.heap.size 35 1 u6 1 (u32n [a0]) from own_low hob (by omega))
     have HF2 := Lib.hid (HF1.out.trans hf.out)
     have HP2 := Lib.hid (HP1.out.fr hf.out)
     have c0 : wr.cell? ⟨bw, ow, none⟩ = some (.string (bA x)) := (Kept.cell hf.out (p := ⟨bw, ow, none⟩) (cell_lt HC0.out) (fun h => h)).trans HC0.out
     have z0 := cell_lt c0
     obtain ⟨A2, c2, rfl, _⟩ := own_reads HO2.out
     clear ho hf hob hta hll hj1 hj2 hlt hlw HNL HCW HC0
     obtain ⟨bl, ol, rfl, ⟨hbr, hbo⟩, hcl⟩ := (own_apart HO2.out HP2.out).2 (by omega)
     have d0 := hcl 0 (.int .u32 (a0 : Int)) rfl
     rw [Nat.add_zero] at d0
     have hbl := cell_lt d0
     clear hcl
     obtain ⟨A3, c3, rfl, hn3, hc3, hr3⟩ := own_cap HP2.out.oi
     have q0 := HP2.out.blk.cell 0
     have q1 := HP2.out.blk.cell 1
     have q2 := HP2.out.blk.cell 2
     have zq := HP2.out.blk.lt
     simp only [List.getElem?_toArray, List.getElem?_cons_succ, List.getElem?_cons_zero] at q0 q1 q2
     have HE : Hid (runF g a0 = shownF (wrongV g.p g.ins.length (a0 : Int)) (runV g.p (insI g.ins) a0)) := by show _ = _; rfl
     have HD := Lib.hid (fun w3 (f : Fr wr w3) => run_sh2 (n := a0) ((HP2.out.fr f).rd) hn3 hc3 (hr3.kept f (fun _ _ h => h)) HP2.out.oki)
     have hwr := wrongV_at g.p g.ins.length (a0 : Int)
     generalize wrongV g.p g.ins.length (a0 : Int) = rr at *
     generalize runV g.p (insI g.ins) a0 = xx at *
     have HWR := Lib.hid hwr
     clear hr3 hn3 hc3 hwr
     go_wp2_with fail
     go_region_held_law (fun w' => w'.cell? ⟨r, 0, none⟩ = some vw ∧ w'.cell? ⟨r, 1, none⟩ = some vc ∧ w'.cell? ⟨r, 2, none⟩ = some (.slice A3 g.ins.length c3) ∧ w'.cell? ⟨bl, ol, none⟩ = some (.int .u32 (a0 : Int))) (first | go_keep | exact sa | exact sb)
       (first
         | (go_at_call 12; refine (HD.out _ ((Kept.refl (fun _ => False) wr).drew)).mono ?_; rintro e w1 ⟨A5, c5, y5, rfl, hl5, hr5, hok5, heq, f1⟩; have f1b : Fr wr w1 := ((Kept.refl (fun _ => False) wr).drew).trans f1; have HSH := Lib.hid hr5; have HL5 := Lib.hid hl5; have HOK5 := Lib.hid hok5; have HEQ := Lib.hid heq; clear hr5 hl5 hok5 heq; have sa := And.intro ((Kept.cell (p := ⟨r, 0, none⟩) f1b zq (fun h => h)).trans q0) (And.intro ((Kept.cell (p := ⟨r, 1, none⟩) f1b zq (fun h => h)).trans q1) (And.intro ((Kept.cell (p := ⟨r, 2, none⟩) f1b zq (fun h => h)).trans q2) ((Kept.cell (p := ⟨bl, ol, none⟩) f1b hbl (fun h => h)).trans d0))); have FB := Lib.hid f1b; have hz1 := f1b.size; clear f1 f1b)
         | (go_at_call 12; refine (HD.out _ (((Kept.refl (fun _ => False) wr).alloc (.cells #[.int .i64 0, .slice none 0 0, .int .i64 0] 47)).drew)).mono ?_; rintro e w1 ⟨A5, c5, y5, rfl, hl5, hr5, hok5, heq, f1⟩; have f1b : Fr wr w1 := (((Kept.refl (fun _ => False) wr).alloc (.cells #[.int .i64 0, .slice none 0 0, .int .i64 0] 47)).drew).trans f1; have HSH := Lib.hid hr5; have HL5 := Lib.hid hl5; have HOK5 := Lib.hid hok5; have HEQ := Lib.hid heq; clear hr5 hl5 hok5 heq; have sa := And.intro ((Kept.cell (p := ⟨r, 0, none⟩) f1b zq (fun h => h)).trans q0) (And.intro ((Kept.cell (p := ⟨r, 1, none⟩) f1b zq (fun h => h)).trans q1) (And.intro ((Kept.cell (p := ⟨r, 2, none⟩) f1b zq (fun h => h)).trans q2) ((Kept.cell (p := ⟨bl, ol, none⟩) f1b hbl (fun h => h)).trans d0))); have FB := Lib.hid f1b; have bg1 := ((Blk.new wr 47 #[.int .i64 0, .slice none 0 0, .int .i64 0]).drew.kept f1 (fun h => h)); have BG := Lib.hid bg1; have g0 := bg1.cell 0; have y0 := bg1.frozen 0; have g1 := bg1.cell 1; have y1 := bg1.frozen 1; have g2 := bg1.cell 2; have y2 := bg1.frozen 2; have zg := bg1.lt; simp only [List.getElem?_toArray, List.getElem?_cons_succ, List.getElem?_cons_zero] at g0 g1 g2; have kst := ((((Kept.refl (fun k => k = wr.heap.size) w1).setCell (p := ⟨wr.heap.size, 0, none⟩) (fun _ => rfl) (.int .i64 (y5.state : Int))).setCell (p := ⟨wr.heap.size, 1, none⟩) (fun _ => rfl) (.slice A5 y5.out.length c5)).setCell (p := ⟨wr.heap.size, 2, none⟩) (fun _ => rfl) (.int .i64 (y5.steps : Int))); have sb : (((w1.setCell ⟨wr.heap.size, 0, none⟩ (.int .i64 (y5.state : Int))).setCell ⟨wr.heap.size, 1, none⟩ (.slice A5 y5.out.length c5)).setCell ⟨wr.heap.size, 2, none⟩ (.int .i64 (y5.steps : Int))).cell? ⟨r, 0, none⟩ = some vw ∧ (((w1.setCell ⟨wr.heap.size, 0, none⟩ (.int .i64 (y5.state : Int))).setCell ⟨wr.heap.size, 1, none⟩ (.slice A5 y5.out.length c5)).setCell ⟨wr.heap.size, 2, none⟩ (.int .i64 (y5.steps : Int))).cell? ⟨r, 1, none⟩ = some vc ∧ (((w1.setCell ⟨wr.heap.size, 0, none⟩ (.int .i64 (y5.state : Int))).setCell ⟨wr.heap.size, 1, none⟩ (.slice A5 y5.out.length c5)).setCell ⟨wr.heap.size, 2, none⟩ (.int .i64 (y5.steps : Int))).cell? ⟨r, 2, none⟩ = some (.slice A3 g.ins.length c3) ∧ (((w1.setCell ⟨wr.heap.size, 0, none⟩ (.int .i64 (y5.state : Int))).setCell ⟨wr.heap.size, 1, none⟩ (.slice A5 y5.out.length c5)).setCell ⟨wr.heap.size, 2, none⟩ (.int .i64 (y5.steps : Int))).cell? ⟨bl, ol, none⟩ = some (.int .u32 (a0 : Int)) := And.intro ((kst.cell (p := ⟨r, 0, none⟩) (by simp only; omega) (by simp only; omega)).trans sa.1) (And.intro ((kst.cell (p := ⟨r, 1, none⟩) (by simp only; omega) (by simp only; omega)).trans sa.2.1) (And.intro ((kst.cell (p := ⟨r, 2, none⟩) (by simp only; omega) (by simp only; omega)).trans sa.2.2.1) ((kst.cell (p := ⟨bl, ol, none⟩) (by simp only; omega) (by simp only; omega)).trans sa.2.2.2))); have KST := Lib.hid kst; clear f1 f1b bg1 kst))
     all_goals
       first
         | (have kz := FB.out.size
            have HFE := Lib.hid (show Fr wr (((w1.setCell ⟨wr.heap.size, 0, none⟩ (.int .i64 (y5.state : Int))).setCell ⟨wr.heap.size, 1, none⟩ (.slice A5 y5.out.length c5)).setCell ⟨wr.heap.size, 2, none⟩ (.int .i64 (y5.steps : Int))) from FB.out.then KST.out (fun i hi hs => by have hs2 : i = wr.heap.size := hs; omega))
            have BE := Lib.hid (show Blk (((w1.setCell ⟨wr.heap.size, 0, none⟩ (.int .i64 (y5.state : Int))).setCell ⟨wr.heap.size, 1, none⟩ (.slice A5 y5.out.length c5)).setCell ⟨wr.heap.size, 2, none⟩ (.int .i64 (y5.steps : Int))) wr.heap.size 47 #[(.int .i64 (y5.state : Int)), (.slice A5 y5.out.length c5), (.int .i64 (y5.steps : Int))] from (((BG.out.set_ 0 (.int .i64 (y5.state : Int))).set_ 1 (.slice A5 y5.out.length c5)).set_ 2 (.int .i64 (y5.steps : Int))))
            have HSE := Lib.hid ((HSH.out.kept KST.out (fun b h e => by simp [World.drew] at h; omega)).more (R' := fun _ => True) (fun _ _ => trivial))
            clear sa sb FB KST BG g0 y0 g1 y1 g2 y2 zg kz
            generalize (((w1.setCell ⟨wr.heap.size, 0, none⟩ (.int .i64 (y5.state : Int))).setCell ⟨wr.heap.size, 1, none⟩ (.slice A5 y5.out.length c5)).setCell ⟨wr.heap.size, 2, none⟩ (.int .i64 (y5.steps : Int))) = wE at *
            generalize hgE : wr.heap.size = gE at *)
         | (have HFE := Lib.hid (FB.out.alloc (.cells #[(.int .i64 (y5.state : Int)), (.slice A5 y5.out.length c5), (.int .i64 (y5.steps : Int))] 47))
            have BE := Lib.hid (Blk.new w1 47 #[(.int .i64 (y5.state : Int)), (.slice A5 y5.out.length c5), (.int .i64 (y5.steps : Int))])
            have HSE := Lib.hid ((HSH.out.kept ((Kept.refl (fun _ => False) w1).alloc (.cells #[(.int .i64 (y5.state : Int)), (.slice A5 y5.out.length c5), (.int .i64 (y5.steps : Int))] 47)) (fun _ _ h => h)).more (R' := fun _ => True) (fun _ _ => trivial))
            clear sa FB hz1
            generalize (w1.alloc (.cells #[(.int .i64 (y5.state : Int)), (.slice A5 y5.out.length c5), (.int .i64 (y5.steps : Int))] 47)) = wE at *
            generalize hgE : w1.heap.size = gE at *)
       clear hgE
       have tt0 := BE.out.cell 0
       have tt1 := BE.out.cell 1
       have tt2 := BE.out.cell 2
       have zt := BE.out.lt
       simp only [List.getElem?_toArray, List.getElem?_cons_succ, List.getElem?_cons_zero] at tt0 tt1 tt2
       have HS := Lib.hid (shownk_any (fun _ => True) rr HWR.out.1 (by have := HWR.out.2; omega) (.agg #[.int .i64 (y5.state : Int), .slice A5 y5.out.length c5, .int .i64 (y5.steps : Int)]) y5 wE ⟨A5, c5, rfl, HL5.out, HSE.out⟩ HOK5.out)
       go_wp2_with fail
       refine HS.out.mono ?_
       rintro e w6 ⟨rfl, f6⟩
       have HF6 := Lib.hid ((HF2.out.trans HFE.out).trans f6)
       have HP6 := Lib.hid ((HP2.out.fr HFE.out).fr f6)
       clear f6
       go_wp2
       go_ret
       exact ⟨by rw [HE.out, ← HEQ.out]; rfl, HF6.out, _, _, _, HP6.out⟩
end Go.Proofs.YtodmkjeankbieaaGreatDoor

