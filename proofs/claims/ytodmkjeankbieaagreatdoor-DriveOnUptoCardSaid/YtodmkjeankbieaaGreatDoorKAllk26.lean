/- Texts of this claim, packed. -/
import Derived.Test.YtodmkjeankbieaaGreatDoorKAllk23
import Derived.Test.YtodmkjeankbieaaGreatDoorKAllk25
set_option linter.all false
namespace Go.Proofs.YtodmkjeankbieaaGreatDoor
open Go.RowKit Go.Sort Go.Lib

set_option maxHeartbeats 12800000 in
set_option maxRecDepth 100000 in
theorem kline_on (wB w : World) (r : Nat) (vw vc vi : Value) (g : PS) (s x : Tx) (ws : List Tx) (a0 a1 : Nat) (hB : Fr wB w) (hm : PlM w wB.heap.size r 31 vw vc vi g) (hok : PsOk g) (hs : s.length < 4294967281) (hps : partsL 32 s = x :: ws) (hl : numsF ws = some [a0, a1]) (h1 : s ≠ narrowT) (h2 : s ≠ wideT) (h3 : s ≠ nearT) (hx : x = onT) :
   Calls Tryz.prog 6 #[.pointer (some ⟨r, 0, none⟩), .string (bA s)] w (LinePost wB r 31 (g, onF g a0 a1)) := by
 have q1 : ((bA s).toList == ([110, 97, 114, 114, 111, 119] : List UInt8)) = false := tx_f (t := narrowT) h1
 have q1n : ¬ (bA s).toList = ([110, 97, 114, 114, 111, 119] : List UInt8) := tx_n (t := narrowT) h1
 have q2 : ((bA s).toList == ([119, 105, 100, 101] : List UInt8)) = false := tx_f (t := wideT) h2
 have q2n : ¬ (bA s).toList = ([119, 105, 100, 101] : List UInt8) := tx_n (t := wideT) h2
 have q3 : ((bA s).toList == ([110, 101, 97, 114] : List UInt8)) = false := tx_f (t := nearT) h3
 have q3n : ¬ (bA s).toList = ([110, 101, 97, 114] : List UInt8) := tx_n (t := nearT) h3
 have x0 : ((bA x).toList == ([99, 111, 100, 101] : List UInt8)) = false := tx_f (t := codeT) (by rw [hx]; decide)
 have x0n : ¬ (bA x).toList = ([99, 111, 100, 101] : List UInt8) := tx_n (t := codeT) (by rw [hx]; decide)
 have x1 : ((bA x).toList == ([105, 110, 115] : List UInt8)) = false := tx_f (t := insT) (by rw [hx]; decide)
 have x1n : ¬ (bA x).toList = ([105, 110, 115] : List UInt8) := tx_n (t := insT) (by rw [hx]; decide)
 have x2 : ((bA x).toList == ([114, 117, 110] : List UInt8)) = false := tx_f (t := runT) (by rw [hx]; decide)
 have x2n : ¬ (bA x).toList = ([114, 117, 110] : List UInt8) := tx_n (t := runT) (by rw [hx]; decide)
 have x3 : (bA x).toList = ([111, 110] : List UInt8) := tx_t (t := onT) hx
 have x4 : ((bA x).toList == ([98, 121, 116, 101, 115] : List UInt8)) = false := tx_f (t := bytesT) (by rw [hx]; decide)
 have x4n : ¬ (bA x).toList = ([98, 121, 116, 101, 115] : List UInt8) := tx_n (t := bytesT) (by rw [hx]; decide)
 have hk0 : a0 < 4294967296 := numsF_lt hl a0 (by simp)
 have hk1 : a1 < 4294967296 := numsF_lt hl a1 (by simp)
 have u0 : IntKind.i64.wrap (a0 : Int) = (a0 : Int) := by simp [IntKind.wrap, IntKind.bits, IntKind.signed]; omega
 have u1 : IntKind.i64.wrap (a1 : Int) = (a1 : Int) := by simp [IntKind.wrap, IntKind.bits, IntKind.signed]; omega
 clear h1 h2 h3 hx
 have HB := Lib.hid hB
 have HM := Lib.hid hm
 have HOK := Lib.hid hok
 have hl0 := partsL_len 32 s
 rw [hps] at hl0
 simp only [List.length_cons] at hl0
 have hk1 := splitk_any s 32 (by omega) w
 rw [hps] at hk1
 simp only [List.length_cons] at hk1
 have HSP := Lib.hid hk1
 have hsw := hB.size
 have hlw : ([a0, a1] : List Nat).length = ws.length := numsF_len hl
 have HNL := Lib.hid (numsF_all hl)
 clear hB hm hok hk1 hps hl
 go_enter Tryz.func6, Tryz.ntmps6
 go_wp2_with fail
 refine HSP.out.mono ?_
 rintro e w1 ⟨v1, rfl, ho1, f1⟩
 obtain ⟨Aw, cw, rfl, _, hrw⟩ := own_reads ho1
 obtain ⟨bw, ow, rfl, _, hcw⟩ := hrw.2 (by omega)
 have HCW := Lib.hid hcw
 have HF1 := Lib.hid (HB.out.trans f1)
 have HP1 := Lib.hid (HM.out.fr f1)
 have hsz1 := f1.size
 have hc0 := hcw 0 (.string (bA x)) rfl
 rw [Nat.add_zero] at hc0
 have HC0 := Lib.hid hc0
 clear f1 hrw hcw ho1 hc0
 go_wp2_with fail
 go_loopw [6, 7] (fun lv iv wr => ∃ j : Nat, 1 ≤ j ∧ j ≤ ws.length + 1 ∧ iv = .int .i64 j ∧ Hid (wr.ownsRow w1.heap.size 35 1 lv (([a0, a1] : List Nat).take (j - 1)).length (u32n (([a0, a1] : List Nat).take (j - 1)))) ∧ Hid (Fr w1 wr)) (fun _ i _ => ws.length + 1 - (intOf i).toNat)
 case atStart => exact ⟨1, by omega, by omega, rfl, World.ownsRow_nil _ _ _ _, Kept.refl _ w1⟩
 case round =>
   obtain ⟨j, hj1, hj2, rfl, ho, hf⟩ := hrel
   have hsw1 := hf.out.size
   have hll : (([a0, a1] : List Nat).take (j - 1)).length = j - 1 := by rw [List.length_take]; omega
   by_cases hlt : j < ws.length + 1
   · obtain ⟨y, u, hy, hu, hn, hu32⟩ := HNL.out (j - 1) (by omega)
     have d0 : wr.cell? ⟨bw, ow + j, none⟩ = some (.string (bA y)) := by
       have h0 := HCW.out j _ (txs_at hj1 hy)
       exact (Kept.cell hf.out (p := ⟨bw, ow + j, none⟩) (cell_lt h0) (fun h => h)).trans h0
     have hbz := cell_lt d0
     have HN := Lib.hid (number_ok hn wr)
     have HTK := Lib.hid (take_snoc' hj1 hu)
     have HLL := Lib.hid hll
     clear hy hu hn hll
     go_wp2_with fail
     refine HN.out.mono ?_
     rintro e w3 ⟨rfl, rfl⟩
     go_wp2_with (first
       | (at_builtin
          refine wpList_app (base := w1.heap.size) _ rfl slU32d (.tmp 46) (.tmp 48) rfl u6 _ _ rfl (World.ownsRow.alloc ho.out _) (fun _ => True) _ 1 1 [.int .u32 (u : Int)] rfl (Reads.lit' (by simp) trivial rfl) ?_ ?_ ?_ ?_ ?_
          · simp [Value.oneCell']
          · have := HLL.out; omega
          · have := HLL.out; unfold maxLen; omega
          · simp; omega
          intro v7 w7 hown7 hk7 _
          have HO7 := Lib.hid (show w7.ownsRow w1.heap.size 35 1 v7 (([a0, a1] : List Nat).take (j + 1 - 1)).length (u32n (([a0, a1] : List Nat).take (j + 1 - 1))) from by rw [HTK.out, List.length_append, List.length_singleton, u32n_snoc]; exact hown7)
          have HF7 := Lib.hid ((hf.out.alloc _).app (World.ownsRow.alloc ho.out _) hk7)
          clear hown7 hk7)
       | go_in)
     go_roundw
     case rel => exact ⟨j + 1, by omega, by omega, by go_num, HO7, HF7⟩
     case measure => simp [intOf]; omega
   · obtain rfl : j = ws.length + 1 := by omega
     have hta : ([a0, a1] : List Nat).take (ws.length + 1 - 1) = [a0, a1] := List.take_of_length_le (by omega)
     have hob := ho.out
     rw [hta] at hob
     have HO2 := Lib.hid (show wr.ownsRow wB.heap.size 35 1 u6 2 (u32n [a0, a1]) from own_low hob (by omega))
     have HF2 := Lib.hid (HF1.out.trans hf.out)
     have HP2 := Lib.hid (HP1.out.fr hf.out)
     have c0 : wr.cell? ⟨bw, ow, none⟩ = some (.string (bA x)) := (Kept.cell hf.out (p := ⟨bw, ow, none⟩) (cell_lt HC0.out) (fun h => h)).trans HC0.out
     have z0 := cell_lt c0
     obtain ⟨A2, c2, rfl, _⟩ := own_reads HO2.out
     clear ho hf hob hta hll hj1 hj2 hlt hlw HNL HCW HC0
     obtain ⟨bl, ol, rfl, ⟨hbr, hbo⟩, hcl⟩ := (own_apart HO2.out HP2.out).2 (by omega)
     have d0 := hcl 0 (.int .u32 (a0 : Int)) rfl
     have d1 := hcl 1 (.int .u32 (a1 : Int)) rfl
     rw [Nat.add_zero] at d0
     have hbl := cell_lt d0
     clear hcl
     have HF3 := Lib.hid (show Fr wr (wr.alloc (.cells #[.int .i64 (a0 : Int)] 52)) from (Kept.refl _ wr).alloc _)
     have BT := Lib.hid (Blk.new wr 52 #[.int .i64 (a0 : Int)])
     have t0 := BT.out.cell 0
     have zt := BT.out.lt
     simp only [List.getElem?_toArray, List.getElem?_cons_succ, List.getElem?_cons_zero] at t0
     have HPT := Lib.hid (HP2.out.fr HF3.out)
     have q0 := HPT.out.blk.cell 0
     have q1 := HPT.out.blk.cell 1
     have q2 := HPT.out.blk.cell 2
     have zq := HPT.out.blk.lt
     simp only [List.getElem?_toArray, List.getElem?_cons_succ, List.getElem?_cons_zero] at q0 q1 q2
     have e1 := (Kept.cell (p := ⟨bl, ol + 1, none⟩) HF3.out hbl (fun h => h)).trans d1
     have zl := cell_lt e1
     cases hb : (mayB g.p && tgB (a0 : Int)) with
     | false =>
       have HE : Hid (onF g a0 a1 = saidF badT [2]) := by show _ = _; unfold onF; rw [if_pos hb]
       have HBU := Lib.hid (fun w3 (f : Fr (wr.alloc (.cells #[.int .i64 (a0 : Int)] 52)) w3) => build_no (sg := (a0 : Int)) ((HPT.out.fr f).rd) hb)
       unfold tgV at HBU
       clear hb
       go_wp2_with fail
       generalize (wr.alloc (.cells #[.int .i64 (a0 : Int)] 52)) = wT at *
       generalize hgT : wr.heap.size = gT at *
       clear hgT
       go_region_held_law (fun w' => w'.cell? ⟨r, 0, none⟩ = some vw ∧ w'.cell? ⟨r, 1, none⟩ = some vc ∧ w'.cell? ⟨gT, 0, none⟩ = some (.int .i64 (a0 : Int))) (first | go_keep | exact sa | exact sb)
         (first
           | (go_at_call 14; refine (HBU.out _ ((Kept.refl (fun _ => False) wT).drew)).mono ?_; rintro e w1 ⟨rfl, f1⟩; have f1b : Fr wT w1 := ((Kept.refl (fun _ => False) wT).drew).trans f1; have sa := And.intro ((Kept.cell (p := ⟨r, 0, none⟩) f1b zq (fun h => h)).trans q0) (And.intro ((Kept.cell (p := ⟨r, 1, none⟩) f1b zq (fun h => h)).trans q1) ((Kept.cell (p := ⟨gT, 0, none⟩) f1b zt (fun h => h)).trans t0)); have FB := Lib.hid f1b; have hz1 := f1b.size; clear f1 f1b)
           | (go_at_call 14; refine (HBU.out _ (((Kept.refl (fun _ => False) wT).alloc (.cells #[.int .i64 0, .slice none 0 0] 55)).drew)).mono ?_; rintro e w1 ⟨rfl, f1⟩; have f1b : Fr wT w1 := (((Kept.refl (fun _ => False) wT).alloc (.cells #[.int .i64 0, .slice none 0 0] 55)).drew).trans f1; have sa := And.intro ((Kept.cell (p := ⟨r, 0, none⟩) f1b zq (fun h => h)).trans q0) (And.intro ((Kept.cell (p := ⟨r, 1, none⟩) f1b zq (fun h => h)).trans q1) ((Kept.cell (p := ⟨gT, 0, none⟩) f1b zt (fun h => h)).trans t0)); have FB := Lib.hid f1b; have bg1 := ((Blk.new wT 55 #[.int .i64 0, .slice none 0 0]).drew.kept f1 (fun h => h)); have BG := Lib.hid bg1; have g0 := bg1.cell 0; have y0 := bg1.frozen 0; have g1 := bg1.cell 1; have y1 := bg1.frozen 1; have zg := bg1.lt; simp only [List.getElem?_toArray, List.getElem?_cons_succ, List.getElem?_cons_zero] at g0 g1; have kst := (((Kept.refl (fun k => k = wT.heap.size) w1).setCell (p := ⟨wT.heap.size, 0, none⟩) (fun _ => rfl) (.int .i64 0)).setCell (p := ⟨wT.heap.size, 1, none⟩) (fun _ => rfl) (.slice none 0 0)); have sb : ((w1.setCell ⟨wT.heap.size, 0, none⟩ (.int .i64 0)).setCell ⟨wT.heap.size, 1, none⟩ (.slice none 0 0)).cell? ⟨r, 0, none⟩ = some vw ∧ ((w1.setCell ⟨wT.heap.size, 0, none⟩ (.int .i64 0)).setCell ⟨wT.heap.size, 1, none⟩ (.slice none 0 0)).cell? ⟨r, 1, none⟩ = some vc ∧ ((w1.setCell ⟨wT.heap.size, 0, none⟩ (.int .i64 0)).setCell ⟨wT.heap.size, 1, none⟩ (.slice none 0 0)).cell? ⟨gT, 0, none⟩ = some (.int .i64 (a0 : Int)) := And.intro ((kst.cell (p := ⟨r, 0, none⟩) (by simp only; omega) (by simp only; omega)).trans sa.1) (And.intro ((kst.cell (p := ⟨r, 1, none⟩) (by simp only; omega) (by simp only; omega)).trans sa.2.1) ((kst.cell (p := ⟨gT, 0, none⟩) (by simp only; omega) (by simp only; omega)).trans sa.2.2)); have KST := Lib.hid kst; clear f1 f1b bg1 kst))
       all_goals
         first
           | (have kz := FB.out.size
              have HFE := Lib.hid (show Fr wT ((w1.setCell ⟨wT.heap.size, 0, none⟩ (.int .i64 0)).setCell ⟨wT.heap.size, 1, none⟩ (.slice none 0 0)) from FB.out.then KST.out (fun i hi hs => by have hs2 : i = wT.heap.size := hs; omega))
              have BE := Lib.hid (show Blk ((w1.setCell ⟨wT.heap.size, 0, none⟩ (.int .i64 0)).setCell ⟨wT.heap.size, 1, none⟩ (.slice none 0 0)) wT.heap.size 55 #[(.int .i64 0), (.slice none 0 0)] from ((BG.out.set_ 0 (.int .i64 0)).set_ 1 (.slice none 0 0)))
              clear sa sb FB KST BG g0 y0 g1 y1 zg kz
              generalize ((w1.setCell ⟨wT.heap.size, 0, none⟩ (.int .i64 0)).setCell ⟨wT.heap.size, 1, none⟩ (.slice none 0 0)) = wE at *
              generalize hgE : wT.heap.size = gE at *)
           | (have HFE := Lib.hid (FB.out.alloc (.cells #[(.int .i64 0), (.slice none 0 0)] 55))
              have BE := Lib.hid (Blk.new w1 55 #[(.int .i64 0), (.slice none 0 0)])
              clear sa FB hz1
              generalize (w1.alloc (.cells #[(.int .i64 0), (.slice none 0 0)] 55)) = wE at *
              generalize hgE : w1.heap.size = gE at *)
         clear hgE
         have HS := Lib.hid (said1x badT ⟨#[98, 97, 100]⟩ rfl 2 2 rfl (by omega) (by decide) wE wE.heap.size rfl)
         go_wp2_with fail
         refine HS.out.mono ?_
         rintro e w6 ⟨rfl, f6⟩
         have HF6 := Lib.hid (((HF2.out.trans HF3.out).trans HFE.out).trans f6)
         have HP6 := Lib.hid ((HPT.out.fr HFE.out).fr f6)
         clear f6
         go_wp2
         go_ret
         exact ⟨by rw [HE.out]; rfl, HF6.out, _, _, _, HP6.out⟩
     | true =>
       have HE : Hid (onF g a0 a1 = shownF (dWrong g.p (a0 : Int) (buildF g.p (a0 : Int)) g.ins.length (a1 : Int)) (doneV g.p (buildF g.p (a0 : Int)).rows (insI g.ins) a1)) := by show _ = _; unfold onF; rw [hb, if_neg (by simp)]
       have HBU := Lib.hid (fun w3 (f : Fr (wr.alloc (.cells #[.int .i64 (a0 : Int)] 52)) w3) => build_ok (sg := (a0 : Int)) ((HPT.out.fr f).rd) hb)
       unfold tgV at HBU
       clear hb
       generalize buildF g.p (a0 : Int) = bf at *
       go_wp2_with fail
       generalize (wr.alloc (.cells #[.int .i64 (a0 : Int)] 52)) = wT at *
       generalize hgT : wr.heap.size = gT at *
       clear hgT
       go_region_held_law (fun w' => w'.cell? ⟨r, 0, none⟩ = some vw ∧ w'.cell? ⟨r, 1, none⟩ = some vc ∧ w'.cell? ⟨gT, 0, none⟩ = some (.int .i64 (a0 : Int))) (first | go_keep | exact sa | exact sb)
         (first
           | (go_at_call 14; refine (HBU.out _ ((Kept.refl (fun _ => False) wT).drew)).mono ?_; rintro e w1 ⟨A1, c1, rfl, hr1, f1⟩; have f1b : Fr wT w1 := ((Kept.refl (fun _ => False) wT).drew).trans f1; have HR1 := Lib.hid hr1; clear hr1; have sa := And.intro ((Kept.cell (p := ⟨r, 0, none⟩) f1b zq (fun h => h)).trans q0) (And.intro ((Kept.cell (p := ⟨r, 1, none⟩) f1b zq (fun h => h)).trans q1) ((Kept.cell (p := ⟨gT, 0, none⟩) f1b zt (fun h => h)).trans t0)); have FB := Lib.hid f1b; have hz1 := f1b.size; clear f1 f1b)
           | (go_at_call 14; refine (HBU.out _ (((Kept.refl (fun _ => False) wT).alloc (.cells #[.int .i64 0, .slice none 0 0] 55)).drew)).mono ?_; rintro e w1 ⟨A1, c1, rfl, hr1, f1⟩; have f1b : Fr wT w1 := (((Kept.refl (fun _ => False) wT).alloc (.cells #[.int .i64 0, .slice none 0 0] 55)).drew).trans f1; have HR1 := Lib.hid hr1; clear hr1; have sa := And.intro ((Kept.cell (p := ⟨r, 0, none⟩) f1b zq (fun h => h)).trans q0) (And.intro ((Kept.cell (p := ⟨r, 1, none⟩) f1b zq (fun h => h)).trans q1) ((Kept.cell (p := ⟨gT, 0, none⟩) f1b zt (fun h => h)).trans t0)); have FB := Lib.hid f1b; have bg1 := ((Blk.new wT 55 #[.int .i64 0, .slice none 0 0]).drew.kept f1 (fun h => h)); have BG := Lib.hid bg1; have g0 := bg1.cell 0; have y0 := bg1.frozen 0; have g1 := bg1.cell 1; have y1 := bg1.frozen 1; have zg := bg1.lt; simp only [List.getElem?_toArray, List.getElem?_cons_succ, List.getElem?_cons_zero] at g0 g1; have kst := (((Kept.refl (fun k => k = wT.heap.size) w1).setCell (p := ⟨wT.heap.size, 0, none⟩) (fun _ => rfl) (.int .i64 (g.p.wide.length : Int))).setCell (p := ⟨wT.heap.size, 1, none⟩) (fun _ => rfl) (.slice A1 g.p.code.length c1)); have sb : ((w1.setCell ⟨wT.heap.size, 0, none⟩ (.int .i64 (g.p.wide.length : Int))).setCell ⟨wT.heap.size, 1, none⟩ (.slice A1 g.p.code.length c1)).cell? ⟨r, 0, none⟩ = some vw ∧ ((w1.setCell ⟨wT.heap.size, 0, none⟩ (.int .i64 (g.p.wide.length : Int))).setCell ⟨wT.heap.size, 1, none⟩ (.slice A1 g.p.code.length c1)).cell? ⟨r, 1, none⟩ = some vc ∧ ((w1.setCell ⟨wT.heap.size, 0, none⟩ (.int .i64 (g.p.wide.length : Int))).setCell ⟨wT.heap.size, 1, none⟩ (.slice A1 g.p.code.length c1)).cell? ⟨gT, 0, none⟩ = some (.int .i64 (a0 : Int)) := And.intro ((kst.cell (p := ⟨r, 0, none⟩) (by simp only; omega) (by simp only; omega)).trans sa.1) (And.intro ((kst.cell (p := ⟨r, 1, none⟩) (by simp only; omega) (by simp only; omega)).trans sa.2.1) ((kst.cell (p := ⟨gT, 0, none⟩) (by simp only; omega) (by simp only; omega)).trans sa.2.2)); have KST := Lib.hid kst; clear f1 f1b bg1 kst))
       all_goals
         first
           | (have kz := FB.out.size
              have HFE := Lib.hid (show Fr wT ((w1.setCell ⟨wT.heap.size, 0, none⟩ (.int .i64 (g.p.wide.length : Int))).setCell ⟨wT.heap.size, 1, none⟩ (.slice A1 g.p.code.length c1)) from FB.out.then KST.out (fun i hi hs => by have hs2 : i = wT.heap.size := hs; omega))
              have BE := Lib.hid (show Blk ((w1.setCell ⟨wT.heap.size, 0, none⟩ (.int .i64 (g.p.wide.length : Int))).setCell ⟨wT.heap.size, 1, none⟩ (.slice A1 g.p.code.length c1)) wT.heap.size 55 #[(.int .i64 (g.p.wide.length : Int)), (.slice A1 g.p.code.length c1)] from ((BG.out.set_ 0 (.int .i64 (g.p.wide.length : Int))).set_ 1 (.slice A1 g.p.code.length c1)))
              have HRE := Lib.hid ((HR1.out.kept KST.out (fun b h e => by have := h.1; simp [World.drew] at this; omega)).more (R' := fun _ => True) (fun _ _ => trivial))
              clear sa sb FB KST BG g0 y0 g1 y1 zg kz
              generalize ((w1.setCell ⟨wT.heap.size, 0, none⟩ (.int .i64 (g.p.wide.length : Int))).setCell ⟨wT.heap.size, 1, none⟩ (.slice A1 g.p.code.length c1)) = wE at *
              generalize hgE : wT.heap.size = gE at *)
           | (have HFE := Lib.hid (FB.out.alloc (.cells #[(.int .i64 (g.p.wide.length : Int)), (.slice A1 g.p.code.length c1)] 55))
              have BE := Lib.hid (Blk.new w1 55 #[(.int .i64 (g.p.wide.length : Int)), (.slice A1 g.p.code.length c1)])
              have HRE := Lib.hid ((HR1.out.kept ((Kept.refl (fun _ => False) w1).alloc (.cells #[(.int .i64 (g.p.wide.length : Int)), (.slice A1 g.p.code.length c1)] 55)) (fun _ _ h => h)).more (R' := fun _ => True) (fun _ _ => trivial))
              clear sa FB hz1
              generalize (w1.alloc (.cells #[(.int .i64 (g.p.wide.length : Int)), (.slice A1 g.p.code.length c1)] 55)) = wE at *
              generalize hgE : w1.heap.size = gE at *)
         clear hgE
         have HPE := Lib.hid (HPT.out.fr HFE.out)
         obtain ⟨A3, c3, rfl, hn3, hc3, hr3⟩ := own_cap HPE.out.oi
         have p0 := HPE.out.blk.cell 0
         have p1 := HPE.out.blk.cell 1
         have p2 := HPE.out.blk.cell 2
         have zp := HPE.out.blk.lt
         have bb0 := BE.out.cell 0
         have bb1 := BE.out.cell 1
         have zb := BE.out.lt
         simp only [List.getElem?_toArray, List.getElem?_cons_succ, List.getElem?_cons_zero] at p0 p1 p2 bb0 bb1
         have m0 := (Kept.cell (p := ⟨gT, 0, none⟩) HFE.out (cell_lt t0) (fun h => h)).trans t0
         have zm := cell_lt m0
         have e2 := (Kept.cell (p := ⟨bl, ol + 1, none⟩) HFE.out (cell_lt e1) (fun h => h)).trans e1
         have zl1 := cell_lt e2
         have HFT := Lib.hid (HF2.out.trans (HF3.out.trans HFE.out))
         have HD := Lib.hid (fun w3 (f : Fr wE w3) => done_sh2 (n := a1) (sg := (a0 : Int)) ((HPE.out.fr f).rd) (HRE.out.kept f (fun _ _ h => h)) hn3 hc3 (hr3.kept f (fun _ _ h => h)) HPE.out.oki)
         unfold tgV at HD
         have hwr := dWrong_at g.p (a0 : Int) bf g.ins.length (a1 : Int)
         generalize dWrong g.p (a0 : Int) bf g.ins.length (a1 : Int) = rr at *
         generalize doneV g.p bf.rows (insI g.ins) a1 = xx at *
         have HWR := Lib.hid hwr
         clear hr3 hn3 hc3 hwr q0 q1 q2 zq t0 zt e1 zl HFE BE HBU
         go_wp2_with fail
         go_region_held_law (fun w' => w'.cell? ⟨r, 0, none⟩ = some vw ∧ w'.cell? ⟨r, 1, none⟩ = some vc ∧ w'.cell? ⟨r, 2, none⟩ = some (.slice A3 g.ins.length c3) ∧ w'.cell? ⟨gT, 0, none⟩ = some (.int .i64 (a0 : Int)) ∧ w'.cell? ⟨gE, 0, none⟩ = some (.int .i64 (g.p.wide.length : Int)) ∧ w'.cell? ⟨gE, 1, none⟩ = some (.slice A1 g.p.code.length c1) ∧ w'.cell? ⟨bl, ol + 1, none⟩ = some (.int .u32 (a1 : Int))) (first | go_keep | exact sa | exact sb)
           (first
             | (go_at_call 15; refine (HD.out _ ((Kept.refl (fun _ => False) wE).drew)).mono ?_; rintro e w1 ⟨A5, c5, y5, rfl, hl5, hr5, hok5, heq, f1⟩; have f1b : Fr wE w1 := ((Kept.refl (fun _ => False) wE).drew).trans f1; have HSH := Lib.hid hr5; have HL5 := Lib.hid hl5; have HOK5 := Lib.hid hok5; have HEQ := Lib.hid heq; clear hr5 hl5 hok5 heq; have sa := And.intro ((Kept.cell (p := ⟨r, 0, none⟩) f1b zp (fun h => h)).trans p0) (And.intro ((Kept.cell (p := ⟨r, 1, none⟩) f1b zp (fun h => h)).trans p1) (And.intro ((Kept.cell (p := ⟨r, 2, none⟩) f1b zp (fun h => h)).trans p2) (And.intro ((Kept.cell (p := ⟨gT, 0, none⟩) f1b zm (fun h => h)).trans m0) (And.intro ((Kept.cell (p := ⟨gE, 0, none⟩) f1b zb (fun h => h)).trans bb0) (And.intro ((Kept.cell (p := ⟨gE, 1, none⟩) f1b zb (fun h => h)).trans bb1) ((Kept.cell (p := ⟨bl, ol + 1, none⟩) f1b zl1 (fun h => h)).trans e2)))))); have FB := Lib.hid f1b; have hz1 := f1b.size; clear f1 f1b)
             | (go_at_call 15; refine (HD.out _ (((Kept.refl (fun _ => False) wE).alloc (.cells #[.int .i64 0, .slice none 0 0, .int .i64 0] 47)).drew)).mono ?_; rintro e w1 ⟨A5, c5, y5, rfl, hl5, hr5, hok5, heq, f1⟩; have f1b : Fr wE w1 := (((Kept.refl (fun _ => False) wE).alloc (.cells #[.int .i64 0, .slice none 0 0, .int .i64 0] 47)).drew).trans f1; have HSH := Lib.hid hr5; have HL5 := Lib.hid hl5; have HOK5 := Lib.hid hok5; have HEQ := Lib.hid heq; clear hr5 hl5 hok5 heq; have sa := And.intro ((Kept.cell (p := ⟨r, 0, none⟩) f1b zp (fun h => h)).trans p0) (And.intro ((Kept.cell (p := ⟨r, 1, none⟩) f1b zp (fun h => h)).trans p1) (And.intro ((Kept.cell (p := ⟨r, 2, none⟩) f1b zp (fun h => h)).trans p2) (And.intro ((Kept.cell (p := ⟨gT, 0, none⟩) f1b zm (fun h => h)).trans m0) (And.intro ((Kept.cell (p := ⟨gE, 0, none⟩) f1b zb (fun h => h)).trans bb0) (And.intro ((Kept.cell (p := ⟨gE, 1, none⟩) f1b zb (fun h => h)).trans bb1) ((Kept.cell (p := ⟨bl, ol + 1, none⟩) f1b zl1 (fun h => h)).trans e2)))))); have FB := Lib.hid f1b; have bg1 := ((Blk.new wE 47 #[.int .i64 0, .slice none 0 0, .int .i64 0]).drew.kept f1 (fun h => h)); have BG := Lib.hid bg1; have g0 := bg1.cell 0; have y0 := bg1.frozen 0; have g1 := bg1.cell 1; have y1 := bg1.frozen 1; have g2 := bg1.cell 2; have y2 := bg1.frozen 2; have zg := bg1.lt; simp only [List.getElem?_toArray, List.getElem?_cons_succ, List.getElem?_cons_zero] at g0 g1 g2; have kst := ((((Kept.refl (fun k => k = wE.heap.size) w1).setCell (p := ⟨wE.heap.size, 0, none⟩) (fun _ => rfl) (.int .i64 (y5.state : Int))).setCell (p := ⟨wE.heap.size, 1, none⟩) (fun _ => rfl) (.slice A5 y5.out.length c5)).setCell (p := ⟨wE.heap.size, 2, none⟩) (fun _ => rfl) (.int .i64 (y5.steps : Int))); have sb : (((w1.setCell ⟨wE.heap.size, 0, none⟩ (.int .i64 (y5.state : Int))).setCell ⟨wE.heap.size, 1, none⟩ (.slice A5 y5.out.length c5)).setCell ⟨wE.heap.size, 2, none⟩ (.int .i64 (y5.steps : Int))).cell? ⟨r, 0, none⟩ = some vw ∧ (((w1.setCell ⟨wE.heap.size, 0, none⟩ (.int .i64 (y5.state : Int))).setCell ⟨wE.heap.size, 1, none⟩ (.slice A5 y5.out.length c5)).setCell ⟨wE.heap.size, 2, none⟩ (.int .i64 (y5.steps : Int))).cell? ⟨r, 1, none⟩ = some vc ∧ (((w1.setCell ⟨wE.heap.size, 0, none⟩ (.int .i64 (y5.state : Int))).setCell ⟨wE.heap.size, 1, none⟩ (.slice A5 y5.out.length c5)).setCell ⟨wE.heap.size, 2, none⟩ (.int .i64 (y5.steps : Int))).cell? ⟨r, 2, none⟩ = some (.slice A3 g.ins.length c3) ∧ (((w1.setCell ⟨wE.heap.size, 0, none⟩ (.int .i64 (y5.state : Int))).setCell ⟨wE.heap.size, 1, none⟩ (.slice A5 y5.out.length c5)).setCell ⟨wE.heap.size, 2, none⟩ (.int .i64 (y5.steps : Int))).cell? ⟨gT, 0, none⟩ = some (.int .i64 (a0 : Int)) ∧ (((w1.setCell ⟨wE.heap.size, 0, none⟩ (.int .i64 (y5.state : Int))).setCell ⟨wE.heap.size, 1, none⟩ (.slice A5 y5.out.length c5)).setCell ⟨wE.heap.size, 2, none⟩ (.int .i64 (y5.steps : Int))).cell? ⟨gE, 0, none⟩ = some (.int .i64 (g.p.wide.length : Int)) ∧ (((w1.setCell ⟨wE.heap.size, 0, none⟩ (.int .i64 (y5.state : Int))).setCell ⟨wE.heap.size, 1, none⟩ (.slice A5 y5.out.length c5)).setCell ⟨wE.heap.size, 2, none⟩ (.int .i64 (y5.steps : Int))).cell? ⟨gE, 1, none⟩ = some (.slice A1 g.p.code.length c1) ∧ (((w1.setCell ⟨wE.heap.size, 0, none⟩ (.int .i64 (y5.state : Int))).setCell ⟨wE.heap.size, 1, none⟩ (.slice A5 y5.out.length c5)).setCell ⟨wE.heap.size, 2, none⟩ (.int .i64 (y5.steps : Int))).cell? ⟨bl, ol + 1, none⟩ = some (.int .u32 (a1 : Int)) := And.intro ((kst.cell (p := ⟨r, 0, none⟩) (by simp only; omega) (by simp only; omega)).trans sa.1) (And.intro ((kst.cell (p := ⟨r, 1, none⟩) (by simp only; omega) (by simp only; omega)).trans sa.2.1) (And.intro ((kst.cell (p := ⟨r, 2, none⟩) (by simp only; omega) (by simp only; omega)).trans sa.2.2.1) (And.intro ((kst.cell (p := ⟨gT, 0, none⟩) (by simp only; omega) (by simp only; omega)).trans sa.2.2.2.1) (And.intro ((kst.cell (p := ⟨gE, 0, none⟩) (by simp only; omega) (by simp only; omega)).trans sa.2.2.2.2.1) (And.intro ((kst.cell (p := ⟨gE, 1, none⟩) (by simp only; omega) (by simp only; omega)).trans sa.2.2.2.2.2.1) ((kst.cell (p := ⟨bl, ol + 1, none⟩) (by simp only; omega) (by simp only; omega)).trans sa.2.2.2.2.2.2)))))); have KST := Lib.hid kst; clear f1 f1b bg1 kst))
         all_goals
           first
             | (have kz := FB.out.size
                have HFE := Lib.hid (show Fr wE (((w1.setCell ⟨wE.heap.size, 0, none⟩ (.int .i64 (y5.state : Int))).setCell ⟨wE.heap.size, 1, none⟩ (.slice A5 y5.out.length c5)).setCell ⟨wE.heap.size, 2, none⟩ (.int .i64 (y5.steps : Int))) from FB.out.then KST.out (fun i hi hs => by have hs2 : i = wE.heap.size := hs; omega))
                have BE := Lib.hid (show Blk (((w1.setCell ⟨wE.heap.size, 0, none⟩ (.int .i64 (y5.state : Int))).setCell ⟨wE.heap.size, 1, none⟩ (.slice A5 y5.out.length c5)).setCell ⟨wE.heap.size, 2, none⟩ (.int .i64 (y5.steps : Int))) wE.heap.size 47 #[(.int .i64 (y5.state : Int)), (.slice A5 y5.out.length c5), (.int .i64 (y5.steps : Int))] from (((BG.out.set_ 0 (.int .i64 (y5.state : Int))).set_ 1 (.slice A5 y5.out.length c5)).set_ 2 (.int .i64 (y5.steps : Int))))
                have HSE := Lib.hid ((HSH.out.kept KST.out (fun b h e => by simp [World.drew] at h; omega)).more (R' := fun _ => True) (fun _ _ => trivial))
                clear sa sb FB KST BG g0 y0 g1 y1 g2 y2 zg kz
                generalize (((w1.setCell ⟨wE.heap.size, 0, none⟩ (.int .i64 (y5.state : Int))).setCell ⟨wE.heap.size, 1, none⟩ (.slice A5 y5.out.length c5)).setCell ⟨wE.heap.size, 2, none⟩ (.int .i64 (y5.steps : Int))) = wF at *
                generalize hgE : wE.heap.size = gF at *)
             | (have HFE := Lib.hid (FB.out.alloc (.cells #[(.int .i64 (y5.state : Int)), (.slice A5 y5.out.length c5), (.int .i64 (y5.steps : Int))] 47))
                have BE := Lib.hid (Blk.new w1 47 #[(.int .i64 (y5.state : Int)), (.slice A5 y5.out.length c5), (.int .i64 (y5.steps : Int))])
                have HSE := Lib.hid ((HSH.out.kept ((Kept.refl (fun _ => False) w1).alloc (.cells #[(.int .i64 (y5.state : Int)), (.slice A5 y5.out.length c5), (.int .i64 (y5.steps : Int))] 47)) (fun _ _ h => h)).more (R' := fun _ => True) (fun _ _ => trivial))
                clear sa FB hz1
                generalize (w1.alloc (.cells #[(.int .i64 (y5.state : Int)), (.slice A5 y5.out.length c5), (.int .i64 (y5.steps : Int))] 47)) = wF at *
                generalize hgE : w1.heap.size = gF at *)
           clear hgE
           have tt0 := BE.out.cell 0
           have tt1 := BE.out.cell 1
           have tt2 := BE.out.cell 2
           have zt := BE.out.lt
           simp only [List.getElem?_toArray, List.getElem?_cons_succ, List.getElem?_cons_zero] at tt0 tt1 tt2
           have HS := Lib.hid (shownk_any (fun _ => True) rr HWR.out.1 (by have := HWR.out.2; omega) (.agg #[.int .i64 (y5.state : Int), .slice A5 y5.out.length c5, .int .i64 (y5.steps : Int)]) y5 wF ⟨A5, c5, rfl, HL5.out, HSE.out⟩ HOK5.out)
           go_wp2_with fail
           refine HS.out.mono ?_
           rintro e w6 ⟨rfl, f6⟩
           have HF6 := Lib.hid ((HFT.out.trans HFE.out).trans f6)
           have HP6 := Lib.hid ((HPE.out.fr HFE.out).fr f6)
           clear f6
           go_wp2
           go_ret
           exact ⟨by rw [HE.out, ← HEQ.out]; rfl, HF6.out, _, _, _, HP6.out⟩
end Go.Proofs.YtodmkjeankbieaaGreatDoor


namespace Go.Proofs.YtodmkjeankbieaaGreatDoor
open Go.RowKit Go.Sort Go.Lib

set_option maxHeartbeats 12800000 in
set_option maxRecDepth 100000 in
theorem kline_bytes (wB w : World) (r : Nat) (vw vc vi : Value) (g : PS) (s x : Tx) (ws : List Tx) (a0 : Nat) (hB : Fr wB w) (hm : PlM w wB.heap.size r 31 vw vc vi g) (hok : PsOk g) (hs : s.length < 4294967281) (hps : partsL 32 s = x :: ws) (hl : numsF ws = some [a0]) (h1 : s ≠ narrowT) (h2 : s ≠ wideT) (h3 : s ≠ nearT) (hx : x = bytesT) :
   Calls Tryz.prog 6 #[.pointer (some ⟨r, 0, none⟩), .string (bA s)] w (LinePost wB r 31 (g, bytesF g a0)) := by
 have q1 : ((bA s).toList == ([110, 97, 114, 114, 111, 119] : List UInt8)) = false := tx_f (t := narrowT) h1
 have q1n : ¬ (bA s).toList = ([110, 97, 114, 114, 111, 119] : List UInt8) := tx_n (t := narrowT) h1
 have q2 : ((bA s).toList == ([119, 105, 100, 101] : List UInt8)) = false := tx_f (t := wideT) h2
 have q2n : ¬ (bA s).toList = ([119, 105, 100, 101] : List UInt8) := tx_n (t := wideT) h2
 have q3 : ((bA s).toList == ([110, 101, 97, 114] : List UInt8)) = false := tx_f (t := nearT) h3
 have q3n : ¬ (bA s).toList = ([110, 101, 97, 114] : List UInt8) := tx_n (t := nearT) h3
 have x0 : ((bA x).toList == ([99, 111, 100, 101] : List UInt8)) = false := tx_f (t := codeT) (by rw [hx]; decide)
 have x0n : ¬ (bA x).toList = ([99, 111, 100, 101] : List UInt8) := tx_n (t := codeT) (by rw [hx]; decide)
 have x1 : ((bA x).toList == ([105, 110, 115] : List UInt8)) = false := tx_f (t := insT) (by rw [hx]; decide)
 have x1n : ¬ (bA x).toList = ([105, 110, 115] : List UInt8) := tx_n (t := insT) (by rw [hx]; decide)
 have x2 : ((bA x).toList == ([114, 117, 110] : List UInt8)) = false := tx_f (t := runT) (by rw [hx]; decide)
 have x2n : ¬ (bA x).toList = ([114, 117, 110] : List UInt8) := tx_n (t := runT) (by rw [hx]; decide)
 have x3 : ((bA x).toList == ([111, 110] : List UInt8)) = false := tx_f (t := onT) (by rw [hx]; decide)
 have x3n : ¬ (bA x).toList = ([111, 110] : List UInt8) := tx_n (t := onT) (by rw [hx]; decide)
 have x4 : (bA x).toList = ([98, 121, 116, 101, 115] : List UInt8) := tx_t (t := bytesT) hx
 have hk0 : a0 < 4294967296 := numsF_lt hl a0 (by simp)
 have u0 : IntKind.i64.wrap (a0 : Int) = (a0 : Int) := by simp [IntKind.wrap, IntKind.bits, IntKind.signed]; omega
 clear h1 h2 h3 hx
 have HB := Lib.hid hB
 have HM := Lib.hid hm
 have HOK := Lib.hid hok
 have hl0 := partsL_len 32 s
 rw [hps] at hl0
 simp only [List.length_cons] at hl0
 have hk1 := splitk_any s 32 (by omega) w
 rw [hps] at hk1
 simp only [List.length_cons] at hk1
 have HSP := Lib.hid hk1
 have hsw := hB.size
 have hlw : ([a0] : List Nat).length = ws.length := numsF_len hl
 have HNL := Lib.hid (numsF_all hl)
 clear hB hm hok hk1 hps hl
 go_enter Tryz.func6, Tryz.ntmps6
 go_wp2_with fail
 refine HSP.out.mono ?_
 rintro e w1 ⟨v1, rfl, ho1, f1⟩
 obtain ⟨Aw, cw, rfl, _, hrw⟩ := own_reads ho1
 obtain ⟨bw, ow, rfl, _, hcw⟩ := hrw.2 (by omega)
 have HCW := Lib.hid hcw
 have HF1 := Lib.hid (HB.out.trans f1)
 have HP1 := Lib.hid (HM.out.fr f1)
 have hsz1 := f1.size
 have hc0 := hcw 0 (.string (bA x)) rfl
 rw [Nat.add_zero] at hc0
 have HC0 := Lib.hid hc0
 clear f1 hrw hcw ho1 hc0
 go_wp2_with fail
 go_loopw [6, 7] (fun lv iv wr => ∃ j : Nat, 1 ≤ j ∧ j ≤ ws.length + 1 ∧ iv = .int .i64 j ∧ Hid (wr.ownsRow w1.heap.size 35 1 lv (([a0] : List Nat).take (j - 1)).length (u32n (([a0] : List Nat).take (j - 1)))) ∧ Hid (Fr w1 wr)) (fun _ i _ => ws.length + 1 - (intOf i).toNat)
 case atStart => exact ⟨1, by omega, by omega, rfl, World.ownsRow_nil _ _ _ _, Kept.refl _ w1⟩
 case round =>
   obtain ⟨j, hj1, hj2, rfl, ho, hf⟩ := hrel
   have hsw1 := hf.out.size
   have hll : (([a0] : List Nat).take (j - 1)).length = j - 1 := by rw [List.length_take]; omega
   by_cases hlt : j < ws.length + 1
   · obtain ⟨y, u, hy, hu, hn, hu32⟩ := HNL.out (j - 1) (by omega)
     have d0 : wr.cell? ⟨bw, ow + j, none⟩ = some (.string (bA y)) := by
       have h0 := HCW.out j _ (txs_at hj1 hy)
       exact (Kept.cell hf.out (p := ⟨bw, ow + j, none⟩) (cell_lt h0) (fun h => h)).trans h0
     have hbz := cell_lt d0
     have HN := Lib.hid (number_ok hn wr)
     have HTK := Lib.hid (take_snoc' hj1 hu)
     have HLL := Lib.hid hll
     clear hy hu hn hll
     go_wp2_with fail
     refine HN.out.mono ?_
     rintro e w3 ⟨rfl, rfl⟩
     go_wp2_with (first
       | (at_builtin
          refine wpList_app (base := w1.heap.size) _ rfl slU32d (.tmp 46) (.tmp 48) rfl u6 _ _ rfl (World.ownsRow.alloc ho.out _) (fun _ => True) _ 1 1 [.int .u32 (u : Int)] rfl (Reads.lit' (by simp) trivial rfl) ?_ ?_ ?_ ?_ ?_
          · simp [Value.oneCell']
          · have := HLL.out; omega
          · have := HLL.out; unfold maxLen; omega
          · simp; omega
          intro v7 w7 hown7 hk7 _
          have HO7 := Lib.hid (show w7.ownsRow w1.heap.size 35 1 v7 (([a0] : List Nat).take (j + 1 - 1)).length (u32n (([a0] : List Nat).take (j + 1 - 1))) from by rw [HTK.out, List.length_append, List.length_singleton, u32n_snoc]; exact hown7)
          have HF7 := Lib.hid ((hf.out.alloc _).app (World.ownsRow.alloc ho.out _) hk7)
          clear hown7 hk7)
       | go_in)
     go_roundw
     case rel => exact ⟨j + 1, by omega, by omega, by go_num, HO7, HF7⟩
     case measure => simp [intOf]; omega
   · obtain rfl : j = ws.length + 1 := by omega
     have hta : ([a0] : List Nat).take (ws.length + 1 - 1) = [a0] := List.take_of_length_le (by omega)
     have hob := ho.out
     rw [hta] at hob
     have HO2 := Lib.hid (show wr.ownsRow wB.heap.size 35 1 u6 1 (u32n [a0]) from own_low hob (by omega))
     have HF2 := Lib.hid (HF1.out.trans hf.out)
     have HP2 := Lib.hid (HP1.out.fr hf.out)
     have c0 : wr.cell? ⟨bw, ow, none⟩ = some (.string (bA x)) := (Kept.cell hf.out (p := ⟨bw, ow, none⟩) (cell_lt HC0.out) (fun h => h)).trans HC0.out
     have z0 := cell_lt c0
     obtain ⟨A2, c2, rfl, _⟩ := own_reads HO2.out
     clear ho hf hob hta hll hj1 hj2 hlt hlw HNL HCW HC0
     obtain ⟨bl, ol, rfl, ⟨hbr, hbo⟩, hcl⟩ := (own_apart HO2.out HP2.out).2 (by omega)
     have d0 := hcl 0 (.int .u32 (a0 : Int)) rfl
     rw [Nat.add_zero] at d0
     have hbl := cell_lt d0
     clear hcl
     have q0 := HP2.out.blk.cell 0
     have q1 := HP2.out.blk.cell 1
     have q2 := HP2.out.blk.cell 2
     have zq := HP2.out.blk.lt
     simp only [List.getElem?_toArray, List.getElem?_cons_succ, List.getElem?_cons_zero] at q0 q1 q2
     cases hb : (mayB g.p && tgB (a0 : Int)) with
     | false =>
       have HE : Hid (bytesF g a0 = saidF badT [2]) := by show _ = _; unfold bytesF; rw [if_pos hb]
       have HBU := Lib.hid (fun w3 (f : Fr wr w3) => build_no (sg := (a0 : Int)) ((HP2.out.fr f).rd) hb)
       unfold tgV at HBU
       clear hb
       go_wp2_with fail
       go_region_held_law (fun w' => w'.cell? ⟨r, 0, none⟩ = some vw ∧ w'.cell? ⟨r, 1, none⟩ = some vc ∧ w'.cell? ⟨bl, ol, none⟩ = some (.int .u32 (a0 : Int))) (first | go_keep | exact sa | exact sb)
         (first
           | (go_at_call 14; refine (HBU.out _ ((Kept.refl (fun _ => False) wr).drew)).mono ?_; rintro e w1 ⟨rfl, f1⟩; have f1b : Fr wr w1 := ((Kept.refl (fun _ => False) wr).drew).trans f1; have sa := And.intro ((Kept.cell (p := ⟨r, 0, none⟩) f1b zq (fun h => h)).trans q0) (And.intro ((Kept.cell (p := ⟨r, 1, none⟩) f1b zq (fun h => h)).trans q1) ((Kept.cell (p := ⟨bl, ol, none⟩) f1b hbl (fun h => h)).trans d0)); have FB := Lib.hid f1b; have hz1 := f1b.size; clear f1 f1b)
           | (go_at_call 14; refine (HBU.out _ (((Kept.refl (fun _ => False) wr).alloc (.cells #[.int .i64 0, .slice none 0 0] 55)).drew)).mono ?_; rintro e w1 ⟨rfl, f1⟩; have f1b : Fr wr w1 := (((Kept.refl (fun _ => False) wr).alloc (.cells #[.int .i64 0, .slice none 0 0] 55)).drew).trans f1; have sa := And.intro ((Kept.cell (p := ⟨r, 0, none⟩) f1b zq (fun h => h)).trans q0) (And.intro ((Kept.cell (p := ⟨r, 1, none⟩) f1b zq (fun h => h)).trans q1) ((Kept.cell (p := ⟨bl, ol, none⟩) f1b hbl (fun h => h)).trans d0)); have FB := Lib.hid f1b; have bg1 := ((Blk.new wr 55 #[.int .i64 0, .slice none 0 0]).drew.kept f1 (fun h => h)); have BG := Lib.hid bg1; have g0 := bg1.cell 0; have y0 := bg1.frozen 0; have g1 := bg1.cell 1; have y1 := bg1.frozen 1; have zg := bg1.lt; simp only [List.getElem?_toArray, List.getElem?_cons_succ, List.getElem?_cons_zero] at g0 g1; have kst := (((Kept.refl (fun k => k = wr.heap.size) w1).setCell (p := ⟨wr.heap.size, 0, none⟩) (fun _ => rfl) (.int .i64 0)).setCell (p := ⟨wr.heap.size, 1, none⟩) (fun _ => rfl) (.slice none 0 0)); have sb : ((w1.setCell ⟨wr.heap.size, 0, none⟩ (.int .i64 0)).setCell ⟨wr.heap.size, 1, none⟩ (.slice none 0 0)).cell? ⟨r, 0, none⟩ = some vw ∧ ((w1.setCell ⟨wr.heap.size, 0, none⟩ (.int .i64 0)).setCell ⟨wr.heap.size, 1, none⟩ (.slice none 0 0)).cell? ⟨r, 1, none⟩ = some vc ∧ ((w1.setCell ⟨wr.heap.size, 0, none⟩ (.int .i64 0)).setCell ⟨wr.heap.size, 1, none⟩ (.slice none 0 0)).cell? ⟨bl, ol, none⟩ = some (.int .u32 (a0 : Int)) := And.intro ((kst.cell (p := ⟨r, 0, none⟩) (by simp only; omega) (by simp only; omega)).trans sa.1) (And.intro ((kst.cell (p := ⟨r, 1, none⟩) (by simp only; omega) (by simp only; omega)).trans sa.2.1) ((kst.cell (p := ⟨bl, ol, none⟩) (by simp only; omega) (by simp only; omega)).trans sa.2.2)); have KST := Lib.hid kst; clear f1 f1b bg1 kst))
       all_goals
         first
           | (have kz := FB.out.size
              have HFE := Lib.hid (show Fr wr ((w1.setCell ⟨wr.heap.size, 0, none⟩ (.int .i64 0)).setCell ⟨wr.heap.size, 1, none⟩ (.slice none 0 0)) from FB.out.then KST.out (fun i hi hs => by have hs2 : i = wr.heap.size := hs; omega))
              have BE := Lib.hid (show Blk ((w1.setCell ⟨wr.heap.size, 0, none⟩ (.int .i64 0)).setCell ⟨wr.heap.size, 1, none⟩ (.slice none 0 0)) wr.heap.size 55 #[(.int .i64 0), (.slice none 0 0)] from ((BG.out.set_ 0 (.int .i64 0)).set_ 1 (.slice none 0 0)))
              clear sa sb FB KST BG g0 y0 g1 y1 zg kz
              generalize ((w1.setCell ⟨wr.heap.size, 0, none⟩ (.int .i64 0)).setCell ⟨wr.heap.size, 1, none⟩ (.slice none 0 0)) = wE at *
              generalize hgE : wr.heap.size = gE at *)
           | (have HFE := Lib.hid (FB.out.alloc (.cells #[(.int .i64 0), (.slice none 0 0)] 55))
              have BE := Lib.hid (Blk.new w1 55 #[(.int .i64 0), (.slice none 0 0)])
              clear sa FB hz1
              generalize (w1.alloc (.cells #[(.int .i64 0), (.slice none 0 0)] 55)) = wE at *
              generalize hgE : w1.heap.size = gE at *)
         clear hgE
         have HS := Lib.hid (said1x badT ⟨#[98, 97, 100]⟩ rfl 2 2 rfl (by omega) (by decide) wE wE.heap.size rfl)
         go_wp2_with fail
         refine HS.out.mono ?_
         rintro e w6 ⟨rfl, f6⟩
         have HF6 := Lib.hid ((HF2.out.trans HFE.out).trans f6)
         have HP6 := Lib.hid ((HP2.out.fr HFE.out).fr f6)
         clear f6
         go_wp2
         go_ret
         exact ⟨by rw [HE.out]; rfl, HF6.out, _, _, _, HP6.out⟩
     | true =>
       have HE : Hid (bytesF g a0 = if (pdNums (buildF g.p (a0 : Int))).all isByte = true then decDigits (pdNums (buildF g.p (a0 : Int))).length else saidF badT [1]) := by show _ = _; unfold bytesF; rw [hb, if_neg (by simp)]
       have HBU := Lib.hid (fun w3 (f : Fr wr w3) => build_ok (sg := (a0 : Int)) ((HP2.out.fr f).rd) hb)
       have hb2 := hb
       rw [Bool.and_eq_true] at hb2
       have HBL := Lib.hid (show (pdNums (buildF g.p (a0 : Int))).length * 8 ≤ 140737488355328 from by have := pd_len (buildF_ok hb2.1 hb2.2).1; omega)
       unfold tgV at HBU
       clear hb hb2
       generalize buildF g.p (a0 : Int) = bf at *
       go_wp2_with fail
       go_region_held_law (fun w' => w'.cell? ⟨r, 0, none⟩ = some vw ∧ w'.cell? ⟨r, 1, none⟩ = some vc ∧ w'.cell? ⟨bl, ol, none⟩ = some (.int .u32 (a0 : Int))) (first | go_keep | exact sa | exact sb)
         (first
           | (go_at_call 14; refine (HBU.out _ ((Kept.refl (fun _ => False) wr).drew)).mono ?_; rintro e w1 ⟨A1, c1, rfl, hr1, f1⟩; have f1b : Fr wr w1 := ((Kept.refl (fun _ => False) wr).drew).trans f1; have HR1 := Lib.hid hr1; clear hr1; have sa := And.intro ((Kept.cell (p := ⟨r, 0, none⟩) f1b zq (fun h => h)).trans q0) (And.intro ((Kept.cell (p := ⟨r, 1, none⟩) f1b zq (fun h => h)).trans q1) ((Kept.cell (p := ⟨bl, ol, none⟩) f1b hbl (fun h => h)).trans d0)); have FB := Lib.hid f1b; have hz1 := f1b.size; clear f1 f1b)
           | (go_at_call 14; refine (HBU.out _ (((Kept.refl (fun _ => False) wr).alloc (.cells #[.int .i64 0, .slice none 0 0] 55)).drew)).mono ?_; rintro e w1 ⟨A1, c1, rfl, hr1, f1⟩; have f1b : Fr wr w1 := (((Kept.refl (fun _ => False) wr).alloc (.cells #[.int .i64 0, .slice none 0 0] 55)).drew).trans f1; have HR1 := Lib.hid hr1; clear hr1; have sa := And.intro ((Kept.cell (p := ⟨r, 0, none⟩) f1b zq (fun h => h)).trans q0) (And.intro ((Kept.cell (p := ⟨r, 1, none⟩) f1b zq (fun h => h)).trans q1) ((Kept.cell (p := ⟨bl, ol, none⟩) f1b hbl (fun h => h)).trans d0)); have FB := Lib.hid f1b; have bg1 := ((Blk.new wr 55 #[.int .i64 0, .slice none 0 0]).drew.kept f1 (fun h => h)); have BG := Lib.hid bg1; have g0 := bg1.cell 0; have y0 := bg1.frozen 0; have g1 := bg1.cell 1; have y1 := bg1.frozen 1; have zg := bg1.lt; simp only [List.getElem?_toArray, List.getElem?_cons_succ, List.getElem?_cons_zero] at g0 g1; have kst := (((Kept.refl (fun k => k = wr.heap.size) w1).setCell (p := ⟨wr.heap.size, 0, none⟩) (fun _ => rfl) (.int .i64 (g.p.wide.length : Int))).setCell (p := ⟨wr.heap.size, 1, none⟩) (fun _ => rfl) (.slice A1 g.p.code.length c1)); have sb : ((w1.setCell ⟨wr.heap.size, 0, none⟩ (.int .i64 (g.p.wide.length : Int))).setCell ⟨wr.heap.size, 1, none⟩ (.slice A1 g.p.code.length c1)).cell? ⟨r, 0, none⟩ = some vw ∧ ((w1.setCell ⟨wr.heap.size, 0, none⟩ (.int .i64 (g.p.wide.length : Int))).setCell ⟨wr.heap.size, 1, none⟩ (.slice A1 g.p.code.length c1)).cell? ⟨r, 1, none⟩ = some vc ∧ ((w1.setCell ⟨wr.heap.size, 0, none⟩ (.int .i64 (g.p.wide.length : Int))).setCell ⟨wr.heap.size, 1, none⟩ (.slice A1 g.p.code.length c1)).cell? ⟨bl, ol, none⟩ = some (.int .u32 (a0 : Int)) := And.intro ((kst.cell (p := ⟨r, 0, none⟩) (by simp only; omega) (by simp only; omega)).trans sa.1) (And.intro ((kst.cell (p := ⟨r, 1, none⟩) (by simp only; omega) (by simp only; omega)).trans sa.2.1) ((kst.cell (p := ⟨bl, ol, none⟩) (by simp only; omega) (by simp only; omega)).trans sa.2.2)); have KST := Lib.hid kst; clear f1 f1b bg1 kst))
       all_goals
         first
           | (have kz := FB.out.size
              have HFE := Lib.hid (show Fr wr ((w1.setCell ⟨wr.heap.size, 0, none⟩ (.int .i64 (g.p.wide.length : Int))).setCell ⟨wr.heap.size, 1, none⟩ (.slice A1 g.p.code.length c1)) from FB.out.then KST.out (fun i hi hs => by have hs2 : i = wr.heap.size := hs; omega))
              have BE := Lib.hid (show Blk ((w1.setCell ⟨wr.heap.size, 0, none⟩ (.int .i64 (g.p.wide.length : Int))).setCell ⟨wr.heap.size, 1, none⟩ (.slice A1 g.p.code.length c1)) wr.heap.size 55 #[(.int .i64 (g.p.wide.length : Int)), (.slice A1 g.p.code.length c1)] from ((BG.out.set_ 0 (.int .i64 (g.p.wide.length : Int))).set_ 1 (.slice A1 g.p.code.length c1)))
              have HRE := Lib.hid (show RdPd ((w1.setCell ⟨wr.heap.size, 0, none⟩ (.int .i64 (g.p.wide.length : Int))).setCell ⟨wr.heap.size, 1, none⟩ (.slice A1 g.p.code.length c1)) (fun b => b < ((w1.setCell ⟨wr.heap.size, 0, none⟩ (.int .i64 (g.p.wide.length : Int))).setCell ⟨wr.heap.size, 1, none⟩ (.slice A1 g.p.code.length c1)).heap.size) (.agg #[.int .i64 (g.p.wide.length : Int), .slice A1 g.p.code.length c1]) bf from (HR1.out.kept KST.out (fun b h e => by have := h.1; simp [World.drew] at this; omega)).more (fun b h => by have := h.2; simp [World.setCell]; omega))
              clear sa sb FB KST BG g0 y0 g1 y1 zg kz
              generalize ((w1.setCell ⟨wr.heap.size, 0, none⟩ (.int .i64 (g.p.wide.length : Int))).setCell ⟨wr.heap.size, 1, none⟩ (.slice A1 g.p.code.length c1)) = wE at *
              generalize hgE : wr.heap.size = gE at *)
           | (have HFE := Lib.hid (FB.out.alloc (.cells #[(.int .i64 (g.p.wide.length : Int)), (.slice A1 g.p.code.length c1)] 55))
              have BE := Lib.hid (Blk.new w1 55 #[(.int .i64 (g.p.wide.length : Int)), (.slice A1 g.p.code.length c1)])
              have HRE := Lib.hid ((HR1.out.kept ((Kept.refl (fun _ => False) w1).alloc (.cells #[(.int .i64 (g.p.wide.length : Int)), (.slice A1 g.p.code.length c1)] 55)) (fun _ _ h => h)).more (R' := fun b => b < (w1.alloc (.cells #[(.int .i64 (g.p.wide.length : Int)), (.slice A1 g.p.code.length c1)] 55)).heap.size) (fun b h => by have h2 : b < w1.heap.size := h.2; simp; omega))
              clear sa FB hz1
              generalize (w1.alloc (.cells #[(.int .i64 (g.p.wide.length : Int)), (.slice A1 g.p.code.length c1)] 55)) = wE at *
              generalize hgE : w1.heap.size = gE at *)
         clear hgE
         have HPUT := Lib.hid (Put_any _ bf wE HRE.out HBL.out)
         have bb0 := BE.out.cell 0
         have bb1 := BE.out.cell 1
         have zt := BE.out.lt
         simp only [List.getElem?_toArray, List.getElem?_cons_succ, List.getElem?_cons_zero] at bb0 bb1
         go_wp2_with fail
         refine HPUT.out.mono ?_
         rintro e w2 ⟨vb, err, rfl, f2, ⟨hall, rfl, hown⟩ | ⟨hall, rfl, rfl⟩⟩
         · obtain ⟨A4, c4, rfl, _, _⟩ := own_reads hown
           have HF4 := Lib.hid ((HF2.out.trans HFE.out).trans f2)
           have HP4 := Lib.hid ((HP2.out.fr HFE.out).fr f2)
           have hl2 : (toByte (pdNums bf)).length = (pdNums bf).length := by simp [toByte]
           have HE2 : Hid (bytesF g a0 = decDigits (pdNums bf).length) := by show _ = _; rw [HE.out, if_pos hall]
           have HI := Lib.hid (digits_any (pdNums bf).length (by have := HBL.out; omega) w2)
           clear f2 hall hown HE
           generalize (pdNums bf).length = n at *
           go_wp2_with fail
           refine HI.out.mono ?_
           rintro e w6 ⟨rfl, f6⟩
           have HF6 := Lib.hid (HF4.out.trans f6)
           have HP6 := Lib.hid (HP4.out.fr f6)
           clear f6
           go_wp2
           go_ret
           exact ⟨by rw [HE2.out]; rfl, HF6.out, _, _, _, HP6.out⟩
         · have HF4 := Lib.hid ((HF2.out.trans HFE.out).trans f2)
           have HP4 := Lib.hid ((HP2.out.fr HFE.out).fr f2)
           have HE2 : Hid (bytesF g a0 = saidF badT [1]) := by show _ = _; rw [HE.out, if_neg (by rw [hall]; simp)]
           clear f2 hall
           have HS := Lib.hid (said1x badT ⟨#[98, 97, 100]⟩ rfl 1 1 rfl (by omega) (by decide) w2 w2.heap.size rfl)
           go_wp2_with fail
           refine HS.out.mono ?_
           rintro e w6 ⟨rfl, f6⟩
           have HF6 := Lib.hid (HF4.out.trans f6)
           have HP6 := Lib.hid (HP4.out.fr f6)
           clear f6
           go_wp2
           go_ret
           exact ⟨by rw [HE2.out]; rfl, HF6.out, _, _, _, HP6.out⟩
end Go.Proofs.YtodmkjeankbieaaGreatDoor


namespace Go.Proofs.YtodmkjeankbieaaGreatDoor
open Go.RowKit Go.Sort Go.Lib

theorem kline_any (wB w : World) (r : Nat) (vw vc vi : Value) (g : PS) (s : Tx) (hB : Fr wB w) (hm : PlM w wB.heap.size r 31 vw vc vi g) (hok : PsOk g) (hs : s.length < 4294967281) :
   Calls Tryz.prog 6 #[.pointer (some ⟨r, 0, none⟩), .string (bA s)] w (LinePost wB r 31 (lineF g s)) := by
 obtain ⟨x, ws, hps⟩ : ∃ x ws, partsL 32 s = x :: ws := by
   cases h : partsL 32 s with
   | nil => exact absurd h (partsL_ne 32 s)
   | cons x ws => exact ⟨x, ws, rfl⟩
 cases hl : numsF ws with
 | none => rw [line_none hps hl]; exact kline_none wB w r vw vc vi g s x ws hB hm hok hs hps hl
 | some l =>
   rw [line_some hps hl]
   unfold armF
   by_cases h1 : s = narrowT
   · rw [if_pos (Or.inl h1), show decide (s = wideT) = false from by rw [h1]; decide]
     exact kline_narrow wB w r vw vc vi g s x ws l hB hm hok hs hps hl h1
   by_cases h2 : s = wideT
   · rw [if_pos (Or.inr h2), show decide (s = wideT) = true from decide_eq_true h2]
     exact kline_wide wB w r vw vc vi g s x ws l hB hm hok hs hps hl h2
   rw [if_neg (by rintro (h | h) <;> contradiction)]
   by_cases h3 : s = nearT
   · rw [if_pos h3]
     exact kline_near wB w r vw vc vi g s x ws l hB hm hok hs hps hl h3
   rw [if_neg h3]
   by_cases hc : x = codeT
   · by_cases h6 : l.length = 6
     · rw [if_pos ⟨hc, h6⟩]
       obtain ⟨a0, a1, a2, a3, a4, a5, rfl⟩ := nat6 h6
       exact kline_code wB w r vw vc vi g s x ws a0 a1 a2 a3 a4 a5 hB hm hok hs hps hl h1 h2 h3 hc
     · rw [if_neg (fun h => h6 h.2), if_neg (by rw [hc]; decide), if_neg (by rw [hc]; rintro ⟨h, _⟩; exact absurd h (by decide)), if_neg (by rw [hc]; rintro ⟨h, _⟩; exact absurd h (by decide)), if_neg (by rw [hc]; rintro ⟨h, _⟩; exact absurd h (by decide))]
       exact kline_q wB w r vw vc vi g s x ws l hB hm hok hs hps hl h1 h2 h3 (.inl ⟨hc, h6⟩)
   rw [if_neg (fun h => hc h.1)]
   by_cases hi : x = insT
   · rw [if_pos hi]
     exact kline_ins wB w r vw vc vi g s x ws l hB hm hok hs hps hl h1 h2 h3 hi
   rw [if_neg hi]
   by_cases hr : x = runT
   · by_cases h6 : l.length = 1
     · rw [if_pos ⟨hr, h6⟩]
       obtain ⟨a0, rfl⟩ := nat1 h6
       exact kline_run wB w r vw vc vi g s x ws a0 hB hm hok hs hps hl h1 h2 h3 hr
     · rw [if_neg (fun h => h6 h.2), if_neg (by rw [hr]; rintro ⟨h, _⟩; exact absurd h (by decide)), if_neg (by rw [hr]; rintro ⟨h, _⟩; exact absurd h (by decide))]
       exact kline_q wB w r vw vc vi g s x ws l hB hm hok hs hps hl h1 h2 h3 (.inr (.inl ⟨hr, h6⟩))
   rw [if_neg (fun h => hr h.1)]
   by_cases ho : x = onT
   · by_cases h6 : l.length = 2
     · rw [if_pos ⟨ho, h6⟩]
       obtain ⟨a0, a1, rfl⟩ := nat2 h6
       exact kline_on wB w r vw vc vi g s x ws a0 a1 hB hm hok hs hps hl h1 h2 h3 ho
     · rw [if_neg (fun h => h6 h.2), if_neg (by rw [ho]; rintro ⟨h, _⟩; exact absurd h (by decide))]
       exact kline_q wB w r vw vc vi g s x ws l hB hm hok hs hps hl h1 h2 h3 (.inr (.inr (.inl ⟨ho, h6⟩)))
   rw [if_neg (fun h => ho h.1)]
   by_cases hb : x = bytesT
   · by_cases h6 : l.length = 1
     · rw [if_pos ⟨hb, h6⟩]
       obtain ⟨a0, rfl⟩ := nat1 h6
       exact kline_bytes wB w r vw vc vi g s x ws a0 hB hm hok hs hps hl h1 h2 h3 hb
     · rw [if_neg (fun h => h6 h.2)]
       exact kline_q wB w r vw vc vi g s x ws l hB hm hok hs hps hl h1 h2 h3 (.inr (.inr (.inr (.inl ⟨hb, h6⟩))))
   rw [if_neg (fun h => hb h.1)]
   exact kline_q wB w r vw vc vi g s x ws l hB hm hok hs hps hl h1 h2 h3 (.inr (.inr (.inr (.inr ⟨hc, hi, hr, ho, hb⟩))))
end Go.Proofs.YtodmkjeankbieaaGreatDoor

