/- Texts of this claim, packed. -/
import Derived.Test.YtodmkjeankbieaaGreatDoorKAllk22
import Derived.Test.YtodmkjeankbieaaGreatDoorKAllk24
set_option linter.all false
namespace Go.Proofs.YtodmkjeankbieaaGreatDoor
open Go.RowKit Go.Sort Go.Lib

set_option maxHeartbeats 12800000 in
set_option maxRecDepth 100000 in
theorem dline_none (wB w : World) (r : Nat) (vw vc vi : Value) (g : PS) (s x : Tx) (ws : List Tx) (hB : Fr wB w) (hm : PlM w wB.heap.size r 65 vw vc vi g) (hv : Env wB) (hok : PsOk g) (hs : s.length < 4294967281) (hps : partsL 32 s = x :: ws) (hl : numsF ws = none) :
   Calls Tryz.prog 18 #[.pointer (some ⟨r, 0, none⟩), .string (bA s)] w (LinePost wB r 65 (g, [63])) := by
 have HB := Lib.hid hB
 have HM := Lib.hid hm
 have HV := Lib.hid hv
 have HOK := Lib.hid hok
 have hl0 := partsL_len 32 s
 rw [hps] at hl0
 simp only [List.length_cons] at hl0
 have hw0 : ∀ y ∈ ws, y.length < 4294967296 := fun y hy => by
   have := parts_mem (b := 32) (l := s) (x := y) (by rw [hps]; exact List.mem_cons_of_mem _ hy)
   omega
 have h1 := splitL_any s 32 hs w (hv.kept hB)
 rw [hps] at h1
 simp only [List.length_cons] at h1
 have HSP := Lib.hid h1
 obtain ⟨A1, c1, hsl, hrd⟩ := words_tail x ws w (by unfold maxLen; omega)
 have HF1 := Lib.hid (show Fr wB (w.alloc (.cells (txs (x :: ws)).toArray 9)) from hB.alloc _)
 have HNU := Lib.hid (numbers_no (c := c1) hl hw0 (by omega) hrd (hv.kept HF1.out))
 have HC := Lib.hid (Blk.new w 9 (txs (x :: ws)).toArray)
 have hsw := hB.size
 have hlen : ws.length + 1 < 9223372036854775807 := by omega
 clear hB hm hv hok hw0 h1 hps hrd hl
 go_enter Tryz.func18, Tryz.ntmps18
 go_wp2_with fail
 refine HSP.out.mono ?_
 rintro e w1 ⟨rfl, rfl⟩
 go_wp2_with fail
 refine HNU.out.mono ?_
 rintro e w2 ⟨rfl, f2⟩
 have HF2 := Lib.hid (HF1.out.trans f2)
 have HP2 := Lib.hid (HM.out.fr (((Kept.refl (fun _ => False) w).alloc _).trans f2))
 clear f2 hsl
 go_wp2
 go_ret
 exact ⟨rfl, HF2.out, _, _, _, HP2.out⟩
set_option maxHeartbeats 12800000 in
set_option maxRecDepth 100000 in
theorem dline_narrow (wB w : World) (r : Nat) (vw vc vi : Value) (g : PS) (s x : Tx) (ws : List Tx) (l : List Nat) (hB : Fr wB w) (hm : PlM w wB.heap.size r 65 vw vc vi g) (hv : Env wB) (hok : PsOk g) (hs : s.length < 4294967281) (hps : partsL 32 s = x :: ws) (hl : numsF ws = some l) (h : s = narrowT) :
   Calls Tryz.prog 18 #[.pointer (some ⟨r, 0, none⟩), .string (bA s)] w (LinePost wB r 65 (tempF g false)) := by
 have q1 : (bA s).toList = ([110, 97, 114, 114, 111, 119] : List UInt8) := tx_t (t := narrowT) h
 have q2 : ((bA s).toList == ([119, 105, 100, 101] : List UInt8)) = false := tx_f (t := wideT) (by rw [h]; decide)
 have q2n : ¬ (bA s).toList = ([119, 105, 100, 101] : List UInt8) := tx_n (t := wideT) (by rw [h]; decide)
 clear h
 have HB := Lib.hid hB
 have HM := Lib.hid hm
 have HV := Lib.hid hv
 have HOK := Lib.hid hok
 have hl0 := partsL_len 32 s
 rw [hps] at hl0
 simp only [List.length_cons] at hl0
 have hw0 : ∀ y ∈ ws, y.length < 4294967296 := fun y hy => by
   have := parts_mem (b := 32) (l := s) (x := y) (by rw [hps]; exact List.mem_cons_of_mem _ hy)
   omega
 have h1 := splitL_any s 32 hs w (hv.kept hB)
 rw [hps] at h1
 simp only [List.length_cons] at h1
 have HSP := Lib.hid h1
 obtain ⟨A1, c1, hsl, hrd⟩ := words_tail x ws w (by unfold maxLen; omega)
 have HF1 := Lib.hid (show Fr wB (w.alloc (.cells (txs (x :: ws)).toArray 9)) from hB.alloc _)
 have HNU := Lib.hid (numbers_ok (c := c1) hl hw0 (by omega) hrd (hv.kept HF1.out))
 have HC := Lib.hid (Blk.new w 9 (txs (x :: ws)).toArray)
 have hsw := hB.size
 have hlen : ws.length + 1 < 9223372036854775807 := by omega
 clear hB hm hv hok hw0 h1 hps hrd hl
 go_enter Tryz.func18, Tryz.ntmps18
 go_wp2_with fail
 refine HSP.out.mono ?_
 rintro e w1 ⟨rfl, rfl⟩
 go_wp2_with fail
 refine HNU.out.mono ?_
 rintro e w2 ⟨A2, c2, rfl, ho, f2⟩
 have HO2 := Lib.hid (own_low ho (base' := wB.heap.size) (by simp; omega))
 have HF2 := Lib.hid (HF1.out.trans f2)
 have HP2 := Lib.hid (HM.out.fr (((Kept.refl (fun _ => False) w).alloc _).trans f2))
 have HC2 := Lib.hid (HC.out.kept f2 (fun h => h))
 have c0 : w2.cell? ⟨w.heap.size, 0, none⟩ = some (.string (bA x)) := (HC2.out.cell 0).trans rfl
 have z0 := cell_lt c0
 clear ho f2 hsl
 have HT := Lib.hid (dtemp_any wB w2 r vw vc vi g false HF2.out HP2.out HV.out HOK.out.1)
 clear c0
 go_wp2_with fail
 refine HT.out.mono ?_
 rintro e w3 ⟨rfl, hpost⟩
 have HPO := Lib.hid hpost
 clear hpost
 go_wp2
 go_ret
 exact ⟨rfl, HPO.out⟩
set_option maxHeartbeats 12800000 in
set_option maxRecDepth 100000 in
theorem dline_wide (wB w : World) (r : Nat) (vw vc vi : Value) (g : PS) (s x : Tx) (ws : List Tx) (l : List Nat) (hB : Fr wB w) (hm : PlM w wB.heap.size r 65 vw vc vi g) (hv : Env wB) (hok : PsOk g) (hs : s.length < 4294967281) (hps : partsL 32 s = x :: ws) (hl : numsF ws = some l) (h : s = wideT) :
   Calls Tryz.prog 18 #[.pointer (some ⟨r, 0, none⟩), .string (bA s)] w (LinePost wB r 65 (tempF g true)) := by
 have q1 : ((bA s).toList == ([110, 97, 114, 114, 111, 119] : List UInt8)) = false := tx_f (t := narrowT) (by rw [h]; decide)
 have q1n : ¬ (bA s).toList = ([110, 97, 114, 114, 111, 119] : List UInt8) := tx_n (t := narrowT) (by rw [h]; decide)
 have q2 : (bA s).toList = ([119, 105, 100, 101] : List UInt8) := tx_t (t := wideT) h
 clear h
 have HB := Lib.hid hB
 have HM := Lib.hid hm
 have HV := Lib.hid hv
 have HOK := Lib.hid hok
 have hl0 := partsL_len 32 s
 rw [hps] at hl0
 simp only [List.length_cons] at hl0
 have hw0 : ∀ y ∈ ws, y.length < 4294967296 := fun y hy => by
   have := parts_mem (b := 32) (l := s) (x := y) (by rw [hps]; exact List.mem_cons_of_mem _ hy)
   omega
 have h1 := splitL_any s 32 hs w (hv.kept hB)
 rw [hps] at h1
 simp only [List.length_cons] at h1
 have HSP := Lib.hid h1
 obtain ⟨A1, c1, hsl, hrd⟩ := words_tail x ws w (by unfold maxLen; omega)
 have HF1 := Lib.hid (show Fr wB (w.alloc (.cells (txs (x :: ws)).toArray 9)) from hB.alloc _)
 have HNU := Lib.hid (numbers_ok (c := c1) hl hw0 (by omega) hrd (hv.kept HF1.out))
 have HC := Lib.hid (Blk.new w 9 (txs (x :: ws)).toArray)
 have hsw := hB.size
 have hlen : ws.length + 1 < 9223372036854775807 := by omega
 clear hB hm hv hok hw0 h1 hps hrd hl
 go_enter Tryz.func18, Tryz.ntmps18
 go_wp2_with fail
 refine HSP.out.mono ?_
 rintro e w1 ⟨rfl, rfl⟩
 go_wp2_with fail
 refine HNU.out.mono ?_
 rintro e w2 ⟨A2, c2, rfl, ho, f2⟩
 have HO2 := Lib.hid (own_low ho (base' := wB.heap.size) (by simp; omega))
 have HF2 := Lib.hid (HF1.out.trans f2)
 have HP2 := Lib.hid (HM.out.fr (((Kept.refl (fun _ => False) w).alloc _).trans f2))
 have HC2 := Lib.hid (HC.out.kept f2 (fun h => h))
 have c0 : w2.cell? ⟨w.heap.size, 0, none⟩ = some (.string (bA x)) := (HC2.out.cell 0).trans rfl
 have z0 := cell_lt c0
 clear ho f2 hsl
 have HT := Lib.hid (dtemp_any wB w2 r vw vc vi g true HF2.out HP2.out HV.out HOK.out.1)
 clear c0
 go_wp2_with fail
 refine HT.out.mono ?_
 rintro e w3 ⟨rfl, hpost⟩
 have HPO := Lib.hid hpost
 clear hpost
 go_wp2
 go_ret
 exact ⟨rfl, HPO.out⟩
set_option maxHeartbeats 12800000 in
set_option maxRecDepth 100000 in
theorem dline_ins (wB w : World) (r : Nat) (vw vc vi : Value) (g : PS) (s x : Tx) (ws : List Tx) (l : List Nat) (hB : Fr wB w) (hm : PlM w wB.heap.size r 65 vw vc vi g) (hv : Env wB) (hok : PsOk g) (hs : s.length < 4294967281) (hps : partsL 32 s = x :: ws) (hl : numsF ws = some l) (h1 : s ≠ narrowT) (h2 : s ≠ wideT) (hx : x = insT) :
   Calls Tryz.prog 18 #[.pointer (some ⟨r, 0, none⟩), .string (bA s)] w (LinePost wB r 65 (⟨g.p, l⟩, saidF okT [l.length])) := by
 have q1 : ((bA s).toList == ([110, 97, 114, 114, 111, 119] : List UInt8)) = false := tx_f (t := narrowT) h1
 have q1n : ¬ (bA s).toList = ([110, 97, 114, 114, 111, 119] : List UInt8) := tx_n (t := narrowT) h1
 have q2 : ((bA s).toList == ([119, 105, 100, 101] : List UInt8)) = false := tx_f (t := wideT) h2
 have q2n : ¬ (bA s).toList = ([119, 105, 100, 101] : List UInt8) := tx_n (t := wideT) h2
 have x0 : ((bA x).toList == ([99, 111, 100, 101] : List UInt8)) = false := tx_f (t := codeT) (by rw [hx]; decide)
 have x0n : ¬ (bA x).toList = ([99, 111, 100, 101] : List UInt8) := tx_n (t := codeT) (by rw [hx]; decide)
 have x1 : (bA x).toList = ([105, 110, 115] : List UInt8) := tx_t (t := insT) hx
 have x2 : ((bA x).toList == ([114, 117, 110] : List UInt8)) = false := tx_f (t := runT) (by rw [hx]; decide)
 have x2n : ¬ (bA x).toList = ([114, 117, 110] : List UInt8) := tx_n (t := runT) (by rw [hx]; decide)
 have x3 : ((bA x).toList == ([111, 110] : List UInt8)) = false := tx_f (t := onT) (by rw [hx]; decide)
 have x3n : ¬ (bA x).toList = ([111, 110] : List UInt8) := tx_n (t := onT) (by rw [hx]; decide)
 have x4 : ((bA x).toList == ([98, 121, 116, 101, 115] : List UInt8)) = false := tx_f (t := bytesT) (by rw [hx]; decide)
 have x4n : ¬ (bA x).toList = ([98, 121, 116, 101, 115] : List UInt8) := tx_n (t := bytesT) (by rw [hx]; decide)
 have HL := Lib.hid hl
 clear h1 h2 hx
 have HB := Lib.hid hB
 have HM := Lib.hid hm
 have HV := Lib.hid hv
 have HOK := Lib.hid hok
 have hl0 := partsL_len 32 s
 rw [hps] at hl0
 simp only [List.length_cons] at hl0
 have hw0 : ∀ y ∈ ws, y.length < 4294967296 := fun y hy => by
   have := parts_mem (b := 32) (l := s) (x := y) (by rw [hps]; exact List.mem_cons_of_mem _ hy)
   omega
 have h1 := splitL_any s 32 hs w (hv.kept hB)
 rw [hps] at h1
 simp only [List.length_cons] at h1
 have HSP := Lib.hid h1
 obtain ⟨A1, c1, hsl, hrd⟩ := words_tail x ws w (by unfold maxLen; omega)
 have HF1 := Lib.hid (show Fr wB (w.alloc (.cells (txs (x :: ws)).toArray 9)) from hB.alloc _)
 have HNU := Lib.hid (numbers_ok (c := c1) hl hw0 (by omega) hrd (hv.kept HF1.out))
 have HC := Lib.hid (Blk.new w 9 (txs (x :: ws)).toArray)
 have hsw := hB.size
 have hlen : ws.length + 1 < 9223372036854775807 := by omega
 clear hB hm hv hok hw0 h1 hps hrd hl
 go_enter Tryz.func18, Tryz.ntmps18
 go_wp2_with fail
 refine HSP.out.mono ?_
 rintro e w1 ⟨rfl, rfl⟩
 go_wp2_with fail
 refine HNU.out.mono ?_
 rintro e w2 ⟨A2, c2, rfl, ho, f2⟩
 have HO2 := Lib.hid (own_low ho (base' := wB.heap.size) (by simp; omega))
 have HF2 := Lib.hid (HF1.out.trans f2)
 have HP2 := Lib.hid (HM.out.fr (((Kept.refl (fun _ => False) w).alloc _).trans f2))
 have HC2 := Lib.hid (HC.out.kept f2 (fun h => h))
 have c0 : w2.cell? ⟨w.heap.size, 0, none⟩ = some (.string (bA x)) := (HC2.out.cell 0).trans rfl
 have z0 := cell_lt c0
 clear ho f2 hsl
 have p2 := HP2.out.blk.cell 2
 have z2 := HP2.out.blk.lt
 have y2 := HP2.out.blk.frozen 2
 simp only [List.getElem?_toArray, List.getElem?_cons_succ, List.getElem?_cons_zero] at p2
 have HP3 := Lib.hid (HP2.out.putI HO2.out (numsF_lt HL.out))
 have HF3 := Lib.hid (HF2.out.setCell (p := ⟨r, 2, none⟩) (fun h => absurd h (Nat.not_lt.2 HP2.out.hb)) (.slice A2 l.length c2))
 have hll := numsF_len HL.out
 have HS := Lib.hid (sayI1x okT ⟨#[111, 107]⟩ rfl l.length (l.length : Int) rfl (by omega) (by decide) (w2.setCell ⟨r, 2, none⟩ (.slice A2 l.length c2)) (HV.out.kept HF3.out) w2.heap.size (by simp [World.setCell]))
 clear hll
 go_wp2_with fail
 refine HS.out.mono ?_
 rintro e w4 ⟨rfl, f4⟩
 have HF4 := Lib.hid (HF3.out.trans f4)
 have HP4 := Lib.hid (HP3.out.fr f4)
 clear f4
 go_wp2
 go_ret
 exact ⟨rfl, HF4.out, _, _, _, HP4.out⟩
set_option maxHeartbeats 12800000 in
set_option maxRecDepth 100000 in
theorem dline_near (wB w : World) (r : Nat) (vw vc vi : Value) (g : PS) (s x : Tx) (ws : List Tx) (l : List Nat) (hB : Fr wB w) (hm : PlM w wB.heap.size r 65 vw vc vi g) (hv : Env wB) (hok : PsOk g) (hs : s.length < 4294967281) (hps : partsL 32 s = x :: ws) (hl : numsF ws = some l) (hx : x ≠ codeT ∧ x ≠ insT ∧ x ≠ runT ∧ x ≠ onT ∧ x ≠ bytesT) (h3 : s = nearT) :
   Calls Tryz.prog 18 #[.pointer (some ⟨r, 0, none⟩), .string (bA s)] w (LinePost wB r 65 (g, nearF g)) := by
 have q1 : ((bA s).toList == ([110, 97, 114, 114, 111, 119] : List UInt8)) = false := tx_f (t := narrowT) (by rw [h3]; decide)
 have q1n : ¬ (bA s).toList = ([110, 97, 114, 114, 111, 119] : List UInt8) := tx_n (t := narrowT) (by rw [h3]; decide)
 have q2 : ((bA s).toList == ([119, 105, 100, 101] : List UInt8)) = false := tx_f (t := wideT) (by rw [h3]; decide)
 have q2n : ¬ (bA s).toList = ([119, 105, 100, 101] : List UInt8) := tx_n (t := wideT) (by rw [h3]; decide)
 have q3 : (bA s).toList = ([110, 101, 97, 114] : List UInt8) := tx_t (t := nearT) h3
 have x0 : ((bA x).toList == ([99, 111, 100, 101] : List UInt8)) = false := tx_f (t := codeT) hx.1
 have x0n : ¬ (bA x).toList = ([99, 111, 100, 101] : List UInt8) := tx_n (t := codeT) hx.1
 have x1 : ((bA x).toList == ([105, 110, 115] : List UInt8)) = false := tx_f (t := insT) hx.2.1
 have x1n : ¬ (bA x).toList = ([105, 110, 115] : List UInt8) := tx_n (t := insT) hx.2.1
 have x2 : ((bA x).toList == ([114, 117, 110] : List UInt8)) = false := tx_f (t := runT) hx.2.2.1
 have x2n : ¬ (bA x).toList = ([114, 117, 110] : List UInt8) := tx_n (t := runT) hx.2.2.1
 have x3 : ((bA x).toList == ([111, 110] : List UInt8)) = false := tx_f (t := onT) hx.2.2.2.1
 have x3n : ¬ (bA x).toList = ([111, 110] : List UInt8) := tx_n (t := onT) hx.2.2.2.1
 have x4 : ((bA x).toList == ([98, 121, 116, 101, 115] : List UInt8)) = false := tx_f (t := bytesT) hx.2.2.2.2
 have x4n : ¬ (bA x).toList = ([98, 121, 116, 101, 115] : List UInt8) := tx_n (t := bytesT) hx.2.2.2.2
 clear hx h3
 have HB := Lib.hid hB
 have HM := Lib.hid hm
 have HV := Lib.hid hv
 have HOK := Lib.hid hok
 have hl0 := partsL_len 32 s
 rw [hps] at hl0
 simp only [List.length_cons] at hl0
 have hw0 : ∀ y ∈ ws, y.length < 4294967296 := fun y hy => by
   have := parts_mem (b := 32) (l := s) (x := y) (by rw [hps]; exact List.mem_cons_of_mem _ hy)
   omega
 have h1 := splitL_any s 32 hs w (hv.kept hB)
 rw [hps] at h1
 simp only [List.length_cons] at h1
 have HSP := Lib.hid h1
 obtain ⟨A1, c1, hsl, hrd⟩ := words_tail x ws w (by unfold maxLen; omega)
 have HF1 := Lib.hid (show Fr wB (w.alloc (.cells (txs (x :: ws)).toArray 9)) from hB.alloc _)
 have HNU := Lib.hid (numbers_ok (c := c1) hl hw0 (by omega) hrd (hv.kept HF1.out))
 have HC := Lib.hid (Blk.new w 9 (txs (x :: ws)).toArray)
 have hsw := hB.size
 have hlen : ws.length + 1 < 9223372036854775807 := by omega
 clear hB hm hv hok hw0 h1 hps hrd hl
 go_enter Tryz.func18, Tryz.ntmps18
 go_wp2_with fail
 refine HSP.out.mono ?_
 rintro e w1 ⟨rfl, rfl⟩
 go_wp2_with fail
 refine HNU.out.mono ?_
 rintro e w2 ⟨A2, c2, rfl, ho, f2⟩
 have HO2 := Lib.hid (own_low ho (base' := wB.heap.size) (by simp; omega))
 have HF2 := Lib.hid (HF1.out.trans f2)
 have HP2 := Lib.hid (HM.out.fr (((Kept.refl (fun _ => False) w).alloc _).trans f2))
 have HC2 := Lib.hid (HC.out.kept f2 (fun h => h))
 have c0 : w2.cell? ⟨w.heap.size, 0, none⟩ = some (.string (bA x)) := (HC2.out.cell 0).trans rfl
 have z0 := cell_lt c0
 clear ho f2 hsl
 have HT := Lib.hid (dnear_any w2 wB.heap.size r vw vc vi g HP2.out (HV.out.kept HF2.out))
 go_wp2_with fail
 refine HT.out.mono ?_
 rintro e w4 ⟨rfl, f4⟩
 have HF4 := Lib.hid (HF2.out.trans f4)
 have HP4 := Lib.hid (HP2.out.fr f4)
 clear f4
 go_wp2
 go_ret
 exact ⟨rfl, HF4.out, _, _, _, HP4.out⟩
set_option maxHeartbeats 12800000 in
set_option maxRecDepth 100000 in
theorem dline_q (wB w : World) (r : Nat) (vw vc vi : Value) (g : PS) (s x : Tx) (ws : List Tx) (l : List Nat) (hB : Fr wB w) (hm : PlM w wB.heap.size r 65 vw vc vi g) (hv : Env wB) (hok : PsOk g) (hs : s.length < 4294967281) (hps : partsL 32 s = x :: ws) (hl : numsF ws = some l) (h1 : s ≠ narrowT) (h2 : s ≠ wideT) (h3 : s ≠ nearT) (hq : (x = codeT ∧ l.length ≠ 6) ∨ (x = runT ∧ l.length ≠ 1) ∨ (x = onT ∧ l.length ≠ 2) ∨ (x = bytesT ∧ l.length ≠ 1) ∨ (x ≠ codeT ∧ x ≠ insT ∧ x ≠ runT ∧ x ≠ onT ∧ x ≠ bytesT)) :
   Calls Tryz.prog 18 #[.pointer (some ⟨r, 0, none⟩), .string (bA s)] w (LinePost wB r 65 (g, [63])) := by
 have q1 : ((bA s).toList == ([110, 97, 114, 114, 111, 119] : List UInt8)) = false := tx_f (t := narrowT) h1
 have q1n : ¬ (bA s).toList = ([110, 97, 114, 114, 111, 119] : List UInt8) := tx_n (t := narrowT) h1
 have q2 : ((bA s).toList == ([119, 105, 100, 101] : List UInt8)) = false := tx_f (t := wideT) h2
 have q2n : ¬ (bA s).toList = ([119, 105, 100, 101] : List UInt8) := tx_n (t := wideT) h2
 have q3 : ((bA s).toList == ([110, 101, 97, 114] : List UInt8)) = false := tx_f (t := nearT) h3
 have q3n : ¬ (bA s).toList = ([110, 101, 97, 114] : List UInt8) := tx_n (t := nearT) h3
 have HQ := Lib.hid hq
 clear h1 h2 h3 hq
 have HB := Lib.hid hB
 have HM := Lib.hid hm
 have HV := Lib.hid hv
 have HOK := Lib.hid hok
 have hl0 := partsL_len 32 s
 rw [hps] at hl0
 simp only [List.length_cons] at hl0
 have hw0 : ∀ y ∈ ws, y.length < 4294967296 := fun y hy => by
   have := parts_mem (b := 32) (l := s) (x := y) (by rw [hps]; exact List.mem_cons_of_mem _ hy)
   omega
 have h1 := splitL_any s 32 hs w (hv.kept hB)
 rw [hps] at h1
 simp only [List.length_cons] at h1
 have HSP := Lib.hid h1
 obtain ⟨A1, c1, hsl, hrd⟩ := words_tail x ws w (by unfold maxLen; omega)
 have HF1 := Lib.hid (show Fr wB (w.alloc (.cells (txs (x :: ws)).toArray 9)) from hB.alloc _)
 have HNU := Lib.hid (numbers_ok (c := c1) hl hw0 (by omega) hrd (hv.kept HF1.out))
 have HC := Lib.hid (Blk.new w 9 (txs (x :: ws)).toArray)
 have hsw := hB.size
 have hlen : ws.length + 1 < 9223372036854775807 := by omega
 clear hB hm hv hok hw0 h1 hps hrd hl
 go_enter Tryz.func18, Tryz.ntmps18
 go_wp2_with fail
 refine HSP.out.mono ?_
 rintro e w1 ⟨rfl, rfl⟩
 go_wp2_with fail
 refine HNU.out.mono ?_
 rintro e w2 ⟨A2, c2, rfl, ho, f2⟩
 have HO2 := Lib.hid (own_low ho (base' := wB.heap.size) (by simp; omega))
 have HF2 := Lib.hid (HF1.out.trans f2)
 have HP2 := Lib.hid (HM.out.fr (((Kept.refl (fun _ => False) w).alloc _).trans f2))
 have HC2 := Lib.hid (HC.out.kept f2 (fun h => h))
 have c0 : w2.cell? ⟨w.heap.size, 0, none⟩ = some (.string (bA x)) := (HC2.out.cell 0).trans rfl
 have z0 := cell_lt c0
 clear ho f2 hsl
 rcases HQ.out with ⟨hx, hn⟩ | ⟨hx, hn⟩ | ⟨hx, hn⟩ | ⟨hx, hn⟩ | hx
 · have x0 : (bA x).toList = ([99, 111, 100, 101] : List UInt8) := tx_t (t := codeT) hx
   have x1 : ((bA x).toList == ([105, 110, 115] : List UInt8)) = false := tx_f (t := insT) (by rw [hx]; decide)
   have x1n : ¬ (bA x).toList = ([105, 110, 115] : List UInt8) := tx_n (t := insT) (by rw [hx]; decide)
   have x2 : ((bA x).toList == ([114, 117, 110] : List UInt8)) = false := tx_f (t := runT) (by rw [hx]; decide)
   have x2n : ¬ (bA x).toList = ([114, 117, 110] : List UInt8) := tx_n (t := runT) (by rw [hx]; decide)
   have x3 : ((bA x).toList == ([111, 110] : List UInt8)) = false := tx_f (t := onT) (by rw [hx]; decide)
   have x3n : ¬ (bA x).toList = ([111, 110] : List UInt8) := tx_n (t := onT) (by rw [hx]; decide)
   have x4 : ((bA x).toList == ([98, 121, 116, 101, 115] : List UInt8)) = false := tx_f (t := bytesT) (by rw [hx]; decide)
   have x4n : ¬ (bA x).toList = ([98, 121, 116, 101, 115] : List UInt8) := tx_n (t := bytesT) (by rw [hx]; decide)
   have hn2 : ((l.length : Int) == 6) = false := beq_false_of_ne (by omega)
   clear hx hn
   go_wp2
   go_ret
   exact ⟨rfl, HF2.out, _, _, _, HP2.out⟩
 · have x0 : ((bA x).toList == ([99, 111, 100, 101] : List UInt8)) = false := tx_f (t := codeT) (by rw [hx]; decide)
   have x0n : ¬ (bA x).toList = ([99, 111, 100, 101] : List UInt8) := tx_n (t := codeT) (by rw [hx]; decide)
   have x1 : ((bA x).toList == ([105, 110, 115] : List UInt8)) = false := tx_f (t := insT) (by rw [hx]; decide)
   have x1n : ¬ (bA x).toList = ([105, 110, 115] : List UInt8) := tx_n (t := insT) (by rw [hx]; decide)
   have x2 : (bA x).toList = ([114, 117, 110] : List UInt8) := tx_t (t := runT) hx
   have x3 : ((bA x).toList == ([111, 110] : List UInt8)) = false := tx_f (t := onT) (by rw [hx]; decide)
   have x3n : ¬ (bA x).toList = ([111, 110] : List UInt8) := tx_n (t := onT) (by rw [hx]; decide)
   have x4 : ((bA x).toList == ([98, 121, 116, 101, 115] : List UInt8)) = false := tx_f (t := bytesT) (by rw [hx]; decide)
   have x4n : ¬ (bA x).toList = ([98, 121, 116, 101, 115] : List UInt8) := tx_n (t := bytesT) (by rw [hx]; decide)
   have hn2 : ((l.length : Int) == 1) = false := beq_false_of_ne (by omega)
   clear hx hn
   go_wp2
   go_ret
   exact ⟨rfl, HF2.out, _, _, _, HP2.out⟩
 · have x0 : ((bA x).toList == ([99, 111, 100, 101] : List UInt8)) = false := tx_f (t := codeT) (by rw [hx]; decide)
   have x0n : ¬ (bA x).toList = ([99, 111, 100, 101] : List UInt8) := tx_n (t := codeT) (by rw [hx]; decide)
   have x1 : ((bA x).toList == ([105, 110, 115] : List UInt8)) = false := tx_f (t := insT) (by rw [hx]; decide)
   have x1n : ¬ (bA x).toList = ([105, 110, 115] : List UInt8) := tx_n (t := insT) (by rw [hx]; decide)
   have x2 : ((bA x).toList == ([114, 117, 110] : List UInt8)) = false := tx_f (t := runT) (by rw [hx]; decide)
   have x2n : ¬ (bA x).toList = ([114, 117, 110] : List UInt8) := tx_n (t := runT) (by rw [hx]; decide)
   have x3 : (bA x).toList = ([111, 110] : List UInt8) := tx_t (t := onT) hx
   have x4 : ((bA x).toList == ([98, 121, 116, 101, 115] : List UInt8)) = false := tx_f (t := bytesT) (by rw [hx]; decide)
   have x4n : ¬ (bA x).toList = ([98, 121, 116, 101, 115] : List UInt8) := tx_n (t := bytesT) (by rw [hx]; decide)
   have hn2 : ((l.length : Int) == 2) = false := beq_false_of_ne (by omega)
   clear hx hn
   go_wp2
   go_ret
   exact ⟨rfl, HF2.out, _, _, _, HP2.out⟩
 · have x0 : ((bA x).toList == ([99, 111, 100, 101] : List UInt8)) = false := tx_f (t := codeT) (by rw [hx]; decide)
   have x0n : ¬ (bA x).toList = ([99, 111, 100, 101] : List UInt8) := tx_n (t := codeT) (by rw [hx]; decide)
   have x1 : ((bA x).toList == ([105, 110, 115] : List UInt8)) = false := tx_f (t := insT) (by rw [hx]; decide)
   have x1n : ¬ (bA x).toList = ([105, 110, 115] : List UInt8) := tx_n (t := insT) (by rw [hx]; decide)
   have x2 : ((bA x).toList == ([114, 117, 110] : List UInt8)) = false := tx_f (t := runT) (by rw [hx]; decide)
   have x2n : ¬ (bA x).toList = ([114, 117, 110] : List UInt8) := tx_n (t := runT) (by rw [hx]; decide)
   have x3 : ((bA x).toList == ([111, 110] : List UInt8)) = false := tx_f (t := onT) (by rw [hx]; decide)
   have x3n : ¬ (bA x).toList = ([111, 110] : List UInt8) := tx_n (t := onT) (by rw [hx]; decide)
   have x4 : (bA x).toList = ([98, 121, 116, 101, 115] : List UInt8) := tx_t (t := bytesT) hx
   have hn2 : ((l.length : Int) == 1) = false := beq_false_of_ne (by omega)
   clear hx hn
   go_wp2
   go_ret
   exact ⟨rfl, HF2.out, _, _, _, HP2.out⟩
 · have x0 : ((bA x).toList == ([99, 111, 100, 101] : List UInt8)) = false := tx_f (t := codeT) hx.1
   have x0n : ¬ (bA x).toList = ([99, 111, 100, 101] : List UInt8) := tx_n (t := codeT) hx.1
   have x1 : ((bA x).toList == ([105, 110, 115] : List UInt8)) = false := tx_f (t := insT) hx.2.1
   have x1n : ¬ (bA x).toList = ([105, 110, 115] : List UInt8) := tx_n (t := insT) hx.2.1
   have x2 : ((bA x).toList == ([114, 117, 110] : List UInt8)) = false := tx_f (t := runT) hx.2.2.1
   have x2n : ¬ (bA x).toList = ([114, 117, 110] : List UInt8) := tx_n (t := runT) hx.2.2.1
   have x3 : ((bA x).toList == ([111, 110] : List UInt8)) = false := tx_f (t := onT) hx.2.2.2.1
   have x3n : ¬ (bA x).toList = ([111, 110] : List UInt8) := tx_n (t := onT) hx.2.2.2.1
   have x4 : ((bA x).toList == ([98, 121, 116, 101, 115] : List UInt8)) = false := tx_f (t := bytesT) hx.2.2.2.2
   have x4n : ¬ (bA x).toList = ([98, 121, 116, 101, 115] : List UInt8) := tx_n (t := bytesT) hx.2.2.2.2
   clear hx
   go_wp2
   go_ret
   exact ⟨rfl, HF2.out, _, _, _, HP2.out⟩
end Go.Proofs.YtodmkjeankbieaaGreatDoor


namespace Go.Proofs.YtodmkjeankbieaaGreatDoor
open Go.RowKit Go.Sort Go.Lib

set_option maxHeartbeats 12800000 in
set_option maxRecDepth 100000 in
theorem dline_code (wB w : World) (r : Nat) (vw vc vi : Value) (g : PS) (s x : Tx) (ws : List Tx) (a0 a1 a2 a3 a4 a5 : Nat) (hB : Fr wB w) (hm : PlM w wB.heap.size r 65 vw vc vi g) (hv : Env wB) (hok : PsOk g) (hs : s.length < 4294967281) (hps : partsL 32 s = x :: ws) (hl : numsF ws = some [a0, a1, a2, a3, a4, a5]) (h1 : s ≠ narrowT) (h2 : s ≠ wideT) (hx : x = codeT) :
   Calls Tryz.prog 18 #[.pointer (some ⟨r, 0, none⟩), .string (bA s)] w (LinePost wB r 65 (addF g [a0, a1, a2, a3, a4, a5])) := by
 have q1 : ((bA s).toList == ([110, 97, 114, 114, 111, 119] : List UInt8)) = false := tx_f (t := narrowT) h1
 have q1n : ¬ (bA s).toList = ([110, 97, 114, 114, 111, 119] : List UInt8) := tx_n (t := narrowT) h1
 have q2 : ((bA s).toList == ([119, 105, 100, 101] : List UInt8)) = false := tx_f (t := wideT) h2
 have q2n : ¬ (bA s).toList = ([119, 105, 100, 101] : List UInt8) := tx_n (t := wideT) h2
 have x0 : (bA x).toList = ([99, 111, 100, 101] : List UInt8) := tx_t (t := codeT) hx
 have x1 : ((bA x).toList == ([105, 110, 115] : List UInt8)) = false := tx_f (t := insT) (by rw [hx]; decide)
 have x1n : ¬ (bA x).toList = ([105, 110, 115] : List UInt8) := tx_n (t := insT) (by rw [hx]; decide)
 have x2 : ((bA x).toList == ([114, 117, 110] : List UInt8)) = false := tx_f (t := runT) (by rw [hx]; decide)
 have x2n : ¬ (bA x).toList = ([114, 117, 110] : List UInt8) := tx_n (t := runT) (by rw [hx]; decide)
 have x3 : ((bA x).toList == ([111, 110] : List UInt8)) = false := tx_f (t := onT) (by rw [hx]; decide)
 have x3n : ¬ (bA x).toList = ([111, 110] : List UInt8) := tx_n (t := onT) (by rw [hx]; decide)
 have x4 : ((bA x).toList == ([98, 121, 116, 101, 115] : List UInt8)) = false := tx_f (t := bytesT) (by rw [hx]; decide)
 have x4n : ¬ (bA x).toList = ([98, 121, 116, 101, 115] : List UInt8) := tx_n (t := bytesT) (by rw [hx]; decide)
 have HL := Lib.hid hl
 clear h1 h2 hx
 have HB := Lib.hid hB
 have HM := Lib.hid hm
 have HV := Lib.hid hv
 have HOK := Lib.hid hok
 have hl0 := partsL_len 32 s
 rw [hps] at hl0
 simp only [List.length_cons] at hl0
 have hw0 : ∀ y ∈ ws, y.length < 4294967296 := fun y hy => by
   have := parts_mem (b := 32) (l := s) (x := y) (by rw [hps]; exact List.mem_cons_of_mem _ hy)
   omega
 have h1 := splitL_any s 32 hs w (hv.kept hB)
 rw [hps] at h1
 simp only [List.length_cons] at h1
 have HSP := Lib.hid h1
 obtain ⟨A1, c1, hsl, hrd⟩ := words_tail x ws w (by unfold maxLen; omega)
 have HF1 := Lib.hid (show Fr wB (w.alloc (.cells (txs (x :: ws)).toArray 9)) from hB.alloc _)
 have HNU := Lib.hid (numbers_ok (c := c1) hl hw0 (by omega) hrd (hv.kept HF1.out))
 have HC := Lib.hid (Blk.new w 9 (txs (x :: ws)).toArray)
 have hsw := hB.size
 have hlen : ws.length + 1 < 9223372036854775807 := by omega
 clear hB hm hv hok hw0 h1 hps hrd hl
 go_enter Tryz.func18, Tryz.ntmps18
 go_wp2_with fail
 refine HSP.out.mono ?_
 rintro e w1 ⟨rfl, rfl⟩
 go_wp2_with fail
 refine HNU.out.mono ?_
 rintro e w2 ⟨A2, c2, rfl, ho, f2⟩
 have HO2 := Lib.hid (own_low ho (base' := wB.heap.size) (by simp; omega))
 have HF2 := Lib.hid (HF1.out.trans f2)
 have HP2 := Lib.hid (HM.out.fr (((Kept.refl (fun _ => False) w).alloc _).trans f2))
 have HC2 := Lib.hid (HC.out.kept f2 (fun h => h))
 have c0 : w2.cell? ⟨w.heap.size, 0, none⟩ = some (.string (bA x)) := (HC2.out.cell 0).trans rfl
 have z0 := cell_lt c0
 clear ho f2 hsl
 have HR2 := Lib.hid (show Reads w2 (fun k => k ≠ r ∧ vc.ownBlock ≠ some k) 1 A2 6 (u32n [a0, a1, a2, a3, a4, a5]) from own_apart HO2.out HP2.out)
 have HT := Lib.hid (dadd_any wB w2 r vw vc vi g a0 a1 a2 a3 a4 a5 A2 c2 HF2.out HP2.out HV.out HOK.out.2.1 HR2.out (numsF_lt HL.out))
 go_wp2_with fail
 refine HT.out.mono ?_
 rintro e w3 ⟨rfl, hpost⟩
 have HPO := Lib.hid hpost
 clear hpost
 go_wp2
 go_ret
 exact ⟨rfl, HPO.out⟩
set_option maxHeartbeats 12800000 in
set_option maxRecDepth 100000 in
theorem dline_bytes (wB w : World) (r : Nat) (vw vc vi : Value) (g : PS) (s x : Tx) (ws : List Tx) (a0 : Nat) (hB : Fr wB w) (hm : PlM w wB.heap.size r 65 vw vc vi g) (hv : Env wB) (hok : PsOk g) (hs : s.length < 4294967281) (hps : partsL 32 s = x :: ws) (hl : numsF ws = some [a0]) (h1 : s ≠ narrowT) (h2 : s ≠ wideT) (h3 : s ≠ nearT) (hx : x = bytesT) :
   Calls Tryz.prog 18 #[.pointer (some ⟨r, 0, none⟩), .string (bA s)] w (LinePost wB r 65 (g, bytesF g a0)) := by
 have q1 : ((bA s).toList == ([110, 97, 114, 114, 111, 119] : List UInt8)) = false := tx_f (t := narrowT) h1
 have q1n : ¬ (bA s).toList = ([110, 97, 114, 114, 111, 119] : List UInt8) := tx_n (t := narrowT) h1
 have q2 : ((bA s).toList == ([119, 105, 100, 101] : List UInt8)) = false := tx_f (t := wideT) h2
 have q2n : ¬ (bA s).toList = ([119, 105, 100, 101] : List UInt8) := tx_n (t := wideT) h2
 have q3 : ((bA s).toList == ([110, 101, 97, 114] : List UInt8)) = false := tx_f (t := nearT) h3
 have q3n : ¬ (bA s).toList = ([110, 101, 97, 114] : List UInt8) := tx_n (t := nearT) h3
 have x0 : ((bA x).toList == ([99, 111, 100, 101] : List UInt8)) = false := tx_f (t := codeT) (by rw [hx]; decide)
 have x0n : ¬ (bA x).toList = ([99, 111, 100, 101] : List UInt8) := tx_n (t := codeT) (by rw [hx]; decide)
 have x1 : ((bA x).toList == ([105, 110, 115] : List UInt8)) = false := tx_f (t := insT) (by rw [hx]; decide)
 have x1n : ¬ (bA x).toList = ([105, 110, 115] : List UInt8) := tx_n (t := insT) (by rw [hx]; decide)
 have x2 : ((bA x).toList == ([114, 117, 110] : List UInt8)) = false := tx_f (t := runT) (by rw [hx]; decide)
 have x2n : ¬ (bA x).toList = ([114, 117, 110] : List UInt8) := tx_n (t := runT) (by rw [hx]; decide)
 have x3 : ((bA x).toList == ([111, 110] : List UInt8)) = false := tx_f (t := onT) (by rw [hx]; decide)
 have x3n : ¬ (bA x).toList = ([111, 110] : List UInt8) := tx_n (t := onT) (by rw [hx]; decide)
 have x4 : (bA x).toList = ([98, 121, 116, 101, 115] : List UInt8) := tx_t (t := bytesT) hx
 have hk0 : a0 < 4294967296 := numsF_lt hl a0 (by simp)
 clear h1 h2 h3 hx
 have HB := Lib.hid hB
 have HM := Lib.hid hm
 have HV := Lib.hid hv
 have HOK := Lib.hid hok
 have hl0 := partsL_len 32 s
 rw [hps] at hl0
 simp only [List.length_cons] at hl0
 have hw0 : ∀ y ∈ ws, y.length < 4294967296 := fun y hy => by
   have := parts_mem (b := 32) (l := s) (x := y) (by rw [hps]; exact List.mem_cons_of_mem _ hy)
   omega
 have h1 := splitL_any s 32 hs w (hv.kept hB)
 rw [hps] at h1
 simp only [List.length_cons] at h1
 have HSP := Lib.hid h1
 obtain ⟨A1, c1, hsl, hrd⟩ := words_tail x ws w (by unfold maxLen; omega)
 have HF1 := Lib.hid (show Fr wB (w.alloc (.cells (txs (x :: ws)).toArray 9)) from hB.alloc _)
 have HNU := Lib.hid (numbers_ok (c := c1) hl hw0 (by omega) hrd (hv.kept HF1.out))
 have HC := Lib.hid (Blk.new w 9 (txs (x :: ws)).toArray)
 have hsw := hB.size
 have hlen : ws.length + 1 < 9223372036854775807 := by omega
 clear hB hm hv hok hw0 h1 hps hrd hl
 go_enter Tryz.func18, Tryz.ntmps18
 go_wp2_with fail
 refine HSP.out.mono ?_
 rintro e w1 ⟨rfl, rfl⟩
 go_wp2_with fail
 refine HNU.out.mono ?_
 rintro e w2 ⟨A2, c2, rfl, ho, f2⟩
 have HO2 := Lib.hid (own_low ho (base' := wB.heap.size) (by simp; omega))
 have HF2 := Lib.hid (HF1.out.trans f2)
 have HP2 := Lib.hid (HM.out.fr (((Kept.refl (fun _ => False) w).alloc _).trans f2))
 have HC2 := Lib.hid (HC.out.kept f2 (fun h => h))
 have c0 : w2.cell? ⟨w.heap.size, 0, none⟩ = some (.string (bA x)) := (HC2.out.cell 0).trans rfl
 have z0 := cell_lt c0
 clear ho f2 hsl
 have HR2 := Lib.hid (show Reads w2 (fun k => k ≠ r ∧ vc.ownBlock ≠ some k) 1 A2 1 (u32n [a0]) from own_apart HO2.out HP2.out)
 obtain ⟨bl, ol, rfl, ⟨hbr, hbo⟩, hcl⟩ := HR2.out.2 (by omega)
 have d0 := hcl 0 (.int .u32 (a0 : Int)) rfl
 rw [Nat.add_zero] at d0
 have hbl := cell_lt d0
 clear hcl
 have HT := Lib.hid (dbytes_any w2 wB.heap.size r vw vc vi g a0 hk0 HP2.out (HV.out.kept HF2.out))
 go_wp2_with fail
 refine HT.out.mono ?_
 rintro e w4 ⟨rfl, f4⟩
 have HF4 := Lib.hid (HF2.out.trans f4)
 have HP4 := Lib.hid (HP2.out.fr f4)
 clear f4
 go_wp2
 go_ret
 exact ⟨rfl, HF4.out, _, _, _, HP4.out⟩
set_option maxHeartbeats 12800000 in
set_option maxRecDepth 100000 in
theorem dline_on (wB w : World) (r : Nat) (vw vc vi : Value) (g : PS) (s x : Tx) (ws : List Tx) (a0 a1 : Nat) (hB : Fr wB w) (hm : PlM w wB.heap.size r 65 vw vc vi g) (hv : Env wB) (hok : PsOk g) (hs : s.length < 4294967281) (hps : partsL 32 s = x :: ws) (hl : numsF ws = some [a0, a1]) (h1 : s ≠ narrowT) (h2 : s ≠ wideT) (hx : x = onT) :
   Calls Tryz.prog 18 #[.pointer (some ⟨r, 0, none⟩), .string (bA s)] w (LinePost wB r 65 (g, onF g a0 a1)) := by
 have q1 : ((bA s).toList == ([110, 97, 114, 114, 111, 119] : List UInt8)) = false := tx_f (t := narrowT) h1
 have q1n : ¬ (bA s).toList = ([110, 97, 114, 114, 111, 119] : List UInt8) := tx_n (t := narrowT) h1
 have q2 : ((bA s).toList == ([119, 105, 100, 101] : List UInt8)) = false := tx_f (t := wideT) h2
 have q2n : ¬ (bA s).toList = ([119, 105, 100, 101] : List UInt8) := tx_n (t := wideT) h2
 have x0 : ((bA x).toList == ([99, 111, 100, 101] : List UInt8)) = false := tx_f (t := codeT) (by rw [hx]; decide)
 have x0n : ¬ (bA x).toList = ([99, 111, 100, 101] : List UInt8) := tx_n (t := codeT) (by rw [hx]; decide)
 have x1 : ((bA x).toList == ([105, 110, 115] : List UInt8)) = false := tx_f (t := insT) (by rw [hx]; decide)
 have x1n : ¬ (bA x).toList = ([105, 110, 115] : List UInt8) := tx_n (t := insT) (by rw [hx]; decide)
 have x2 : ((bA x).toList == ([114, 117, 110] : List UInt8)) = false := tx_f (t := runT) (by rw [hx]; decide)
 have x2n : ¬ (bA x).toList = ([114, 117, 110] : List UInt8) := tx_n (t := runT) (by rw [hx]; decide)
 have x3 : (bA x).toList = ([111, 110] : List UInt8) := tx_t (t := onT) hx
 have x4 : ((bA x).toList == ([98, 121, 116, 101, 115] : List UInt8)) = false := tx_f (t := bytesT) (by rw [hx]; decide)
 have x4n : ¬ (bA x).toList = ([98, 121, 116, 101, 115] : List UInt8) := tx_n (t := bytesT) (by rw [hx]; decide)
 have hk0 : a0 < 4294967296 := numsF_lt hl a0 (by simp)
 have hk1 : a1 < 4294967296 := numsF_lt hl a1 (by simp)
 clear h1 h2 hx
 have HB := Lib.hid hB
 have HM := Lib.hid hm
 have HV := Lib.hid hv
 have HOK := Lib.hid hok
 have hl0 := partsL_len 32 s
 rw [hps] at hl0
 simp only [List.length_cons] at hl0
 have hw0 : ∀ y ∈ ws, y.length < 4294967296 := fun y hy => by
   have := parts_mem (b := 32) (l := s) (x := y) (by rw [hps]; exact List.mem_cons_of_mem _ hy)
   omega
 have h1 := splitL_any s 32 hs w (hv.kept hB)
 rw [hps] at h1
 simp only [List.length_cons] at h1
 have HSP := Lib.hid h1
 obtain ⟨A1, c1, hsl, hrd⟩ := words_tail x ws w (by unfold maxLen; omega)
 have HF1 := Lib.hid (show Fr wB (w.alloc (.cells (txs (x :: ws)).toArray 9)) from hB.alloc _)
 have HNU := Lib.hid (numbers_ok (c := c1) hl hw0 (by omega) hrd (hv.kept HF1.out))
 have HC := Lib.hid (Blk.new w 9 (txs (x :: ws)).toArray)
 have hsw := hB.size
 have hlen : ws.length + 1 < 9223372036854775807 := by omega
 clear hB hm hv hok hw0 h1 hps hrd hl
 go_enter Tryz.func18, Tryz.ntmps18
 go_wp2_with fail
 refine HSP.out.mono ?_
 rintro e w1 ⟨rfl, rfl⟩
 go_wp2_with fail
 refine HNU.out.mono ?_
 rintro e w2 ⟨A2, c2, rfl, ho, f2⟩
 have HO2 := Lib.hid (own_low ho (base' := wB.heap.size) (by simp; omega))
 have HF2 := Lib.hid (HF1.out.trans f2)
 have HP2 := Lib.hid (HM.out.fr (((Kept.refl (fun _ => False) w).alloc _).trans f2))
 have HC2 := Lib.hid (HC.out.kept f2 (fun h => h))
 have c0 : w2.cell? ⟨w.heap.size, 0, none⟩ = some (.string (bA x)) := (HC2.out.cell 0).trans rfl
 have z0 := cell_lt c0
 clear ho f2 hsl
 have HR2 := Lib.hid (show Reads w2 (fun k => k ≠ r ∧ vc.ownBlock ≠ some k) 1 A2 2 (u32n [a0, a1]) from own_apart HO2.out HP2.out)
 obtain ⟨bl, ol, rfl, ⟨hbr, hbo⟩, hcl⟩ := HR2.out.2 (by omega)
 have d0 := hcl 0 (.int .u32 (a0 : Int)) rfl
 have d1 := hcl 1 (.int .u32 (a1 : Int)) rfl
 rw [Nat.add_zero] at d0
 have hbl := cell_lt d0
 clear hcl
 have HT := Lib.hid (fun w3 (f : Fr w2 w3) => don_any w3 wB.heap.size r vw vc vi g a0 a1 hk0 hk1 (HP2.out.fr f) (HV.out.kept (HF2.out.trans f)))
 go_wp2_with fail
 go_region_held_law (fun w' => w'.cell? ⟨bl, ol, none⟩ = some (.int .u32 (a0 : Int)) ∧ w'.cell? ⟨bl, ol + 1, none⟩ = some (.int .u32 (a1 : Int))) (first | go_keep | exact sc)
   (first
     | (go_at_call 47; refine (HT.out _ ((Kept.refl (fun _ => False) w2).drew)).mono ?_; rintro e w4 ⟨rfl, f4⟩; have f4b : Fr w2 w4 := ((Kept.refl (fun _ => False) w2).drew).trans f4; have sc := And.intro ((Kept.cell (p := ⟨bl, ol, none⟩) f4b hbl (fun h => h)).trans d0) ((Kept.cell (p := ⟨bl, ol + 1, none⟩) f4b hbl (fun h => h)).trans d1); have HF4 := Lib.hid (HF2.out.trans f4b); have HP4 := Lib.hid (HP2.out.fr f4b); clear f4 f4b))
 go_wp2
 go_ret
 exact ⟨rfl, HF4.out, _, _, _, HP4.out⟩
set_option maxHeartbeats 12800000 in
set_option maxRecDepth 100000 in
theorem dline_run (wB w : World) (r : Nat) (vw vc vi : Value) (g : PS) (s x : Tx) (ws : List Tx) (a0 : Nat) (hB : Fr wB w) (hm : PlM w wB.heap.size r 65 vw vc vi g) (hv : Env wB) (hok : PsOk g) (hs : s.length < 4294967281) (hps : partsL 32 s = x :: ws) (hl : numsF ws = some [a0]) (h1 : s ≠ narrowT) (h2 : s ≠ wideT) (hx : x = runT) :
   Calls Tryz.prog 18 #[.pointer (some ⟨r, 0, none⟩), .string (bA s)] w (LinePost wB r 65 (g, runF g a0)) := by
 have q1 : ((bA s).toList == ([110, 97, 114, 114, 111, 119] : List UInt8)) = false := tx_f (t := narrowT) h1
 have q1n : ¬ (bA s).toList = ([110, 97, 114, 114, 111, 119] : List UInt8) := tx_n (t := narrowT) h1
 have q2 : ((bA s).toList == ([119, 105, 100, 101] : List UInt8)) = false := tx_f (t := wideT) h2
 have q2n : ¬ (bA s).toList = ([119, 105, 100, 101] : List UInt8) := tx_n (t := wideT) h2
 have x0 : ((bA x).toList == ([99, 111, 100, 101] : List UInt8)) = false := tx_f (t := codeT) (by rw [hx]; decide)
 have x0n : ¬ (bA x).toList = ([99, 111, 100, 101] : List UInt8) := tx_n (t := codeT) (by rw [hx]; decide)
 have x1 : ((bA x).toList == ([105, 110, 115] : List UInt8)) = false := tx_f (t := insT) (by rw [hx]; decide)
 have x1n : ¬ (bA x).toList = ([105, 110, 115] : List UInt8) := tx_n (t := insT) (by rw [hx]; decide)
 have x2 : (bA x).toList = ([114, 117, 110] : List UInt8) := tx_t (t := runT) hx
 have x3 : ((bA x).toList == ([111, 110] : List UInt8)) = false := tx_f (t := onT) (by rw [hx]; decide)
 have x3n : ¬ (bA x).toList = ([111, 110] : List UInt8) := tx_n (t := onT) (by rw [hx]; decide)
 have x4 : ((bA x).toList == ([98, 121, 116, 101, 115] : List UInt8)) = false := tx_f (t := bytesT) (by rw [hx]; decide)
 have x4n : ¬ (bA x).toList = ([98, 121, 116, 101, 115] : List UInt8) := tx_n (t := bytesT) (by rw [hx]; decide)
 have hk0 : a0 < 4294967296 := numsF_lt hl a0 (by simp)
 have u0 : IntKind.i64.wrap (a0 : Int) = (a0 : Int) := by simp [IntKind.wrap, IntKind.bits, IntKind.signed]; omega
 clear h1 h2 hx
 have HB := Lib.hid hB
 have HM := Lib.hid hm
 have HV := Lib.hid hv
 have HOK := Lib.hid hok
 have hl0 := partsL_len 32 s
 rw [hps] at hl0
 simp only [List.length_cons] at hl0
 have hw0 : ∀ y ∈ ws, y.length < 4294967296 := fun y hy => by
   have := parts_mem (b := 32) (l := s) (x := y) (by rw [hps]; exact List.mem_cons_of_mem _ hy)
   omega
 have h1 := splitL_any s 32 hs w (hv.kept hB)
 rw [hps] at h1
 simp only [List.length_cons] at h1
 have HSP := Lib.hid h1
 obtain ⟨A1, c1, hsl, hrd⟩ := words_tail x ws w (by unfold maxLen; omega)
 have HF1 := Lib.hid (show Fr wB (w.alloc (.cells (txs (x :: ws)).toArray 9)) from hB.alloc _)
 have HNU := Lib.hid (numbers_ok (c := c1) hl hw0 (by omega) hrd (hv.kept HF1.out))
 have HC := Lib.hid (Blk.new w 9 (txs (x :: ws)).toArray)
 have hsw := hB.size
 have hlen : ws.length + 1 < 9223372036854775807 := by omega
 clear hB hm hv hok hw0 h1 hps hrd hl
 go_enter Tryz.func18, Tryz.ntmps18
 go_wp2_with fail
 refine HSP.out.mono ?_
 rintro e w1 ⟨rfl, rfl⟩
 go_wp2_with fail
 refine HNU.out.mono ?_
 rintro e w2 ⟨A2, c2, rfl, ho, f2⟩
 have HO2 := Lib.hid (own_low ho (base' := wB.heap.size) (by simp; omega))
 have HF2 := Lib.hid (HF1.out.trans f2)
 have HP2 := Lib.hid (HM.out.fr (((Kept.refl (fun _ => False) w).alloc _).trans f2))
 have HC2 := Lib.hid (HC.out.kept f2 (fun h => h))
 have c0 : w2.cell? ⟨w.heap.size, 0, none⟩ = some (.string (bA x)) := (HC2.out.cell 0).trans rfl
 have z0 := cell_lt c0
 clear ho f2 hsl
 have HR2 := Lib.hid (show Reads w2 (fun k => k ≠ r ∧ vc.ownBlock ≠ some k) 1 A2 1 (u32n [a0]) from own_apart HO2.out HP2.out)
 obtain ⟨bl, ol, rfl, ⟨hbr, hbo⟩, hcl⟩ := HR2.out.2 (by omega)
 have d0 := hcl 0 (.int .u32 (a0 : Int)) rfl
 rw [Nat.add_zero] at d0
 have hbl := cell_lt d0
 clear hcl
 have HE : Hid (runF g a0 = shownF (wrongV g.p g.ins.length (a0 : Int)) (runV g.p (insI g.ins) a0)) := by show _ = _; rfl
 obtain ⟨A3, c3, rfl, hn3, hc3, hr3⟩ := own_cap HP2.out.oi
 have q0 := HP2.out.blk.cell 0
 have q1 := HP2.out.blk.cell 1
 have q2 := HP2.out.blk.cell 2
 have zq := HP2.out.blk.lt
 simp only [List.getElem?_toArray, List.getElem?_cons_succ, List.getElem?_cons_zero] at q0 q1 q2
 have HD := Lib.hid (fun w3 (f : Fr w2 w3) => run_sh (n := a0) ((HP2.out.fr f).rd) hn3 hc3 (hr3.kept f (fun _ _ h => h)) HP2.out.oki)
 have hwr := wrongV_at g.p g.ins.length (a0 : Int)
 generalize wrongV g.p g.ins.length (a0 : Int) = wr at *
 generalize runV g.p (insI g.ins) a0 = xx at *
 have HWR := Lib.hid hwr
 clear hr3 hn3 hc3 hwr
 go_wp2_with fail
 go_region_held_law (fun w' => w'.cell? ⟨r, 0, none⟩ = some vw ∧ w'.cell? ⟨r, 1, none⟩ = some vc ∧ w'.cell? ⟨r, 2, none⟩ = some (.slice A3 g.ins.length c3) ∧ w'.cell? ⟨bl, ol, none⟩ = some (.int .u32 (a0 : Int))) (first | go_keep | exact sc | exact sd)
   (first
     | (go_at_call 12; refine (HD.out _ ((Kept.refl (fun _ => False) w2).drew)).mono ?_; rintro e w5 ⟨v5, y5, rfl, hsh, hok5, heq, f5⟩; have f5b : Fr w2 w5 := ((Kept.refl (fun _ => False) w2).drew).trans f5; have sc := And.intro ((Kept.cell (p := ⟨r, 0, none⟩) f5b zq (fun h => h)).trans q0) (And.intro ((Kept.cell (p := ⟨r, 1, none⟩) f5b zq (fun h => h)).trans q1) (And.intro ((Kept.cell (p := ⟨r, 2, none⟩) f5b zq (fun h => h)).trans q2) ((Kept.cell (p := ⟨bl, ol, none⟩) f5b hbl (fun h => h)).trans d0))); have HF5 := Lib.hid (HF2.out.trans f5b); have HSH := Lib.hid hsh; have HOK5 := Lib.hid hok5; have HEQ := Lib.hid heq; have HQ5 := Lib.hid f5b; clear hsh hok5 heq f5 f5b)
     | (go_at_call 46; refine (dshown_any _ wr HWR.out.1 (by have := HWR.out.2; omega) v5 y5 w5 HSH.out HOK5.out (HV.out.kept HF5.out)).mono ?_; rintro e w6 ⟨rfl, f6⟩; have f6b : Fr w2 w6 := Kept.trans HQ5.out f6; have sd := And.intro ((Kept.cell (p := ⟨r, 0, none⟩) f6b zq (fun h => h)).trans q0) (And.intro ((Kept.cell (p := ⟨r, 1, none⟩) f6b zq (fun h => h)).trans q1) (And.intro ((Kept.cell (p := ⟨r, 2, none⟩) f6b zq (fun h => h)).trans q2) ((Kept.cell (p := ⟨bl, ol, none⟩) f6b hbl (fun h => h)).trans d0))); have HF6 := Lib.hid (HF5.out.trans f6); have HP6 := Lib.hid (HP2.out.fr f6b); clear f6 f6b))
 go_wp2
 go_ret
 exact ⟨by rw [HE.out, ← HEQ.out]; rfl, HF6.out, _, _, _, HP6.out⟩
end Go.Proofs.YtodmkjeankbieaaGreatDoor


namespace Go.Proofs.YtodmkjeankbieaaGreatDoor
open Go.RowKit Go.Sort Go.Lib

theorem said1_len (s : Tx) (n : Nat) (hn : n < 9223372036854775808) : (saidF s [n]).length ≤ s.length + 20 := by
 have := saidF_len s [n] (by simp; omega)
 simpa using this
theorem dec_len {n : Nat} (hn : n < 9223372036854775808) : (decDigits n).length ≤ 19 := by have := dec_size hn; rw [bA_size] at this; exact this
theorem runF_len (g : PS) (n : Nat) : (runF g n).length ≤ 3000000 := by
 unfold runF
 have h := wrongV_at g.p g.ins.length (n : Int)
 refine shownF_len h.1 h.2 fun h0 => ?_
 have h2 := (wrong_0 h0).2.2.2
 refine ⟨runV_shok (by omega), ?_⟩
 have h3 := mRun_outlen (code := g.p.code) (M := mTemps g.p) n (sh0 (insI g.ins), fun _ => 0)
 have h4 : (sh0 (insI g.ins)).out.length = 0 := rfl
 show (mRun _ _ _ _).1.out.length ≤ _
 simp only [h4] at h3
 omega
theorem onF_len (g : PS) (s n : Nat) : (onF g s n).length ≤ 3000000 := by
 unfold onF
 split
 · have := said1_len badT 2 (by omega)
   have e : badT.length = 3 := rfl
   omega
 · have h := dWrong_at g.p (s : Int) (buildF g.p (s : Int)) g.ins.length (n : Int)
   refine shownF_len h.1 h.2 fun h0 => ?_
   have h2 := (wrong_0 (dWrong_0 h0).2).2.2.2
   refine ⟨doneV_shok (by omega), ?_⟩
   have h3 := mRun_outlen (code := g.p.code) (M := mPlaces g.p (buildF g.p (s : Int)).rows) n (sh0 (insI g.ins), ⟨fun _ => 0, fun _ => 0⟩)
   have h4 : (sh0 (insI g.ins)).out.length = 0 := rfl
   show (mRun _ _ _ _).1.out.length ≤ _
   simp only [h4] at h3
   omega
theorem bytesF_len (g : PS) (s : Nat) : (bytesF g s).length ≤ 3000000 := by
 unfold bytesF
 have e : badT.length = 3 := rfl
 split
 · have := said1_len badT 2 (by omega)
   omega
 · rename_i hb
   split
   · have hb2 : (mayB g.p && tgB (s : Int)) = true := by simpa using hb
     rw [Bool.and_eq_true] at hb2
     have h1 := pd_len (buildF_ok hb2.1 hb2.2).1
     have := dec_len (n := (pdNums (buildF g.p (s : Int))).length) (by omega)
     omega
   · have := said1_len badT 1 (by omega)
     omega
theorem nearF_len {g : PS} (h : PsOk g) : (nearF g).length ≤ 3000000 := by
 unfold nearF
 have e : badT.length = 3 := rfl
 split
 · have := said1_len badT 2 (by omega)
   omega
 · have h1 := aheadM_le (nearM g.p) g.p.wide.length
   have h2 : g.p.wide.length * g.p.wide.length ≤ 12 * 12 := Nat.mul_le_mul h.1 h.1
   have := dec_len (n := aheadM (nearM g.p) g.p.wide.length) (by omega)
   omega
theorem lineF_len {g : PS} {s : Tx} (h : PsOk g) (hs : s.length < 4294967296) : (lineF g s).2.length ≤ 3000000 := by
 have e : okT.length = 2 := rfl
 unfold lineF
 split
 · simp
 · rename_i l hl
   have hll : l.length < 4294967296 := by
     have h1 := numsF_len hl
     have h2 := partsL_len 32 s
     rw [List.length_tail] at h1
     omega
   unfold armF
   split
   · unfold tempF
     split
     · simp
     · have := said1_len okT (g.p.wide.length + 1) (by have := h.1; omega)
       show (saidF _ _).length ≤ _
       omega
   · split
     · exact nearF_len h
     · split
       · unfold addF
         split
         · simp
         · have := said1_len okT (g.p.code.length + 1) (by have := h.2.1; omega)
           show (saidF _ _).length ≤ _
           omega
       · split
         · have := said1_len okT l.length (by omega)
           show (saidF _ _).length ≤ _
           omega
         · split
           · exact runF_len g _
           · split
             · exact onF_len g _ _
             · split
               · exact bytesF_len g _
               · simp
theorem playTo_ok : ∀ (l : List Tx) (z : PS × Tx), PsOk z.1 → (∀ x ∈ l, x.length < 4294967296) → PsOk (playTo l z).1 ∧ (playTo l z).2.length ≤ z.2.length + 3000001 * l.length
 | [], z, h, _ => ⟨h, Nat.le_refl _⟩
 | s :: r, z, h, hl => by
   have h1 := lineF_ok (s := s) h (hl s List.mem_cons_self)
   have h2 := lineF_len (s := s) h (hl s List.mem_cons_self)
   obtain ⟨h3, h4⟩ := playTo_ok r ((lineF z.1 s).1, z.2 ++ (lineF z.1 s).2 ++ [10]) h1 (fun x hx => hl x (List.mem_cons_of_mem _ hx))
   refine ⟨h3, Nat.le_trans h4 ?_⟩
   simp only [List.length_append, List.length_cons, List.length_nil]
   omega
end Go.Proofs.YtodmkjeankbieaaGreatDoor

