/- RefLive, RefLive2, RefLive3: texts of this claim, packed into one file. -/
import Derived.Test.YtodmkjeankbieabKColorApartk3
import Derived.Test.YtodmkjeankbieabKColorApartk0
import Derived.Deep.RegionHeld3
/- The walks of the reference of chapter 4: takes, Needed, Of, Same. -/
namespace Go.Proofs.Ytodmkjeankbieab
open Go.RowKit Go.Sort

theorem use_cell' {w : World} {g k : Nat} {i : In} {u : Int} (h : Blk w g 3 #[.int .i64 i.a, .int .i64 i.b]) (ht : (uses i)[k]? = some u) : w.cell? ⟨g, k, none⟩ = some (.int .i64 u) := use_cell (op := i.op) h ht
theorem uses_len (i : In) : (uses i).length = many i.op := by
  unfold uses
  have := many_le i.op
  simp; omega
def noneTo (i : In) (t k : Nat) : Prop := ((uses i).take k).contains (t : Int) = false
theorem noneTo_s {i : In} {t k : Nat} {u : Int} (h : noneTo i t k) (hu : (uses i)[k]? = some u) (hne : (u == (t : Int)) = false) : noneTo i t (k + 1) := by
  unfold noneTo at *
  rw [beq_eq_false_iff_ne] at hne
  rw [List.take_add_one, hu]
  simp at h ⊢
  exact ⟨h, fun e => hne e.symm⟩
theorem takes_yes {i : In} {t k : Nat} {u : Int} (hu : (uses i)[k]? = some u) (he : (u == (t : Int)) = true) : takesB i t = true := by
  rw [beq_iff_eq] at he
  subst he
  unfold takesB
  rw [List.contains_iff_mem]
  exact List.mem_of_getElem? hu
theorem takes_no {i : In} {t : Nat} (h : noneTo i t (many i.op)) : takesB i t = false := by
  unfold noneTo at h
  rw [← uses_len, List.take_length] at h
  exact h

set_option maxHeartbeats 1000000 in
set_option maxRecDepth 100000 in
theorem refTakes_any (i : In) (t : Nat) (w : World) :
    Calls Try.prog 110 #[i.val, .int .i64 (t : Int)] w fun e w' => e = .returned (.bool (takesB i t)) ∧ Fr w w' := by
  have HU := Lib.hid (fun w => refUses_any i w)
  have HL := Lib.hid (many_le i.op)
  have HT := Lib.hid (fun k u => takes_yes (i := i) (t := t) (k := k) (u := u))
  have HNo := Lib.hid (takes_no (i := i) (t := t))
  have HS := Lib.hid (fun k u => noneTo_s (i := i) (t := t) (k := k) (u := u))
  have HC := Lib.hid (fun w g k u => use_cell' (w := w) (g := g) (k := k) (i := i) (u := u))
  have HUl := Lib.hid (uses_len i)
  generalize takesB i t = res at *
  generalize hm : many i.op = m at *
  clear hm
  have HI := Lib.hid (show noneTo i t 0 from rfl)
  generalize hni : noneTo i t = nto at *
  clear hni
  generalize uses i = us at *
  obtain ⟨op, d, a, b, cc, n⟩ := i
  unfold In.val at *
  simp only at HC HU
  have hml := HL.out
  go_enter Try.func110, Try.ntmps110
  go_wp2_with fail
  refine (HU.out _).mono ?_
  rintro e w1 ⟨g, rfl, hge, hb, f1⟩
  have HB := Lib.hid hb
  have HF : Hid (Fr w w1) := ((Kept.refl _ w).alloc _).trans f1
  have z1 := hb.lt
  clear hb f1 hge
  go_wp2
  go_loop [6] (fun i => ∃ k : Nat, k ≤ m ∧ i = .int .i64 k ∧ Hid (nto k)) (fun i => m - (intOf i).toNat)
  case atStart => exact ⟨0, Nat.zero_le _, rfl, HI⟩
  case round =>
    obtain ⟨k, hk, rfl, hn⟩ := hrel
    by_cases hlt : k < m
    · have hx : us[k]? = some (us[k]'(by have := HUl.out; omega)) := List.getElem?_eq_getElem _
      have c0 := HC.out _ _ _ _ HB.out hx
      have HX := Lib.hid hx
      clear hx
      generalize (us[k]'(by have := HUl.out; omega)) = u at *
      cases hu : (u == (t : Int)) with
      | true =>
        have HR := Lib.hid (HT.out _ _ HX.out hu)
        go_wp2
        go_ret
        exact ⟨ret_b HR.out.symm, HF.out⟩
      | false =>
        have HR := Lib.hid (HS.out _ _ hn.out HX.out hu)
        go_wp2
        go_round
        case rel => exact ⟨k + 1, by omega, by go_num, HR⟩
        case measure => simp [intOf]; omega
    · obtain rfl : k = m := by omega
      have HR := Lib.hid (HNo.out hn.out)
      go_wp2
      go_ret
      exact ⟨ret_b HR.out.symm, HF.out⟩
end Go.Proofs.Ytodmkjeankbieab

/- The walk of the reference's Needed: a search along a row of instructions. -/
namespace Go.Proofs.Ytodmkjeankbieab
open Go.RowKit Go.Sort

def natI (l : List Nat) : List Value := l.map fun (x : Nat) => Value.int .i64 (x : Int)
theorem Reads.lt_ {w : World} {R : Nat → Prop} {size n : Nat} {A : Option Addr} {xs : List Value} (h : Reads w R size A n xs) (hs : 0 < size) : Reads w (fun b => R b ∧ b < w.heap.size) size A n xs := by
  refine ⟨h.1, fun hn => ?_⟩
  obtain ⟨b, off, hA, hR, hc⟩ := h.2 hn
  have h0 : 0 < xs.length := by rw [h.1]; exact Nat.mul_pos hn hs
  exact ⟨b, off, hA, ⟨hR, cell_lt (hc 0 _ (List.getElem?_eq_getElem h0))⟩, hc⟩

/-- what stands in memory during the search -/
structure NdMem (w wr : World) (vw vc v : Value) (L : Nat) (way : List Nat) : Prop where
  bp : Blk wr w.heap.size 25 #[vw, vc]
  cb : Blk wr (w.heap.size + 1) 4 (mkB L (fun m => way.contains m))
  ow : wr.ownsRow (w.heap.size + 2) 3 1 v way.length (natI way)
  fr : Fr w wr
section
variable {w wr w2 : World} {vw vc v : Value} {L : Nat} {way : List Nat}
theorem NdMem.keep (h : NdMem w wr vw vc v L way) (hk : Fr wr w2) : NdMem w w2 vw vc v L way :=
  ⟨h.bp.kept hk (fun h => h), h.cb.kept hk (fun h => h), own_kept h.ow hk (fun _ _ h => h), h.fr.trans hk⟩
theorem NdMem.cp (h : NdMem w wr vw vc v L way) : wr.cell? ⟨w.heap.size, 0, none⟩ = some vw ∧ wr.cell? ⟨w.heap.size, 1, none⟩ = some vc := by
  have c0 := h.bp.cell 0
  have c1 := h.bp.cell 1
  simp only [List.getElem?_toArray, List.getElem?_cons_succ, List.getElem?_cons_zero] at c0 c1
  exact ⟨c0, c1⟩
theorem NdMem.at_ (h : NdMem w wr vw vc v L way) {k x : Nat} (hx : way[k]? = some x) : ∃ b off c, v = .slice (some ⟨b, off, none⟩) way.length c ∧ w.heap.size + 2 ≤ b ∧ b < wr.heap.size ∧ wr.cell? ⟨b, off + k, none⟩ = some (.int .i64 (x : Int)) := by
  obtain ⟨A, c, hv, _, hr⟩ := own_reads h.ow
  have hk : k < way.length := (List.getElem?_eq_some_iff.1 hx).1
  obtain ⟨b, off, rfl, hR, hc⟩ := hr.2 (by omega)
  have := hc k (.int .i64 (x : Int)) (by unfold natI; rw [List.getElem?_map, hx]; rfl)
  exact ⟨b, off, c, hv, hR.1, cell_lt this, this⟩
theorem NdMem.mark (h : NdMem w wr vw vc v L way) (m : Nat) : Blk (wr.setCell ⟨w.heap.size + 1, m, none⟩ (.bool true)) w.heap.size 25 #[vw, vc] ∧ Blk (wr.setCell ⟨w.heap.size + 1, m, none⟩ (.bool true)) (w.heap.size + 1) 4 (mkB L (fun s => (way ++ [m]).contains s)) ∧
    (wr.setCell ⟨w.heap.size + 1, m, none⟩ (.bool true)).ownsRow (w.heap.size + 2) 3 1 v way.length (natI way) ∧ Fr w (wr.setCell ⟨w.heap.size + 1, m, none⟩ (.bool true)) := by
  have hk : Kept (fun b => b = w.heap.size + 1) wr (wr.setCell ⟨w.heap.size + 1, m, none⟩ (.bool true)) := (Kept.refl (fun b => b = w.heap.size + 1) wr).setCell (p := ⟨w.heap.size + 1, m, none⟩) (fun _ => rfl) _
  refine ⟨h.bp.kept hk (by omega), ?_, own_kept h.ow hk (fun g hg e => by have := (own_lt h.ow hg).1; omega), h.fr.then hk (fun i hi e => by omega)⟩
  have := h.cb.bset m true
  rw [mkB_congr (g := fun s => (way ++ [m]).contains s) (fun s _ => ?_)] at this
  · exact this
  · by_cases e : s = m
    · subst e; simp
    · rw [if_neg e]
      rw [Bool.eq_iff_iff]
      simp [e]
theorem NdMem.add (h : NdMem w wr vw vc v L way) {m : Nat} {v1 : Value} {o : Obj} (hown : w2.ownsRow (w.heap.size + 2) 3 1 v1 (way.length + 1) (natI way ++ #[Value.int .i64 (m : Int)].toList)) (hk : Kept (fun k => v.ownBlock = some k) ((wr.setCell ⟨w.heap.size + 1, m, none⟩ (.bool true)).alloc o) w2) :
    NdMem w w2 vw vc v1 L (way ++ [m]) := by
  obtain ⟨h1, h2, h3, h4⟩ := h.mark m
  have hne : ∀ g, v.ownBlock = some g → w.heap.size + 2 ≤ g := fun g hg => (own_lt h.ow hg).1
  refine ⟨(h1.alloc o).kept hk (fun e => by have := hne _ e; omega), (h2.alloc o).kept hk (fun e => by have := hne _ e; omega), ?_, (h4.alloc o).then hk (fun i hi e => by have := hne _ e; omega)⟩
  unfold natI at *
  rw [List.length_append, List.map_append]
  exact hown
theorem NdMem.val (h : NdMem w wr vw vc v L way) : ∃ A c, v = .slice A way.length c := by
  obtain ⟨A, c, hv, _, hr⟩ := own_reads h.ow
  exact ⟨A, c, hv⟩
end

set_option maxHeartbeats 4000000 in
set_option maxRecDepth 100000 in
theorem refNeeded_any (R : Nat → Prop) (v : Value) (p : Pg) (at_ t : Nat) (w : World) (h : RdPg w R v p) (hmay : mayB p = true) (hat : at_ < p.code.length) (ht : t < p.wide.length) :
    Calls Try.prog 87 #[v, .int .i64 (at_ : Int), .int .i64 (t : Int)] w fun e w' => e = .returned (.bool (needB p.code at_ t)) ∧ Fr w w' := by
  have H := Lib.hid h
  obtain ⟨vw, vc, rfl, ⟨A, c, rfl, hl, hr⟩, ⟨A', c', rfl, hl', hr', ho'⟩⟩ := h
  clear hr hr' ho' hl hl'
  obtain ⟨l1, l2, l3, l4⟩ := mayB_len hmay
  have HB := Lib.hid hmay
  clear hmay
  have hmk := run_make_bools p.code.length (by omega)
  have HS := Lib.hid (Bfs.start (t := t) hat)
  have hm0 : (mkB p.code.length fun _ => false)[at_]? = some (.bool false) := mkB_at hat
  have hm1 : (mkB p.code.length fun _ => false).setIfInBounds at_ (.bool true) = mkB p.code.length (fun m => decide (m = at_)) := by
    rw [mkB_set]
    apply mkB_congr
    intro t _
    by_cases h : t = at_ <;> simp [h]
  have hm2 := Lib.hid (show mkB p.code.length (fun m => decide (m = at_)) = mkB p.code.length (fun m => [at_].contains m) from mkB_congr fun t _ => by simp)
  have hat0 : decide (p.code.length ≤ at_) = false := decide_eq_false (by omega)
  go_enter Try.func87, Try.ntmps87
  go_wp2
  have HM0 := Lib.hid (show NdMem w (((w.alloc (.cells #[.slice A p.wide.length c, .slice A' p.code.length c'] 25)).alloc (.cells (mkB p.code.length (fun m => decide (m = at_))) 4)).alloc (.cells #[.int .i64 (at_ : Int)] 3))
      (.slice A p.wide.length c) (.slice A' p.code.length c') (.slice (some ⟨w.heap.size + 1 + 1, 0, none⟩) 1 1) p.code.length [at_] from by
    refine ⟨((Blk.new w _ _).alloc _).alloc _, ?_, ?_, (((Kept.refl _ w).alloc _).alloc _).alloc _⟩
    · have := (Blk.new (w.alloc (.cells #[Value.slice A p.wide.length c, Value.slice A' p.code.length c'] 25)) 4 (mkB p.code.length (fun m => decide (m = at_)))).alloc (.cells #[.int .i64 (at_ : Int)] 3)
      rw [← hm2.out]
      simp only [World.size_alloc] at this
      exact this
    · have := Blk.new ((w.alloc (.cells #[Value.slice A p.wide.length c, Value.slice A' p.code.length c'] 25)).alloc (.cells (mkB p.code.length (fun m => decide (m = at_))) 4)) 3 #[.int .i64 (at_ : Int)]
      simp only [World.size_alloc] at this
      exact ⟨rfl, Or.inr ⟨w.heap.size + 1 + 1, 1, #[.int .i64 (at_ : Int)], rfl, by omega, this, by simp, by unfold maxLen; omega, rfl, rfl⟩⟩)
  clear hm0 hm1 hmk
  go_loopg [8, 9] p.code.length (fun gn v8 i wr => ∃ (k : Nat) (way : List Nat), k ≤ way.length ∧ i = .int .i64 k ∧ Hid (NdMem w wr (.slice A p.wide.length c) (.slice A' p.code.length c') v8 p.code.length way) ∧ Hid (Bfs p.code t at_ k way ∧ gn + k = p.code.length))
  case atStart => exact ⟨0, [at_], Nat.zero_le _, rfl, HM0, ⟨HS.out, rfl⟩⟩
  case round =>
    obtain ⟨k, way, hk, rfl, hm, hbg⟩ := hrel
    have hb := Lib.hid hbg.out.1
    have HGK := Lib.hid hbg.out.2
    clear hbg
    clear HM0 HS
    obtain ⟨q0, q1⟩ := hm.out.cp
    have z0 := hm.out.bp.lt
    have z1 := hm.out.cb.lt
    have hwl := hb.out.len
    by_cases hlt : k < way.length
    · have hx : way[k]? = some way[k] := List.getElem?_eq_getElem hlt
      obtain ⟨b8, o8, c8, rfl, hge8, hlt8, r0⟩ := hm.out.at_ hx
      have hxl := hb.out.lt _ (List.getElem_mem hlt)
      have HX := Lib.hid hx
      clear hx
      generalize way[k] = x at *
      have hxc : p.code[x]? = some (inAt p.code x) := by rw [inAt_get hxl]; exact List.getElem?_eq_getElem hxl
      obtain ⟨b3, o3, hA3, _, d0, d1, d2, d3, d4, d5⟩ := ((pg_code H.out).kept hm.out.fr (fun _ _ h => h)).ins hxc
      subst hA3
      have HI := Lib.hid (insOk (mayB_ins HB.out (inAt_mem hxl)))
      have hb3 := cell_lt d0
      clear hxc
      generalize hii : inAt p.code x = i at d0 d1 d2 d3 d4 d5 HI
      have HII := Lib.hid hii
      clear hii
      obtain ⟨op, d, a, bb, cc, n⟩ := i
      simp only at d0 d1 d2 d3 d4 d5
      have hx0 : (0 : Int) ≤ (x : Int) := Int.natCast_nonneg _
      have hx1 : (x : Int) < (p.code.length : Int) := by omega
      have hk0 : (0 : Int) ≤ (k : Int) := Int.natCast_nonneg _
      have hk1 : (k : Int) < (way.length : Int) := by omega
      obtain ⟨wB, rfl⟩ : ∃ wB : World, wB = wr := ⟨_, rfl⟩
      go_wp2
      have n0 := World.new_ne wB ⟨w.heap.size, 1, none⟩ q1
      have n1 := World.new_ne wB ⟨b8, o8 + k, none⟩ r0
      have n2 := World.new_ne wB ⟨b3, o3 + x * 6, none⟩ d0
      have n3 := World.new_ne wB ⟨b3, o3 + x * 6 + 1, none⟩ d1
      have n4 := World.new_ne wB ⟨b3, o3 + x * 6 + 2, none⟩ d2
      have n5 := World.new_ne wB ⟨b3, o3 + x * 6 + 3, none⟩ d3
      have n6 := World.new_ne wB ⟨b3, o3 + x * 6 + 4, none⟩ d4
      have n7 := World.new_ne wB ⟨b3, o3 + x * 6 + 5, none⟩ d5
      go_region_held3 (fun w' => w'.cell? ⟨w.heap.size, 1, none⟩ = some (.slice (some ⟨b3, o3, none⟩) p.code.length c') ∧ w'.cell? ⟨b8, o8 + k, none⟩ = some (.int .i64 (x : Int)) ∧ w'.cell? ⟨b3, o3 + x * 6, none⟩ = some (.int .i64 op) ∧
          w'.cell? ⟨b3, o3 + x * 6 + 1, none⟩ = some (.int .i64 d) ∧ w'.cell? ⟨b3, o3 + x * 6 + 2, none⟩ = some (.int .i64 a) ∧ w'.cell? ⟨b3, o3 + x * 6 + 3, none⟩ = some (.int .i64 bb) ∧ w'.cell? ⟨b3, o3 + x * 6 + 4, none⟩ = some (.int .i64 cc) ∧
          w'.cell? ⟨b3, o3 + x * 6 + 5, none⟩ = some (.int .u32 n))
        (go_keep) (fail)
      have HI2 := Lib.hid (Blk.new wB 45 #[.int .i64 op, .int .i64 d, .int .i64 a, .int .i64 bb, .int .i64 cc, .int .u32 n])
      clear n0 n1 n2 n3 n4 n5 n6 n7
      have HM2 := Lib.hid (hm.out.keep (((Kept.refl _ wB).alloc (.cells #[.int .i64 op, .int .i64 d, .int .i64 a, .int .i64 bb, .int .i64 cc, .int .u32 n] 45)).drew))
      have HI3 : Hid (Blk (wB.alloc (.cells #[.int .i64 op, .int .i64 d, .int .i64 a, .int .i64 bb, .int .i64 cc, .int .u32 n] 45)).drew wB.heap.size 45 #[.int .i64 op, .int .i64 d, .int .i64 a, .int .i64 bb, .int .i64 cc, .int .u32 n]) := HI2.out
      have HTk := Lib.hid (fun w => refTakes_any (⟨op, d, a, bb, cc, n⟩ : In) t w)
      have HNx := Lib.hid (fun w => refNexts_any (⟨op, d, a, bb, cc, n⟩ : In) x w (by omega) (by omega))
      have HGv := Lib.hid (refGives_any op)
      unfold In.val at HTk HNx
      simp only at HTk HNx
      clear HI2 d0 d1 d2 d3 d4 d5 r0 hb3
      go_wp2_with fail
      refine (HTk.out _).mono ?_
      rintro e w3 ⟨rfl, f3⟩
      have HM3 := Lib.hid (HM2.out.keep f3)
      have HI4 := Lib.hid (HI3.out.kept f3 (fun h => h))
      clear HM2 HI3 f3 HTk hm
      have z3 := HI4.out.lt
      have e0 := HI4.out.cell 0
      have e1 := HI4.out.cell 1
      have e2 := HI4.out.cell 2
      have e3 := HI4.out.cell 3
      have e4 := HI4.out.cell 4
      have e5 := HI4.out.cell 5
      simp only [List.getElem?_toArray, List.getElem?_cons_succ, List.getElem?_cons_zero] at e0 e1 e2 e3 e4 e5
      cases htk : takesB (⟨op, d, a, bb, cc, n⟩ : In) t with
      | true =>
        have HY := Lib.hid (hb.out.yes HX.out (by rw [HII.out]; exact htk))
        clear htk
        go_wp2
        go_ret
        exact ⟨ret_b HY.out.symm, HM3.out.fr⟩
      | false =>
        by_cases hgs : gvs op = true ∧ (d == (t : Int)) = true
        · obtain ⟨hg, hd⟩ := hgs
          obtain rfl : d = (t : Int) := by rwa [beq_iff_eq] at hd
          clear hd
          have HBn := Lib.hid (hb.out.next HX.out (by rw [HII.out]; exact htk) (by
            rw [HII.out]; unfold givesB
            simp [hg]))
          rw [hg] at HGv
          clear htk hg
          go_wp2_with (go_at_call 44; refine (HGv.out _).mono ?_; rintro e w' ⟨rfl, rfl⟩)
          go_roundg (gk - 1)
          case measure => have := HGK.out; omega
          case rel => exact ⟨k + 1, way, by omega, by go_num, HM3, ⟨HBn.out, by have := HGK.out; omega⟩⟩
        · have hgb : Hid (givesB (inAt p.code x) t = false) := by
            show _ = _
            rw [HII.out]; unfold givesB
            cases hg : gvs op with
            | false => rfl
            | true =>
              have : ¬ d = (t : Int) := fun e => hgs ⟨hg, by rw [e]; simp⟩
              simp [this]
          have HTf : Hid (takesB (inAt p.code x) t = false) := by show _ = _; rw [HII.out]; exact htk
          have hgd : (gvs op = false) ∨ (gvs op = true ∧ (d == (t : Int)) = false) := by
            cases hg : gvs op with
            | false => exact Or.inl rfl
            | true => exact Or.inr ⟨rfl, by cases h : (d == (t : Int)) with | false => rfl | true => exact absurd ⟨hg, h⟩ hgs⟩
          clear htk hgs
          rcases hgd with hg | ⟨hg, hd⟩
          all_goals
            rw [hg] at HGv
            clear hg
            go_wp2_with (go_at_call 44; refine (HGv.out _).mono ?_; rintro e w' ⟨rfl, rfl⟩)
            obtain ⟨b9, o9, c9, hv9, hge9, hlt9, r9⟩ := HM3.out.at_ HX.out
            simp only [Value.slice.injEq, Option.some.injEq, Addr.mk.injEq, and_true] at hv9
            obtain ⟨⟨rfl, rfl⟩, _, rfl⟩ := hv9
            have HE : Hid (w3.cell? ⟨wB.heap.size, 0, none⟩ = some (.int .i64 op) ∧ w3.cell? ⟨wB.heap.size, 1, none⟩ = some (.int .i64 d)) := ⟨e0, e1⟩
            go_region_held3 (fun w' => w'.cell? ⟨b8, o8 + k, none⟩ = some (.int .i64 (x : Int)) ∧ w'.cell? ⟨wB.heap.size, 0, none⟩ = some (.int .i64 op) ∧ w'.cell? ⟨wB.heap.size, 1, none⟩ = some (.int .i64 d) ∧ w'.cell? ⟨wB.heap.size, 2, none⟩ = some (.int .i64 a) ∧
                w'.cell? ⟨wB.heap.size, 3, none⟩ = some (.int .i64 bb) ∧ w'.cell? ⟨wB.heap.size, 4, none⟩ = some (.int .i64 cc) ∧ w'.cell? ⟨wB.heap.size, 5, none⟩ = some (.int .u32 n))
              (first
                | go_keep
                | (go_split_ands
                   refine ⟨?_, ?_, ?_, ?_, ?_, ?_, ?_⟩
                   · exact (hx4.cell hlt9).trans r9
                   · exact (hx4.cell z3).trans e0
                   · exact (hx4.cell z3).trans e1
                   · exact (hx4.cell z3).trans e2
                   · exact (hx4.cell z3).trans e3
                   · exact (hx4.cell z3).trans e4
                   · exact (hx4.cell z3).trans e5))
              (first
                | (go_at_call 88; refine (HNx.out _).mono ?_; rintro e w4 ⟨v4, rfl, hn4, hx4⟩))
            have HM4 := Lib.hid (HM3.out.keep (show Fr w3 w4 from ((Kept.refl _ w3).drew).trans hx4))
            have HN4 : Hid (RdI w4 (fun b => w3.heap.size ≤ b) v4 (nexts ⟨op, d, a, bb, cc, n⟩ x)) := hn4
            have HWo : Hid (∀ g, (Value.slice (some ⟨b8, o8, none⟩) way.length c8).ownBlock = some g → g < w3.heap.size ∨ w4.heap.size ≤ g) := fun g hg => Or.inl (own_lt HM3.out.ow hg).2
            have HNn := Lib.hid (show nexts (⟨op, d, a, bb, cc, n⟩ : In) (x : Int) = nexts (inAt p.code x) x by rw [HII.out])
            have HNp := Lib.hid (fun m (hm : m ∈ nexts (⟨op, d, a, bb, cc, n⟩ : In) (x : Int)) => nexts_pos HI.out hm)
            have hnl := nexts_len ⟨op, d, a, bb, cc, n⟩ (x : Int)
            have hz34 : w3.heap.size ≤ w4.heap.size := hx4.size
            clear hn4 hx4 HM3 HI4 HNx HGv HE e0 e1 e2 e3 e4 e5 r9
            generalize nexts (⟨op, d, a, bb, cc, n⟩ : In) (x : Int) = ns at *
            obtain ⟨A4, c4, rfl⟩ := HN4.out.val
            have HZ4 := Lib.hid hz34
            go_wp2
            obtain ⟨gO, rfl⟩ : ∃ gO : Nat, gO = gk := ⟨_, rfl⟩
            have HB4 := Lib.hid (show Hid (w.heap.size + 1 < w3.heap.size) from by show _ < _; have := HM4.out.cb.lt; omega)
            go_loopg [8, 12] ns.length (fun gn v8 i wr => ∃ (j : Nat) (way2 : List Nat), j ≤ ns.length ∧ i = .int .i64 j ∧ Hid (NdMem w wr (.slice A p.wide.length c) (.slice (some ⟨b3, o3, none⟩) p.code.length c') v8 p.code.length way2) ∧
              Hid (Bfs p.code t at_ k way2 ∧ onWay p.code ns j way2 ∧ way2[k]? = some x ∧ gn + j = ns.length) ∧
              Hid (RdI wr (fun b => w3.heap.size ≤ b ∧ b < w4.heap.size) (.slice A4 ns.length c4) ns ∧ (∀ g, v8.ownBlock = some g → g < w3.heap.size ∨ w4.heap.size ≤ g) ∧ w4.heap.size ≤ wr.heap.size))
            case atStart =>
              refine ⟨0, way, Nat.zero_le _, rfl, HM4, ⟨hb.out, onWay_0 ns, HX.out, by omega⟩, ⟨?_, HWo.out, Nat.le_refl _⟩⟩
              obtain ⟨A1, c1, h1, h2⟩ := HN4.out
              exact ⟨A1, c1, h1, h2.lt_ (by omega)⟩
            case round =>
              obtain ⟨j, way2, hj, rfl, hm5, hq, hr⟩ := hrel
              clear HM4 HN4 HWo
              have hjk : Hid (gk + j = ns.length) := hq.out.2.2.2
              obtain ⟨q0, q1⟩ := hm5.out.cp
              have z5 := hm5.out.bp.lt
              have z6 := hm5.out.cb.lt
              have hw2 := hq.out.1.len
              by_cases hjl : j < ns.length
              · have hx : ns[j]? = some ns[j] := List.getElem?_eq_getElem hjl
                obtain ⟨bn, on, cn, hv, ⟨hR1, hR2⟩, hbn, r5⟩ := hr.out.1.at_ hx
                simp only [Value.slice.injEq] at hv
                obtain ⟨rfl, _, rfl⟩ := hv
                have hmem := List.getElem_mem hjl
                have hp := HNp.out _ hmem
                have HX5 := Lib.hid hx
                have HMem := Lib.hid hmem
                clear hx hmem
                generalize ns[j] = y at *
                obtain ⟨m, rfl⟩ : ∃ m : Nat, y = (m : Int) := ⟨y.toNat, by omega⟩
                have hj0 : (0 : Int) ≤ (j : Int) := Int.natCast_nonneg _
                have hj1 : (j : Int) < (ns.length : Int) := by omega
                have hm0 : (0 : Int) ≤ (m : Int) := Int.natCast_nonneg _
                by_cases hml : m < p.code.length
                · have hm1 : (m : Int) < (p.code.length : Int) := by omega
                  have y0 := hm5.out.cb.bcell hml
                  by_cases hin : m ∈ way2
                  · have HN := Lib.hid (onWay_s (code := p.code) hq.out.2.1 HX5.out (fun _ h => h) (fun _ => by simpa using hin))
                    rw [show way2.contains m = true by simpa using hin] at y0
                    go_wp2
                    go_quiet (fail)
                    go_wp2
                    go_roundg (gk - 1)
                    case measure => have := hjk.out; omega
                    case rel => exact ⟨j + 1, way2, by omega, by go_num, hm5.out.keep ((Kept.refl _ wr).drewN _), ⟨hq.out.1, HN.out, hq.out.2.2.1, by have := hjk.out; omega⟩, ⟨hr.out.1.kept ((Kept.refl (fun _ => False) wr).drewN _) (fun _ _ h => h), hr.out.2⟩⟩
                  · have HBa := Lib.hid (hq.out.1.add hq.out.2.2.1 hgb.out (nx_of HNn.out HMem.out (by simpa using hml)) (by simpa using hin))
                    have HN := Lib.hid (onWay_s (code := p.code) (way' := way2 ++ [m]) hq.out.2.1 HX5.out (fun _ h => List.mem_append_left _ h) (fun _ => by simp))
                    have HX6 : Hid ((way2 ++ [m])[k]? = some x) := by
                      show _ = _
                      rw [List.getElem?_append_left (List.getElem?_eq_some_iff.1 hq.out.2.2.1).1]
                      exact hq.out.2.2.1
                    rw [show way2.contains m = false by simpa using hin] at y0
                    go_wp2
                    go_quiet (fail)
                    have hmD := Lib.hid (hm5.out.keep ((Kept.refl _ wr).drewN nq))
                    have hrD := Lib.hid (hr.out.1.kept ((Kept.refl (fun _ => False) wr).drewN nq) (fun _ _ h => h))
                    have hsD := Lib.hid (show w4.heap.size ≤ (wr.drewN nq).heap.size from hr.out.2.2)
                    have hoD := Lib.hid hr.out.2.1
                    have r5D : (wr.drewN nq).cell? ⟨bn, on + j, none⟩ = some (.int .i64 (m : Int)) := r5
                    have y0D : (wr.drewN nq).cell? ⟨w.heap.size + 1, m, none⟩ = some (.bool false) := y0
                    clear hm5 hr r5 y0 q0 q1 z5 z6 hbn
                    generalize wr.drewN nq = wD at *
                    have fz := hmD.out.cb.frozen m
                    have z5 := hmD.out.cb.lt
                    have z7 := cell_lt r5D
                    have hwl2 : way2.length ≤ 40 := by omega
                    have hne5 : w.heap.size + 1 < bn := by have := HB4.out.out; omega
                    have hm0' : (0 : Int) ≤ (m : Int) := Int.natCast_nonneg _
                    go_wp2_with (at_builtin
                                 refine wpList_app (base := w.heap.size + 2) _ rfl slInt' (.tmp 89) (.tmp 94) rfl u8 _ _ rfl (World.ownsRow.alloc (hmD.out.mark m).2.2.1 _) (fun _ => True) _ 1 1 _ rfl (Reads.lit' (by simp) trivial rfl) ?_ ?_ ?_ ?_ ?_
                                 · simp [Value.oneCell']
                                 · omega
                                 · unfold maxLen; omega
                                 · simp; omega
                                 intro v9 w9 hown9 hk9 hat9)
                    have HM9 := Lib.hid (hmD.out.add hown9 hk9)
                    have HR9 := Lib.hid (show RdI w9 (fun b => w3.heap.size ≤ b ∧ b < w4.heap.size) (.slice (some ⟨bn, on, none⟩) ns.length c4) ns from
                      ((hrD.out.kept ((Kept.refl (fun b => b = w.heap.size + 1) wD).setCell (p := ⟨w.heap.size + 1, m, none⟩) (fun _ => rfl) (.bool true)) (fun b hb e => by have := HB4.out.out; have := hb.1; omega)).kept
                        ((Kept.refl (fun _ => False) _).alloc (.cells #[Value.int IntKind.i64 (m : Int)] 3)) (fun _ _ h => h)).kept hk9 (fun b hb e => by have := hoD.out b e; have := hb.1; have := hb.2; omega))
                    have HO9 : Hid (∀ g, v9.ownBlock = some g → g < w3.heap.size ∨ w4.heap.size ≤ g) := fun g hg => by
                      rcases hat9 with h | h
                      · exact hoD.out g (by rw [← h]; exact hg)
                      · have hz : ((wD.setCell ⟨w.heap.size + 1, m, none⟩ (.bool true)).alloc (.cells #[Value.int IntKind.i64 (m : Int)] 3)).heap.size = wD.heap.size + 1 := by simp [World.setCell]
                        have hg2 := h.symm.trans hg
                        injection hg2 with hg2
                        have := hsD.out
                        right; omega
                    have HS9 : Hid (w4.heap.size ≤ w9.heap.size) := by
                      have h1 := hk9.size
                      have h2 := hsD.out
                      simp [World.setCell] at h1
                      show _ ≤ _
                      omega
                    clear hown9 hk9 hat9 hmD hrD hsD hoD
                    go_roundg (gk - 1)
                    case measure => have := hjk.out; omega
                    case rel => exact ⟨j + 1, way2 ++ [m], by omega, by go_num, HM9, ⟨HBa.out, HN.out, HX6.out, by have := hjk.out; omega⟩, ⟨HR9.out, HO9.out, HS9.out⟩⟩
                · have HN := Lib.hid (onWay_s (code := p.code) hq.out.2.1 HX5.out (fun _ h => h) (fun h => absurd (by simpa using h) hml))
                  have hd : decide (m < p.code.length) = false := decide_eq_false hml
                  go_wp2
                  go_quiet (fail)
                  go_wp2
                  go_roundg (gk - 1)
                  case measure => have := hjk.out; omega
                  case rel => exact ⟨j + 1, way2, by omega, by go_num, hm5.out.keep ((Kept.refl _ wr).drewN _), ⟨hq.out.1, HN.out, hq.out.2.2.1, by have := hjk.out; omega⟩, ⟨hr.out.1.kept ((Kept.refl (fun _ => False) wr).drewN _) (fun _ _ h => h), hr.out.2⟩⟩
              · obtain rfl : j = ns.length := by omega
                have HBn := Lib.hid (hq.out.1.next hq.out.2.2.1 HTf.out (fun _ => onWay_all HNn.out hq.out.2.1))
                have hk2 : k < way2.length := (List.getElem?_eq_some_iff.1 hq.out.2.2.1).1
                go_wp2
                go_roundg (gO - 1)
                case measure => have := HGK.out; omega
                case rel => exact ⟨k + 1, way2, by omega, by go_num, hm5, ⟨HBn.out, by have := HGK.out; omega⟩⟩
    · obtain rfl : k = way.length := by omega
      have HNo := Lib.hid hb.out.no
      obtain ⟨A8, c8, rfl⟩ := hm.out.val
      go_wp2
      go_ret
      exact ⟨ret_b HNo.out.symm, hm.out.fr⟩
end Go.Proofs.Ytodmkjeankbieab

/- The walks of the reference's Of and Same, of chapter 4. -/
namespace Go.Proofs.Ytodmkjeankbieab
open Go.RowKit Go.Sort

theorem slBools : SlTy Try.prog 38 22 1 24 := SlTy.mk' (z := .slice none 0 0) Try.underlying38 (by kernel_rfl) rfl (by decide)

/-- rows of truths that the call has made, one behind the other -/
structure RowsOwn (w wr : World) (v : Value) (W k : Nat) (f : Nat → Nat → Bool) (vs : List Value) : Prop where
  ow : wr.ownsRow w.heap.size 22 1 v k vs
  row : ∀ j, j < k → ∃ g, vs[j]? = some (.slice (some ⟨g, 0, none⟩) W W) ∧ w.heap.size ≤ g ∧ Blk wr g 4 (mkB W (f j))
theorem RowsOwn.nil (w wr : World) (W : Nat) (f : Nat → Nat → Bool) : RowsOwn w wr (.slice none 0 0) W 0 f [] := ⟨⟨rfl, Or.inl ⟨rfl, rfl⟩⟩, fun j hj => by omega⟩
theorem RowsOwn.len {w wr : World} {v : Value} {W k : Nat} {f : Nat → Nat → Bool} {vs : List Value} (h : RowsOwn w wr v W k f vs) : vs.length = k := by have := h.ow.1; omega
theorem RowsOwn.kept {w wr w2 : World} {S : Nat → Prop} {v : Value} {W k : Nat} {f : Nat → Nat → Bool} {vs : List Value} (h : RowsOwn w wr v W k f vs) (hk : Kept S wr w2) (hs : ∀ b, b < wr.heap.size → ¬ S b) : RowsOwn w w2 v W k f vs :=
  ⟨own_kept h.ow hk (fun g hg => hs g (own_lt h.ow hg).2), fun j hj => let ⟨g, h1, h2, h3⟩ := h.row j hj; ⟨g, h1, h2, h3.kept hk (hs g h3.lt)⟩⟩
/-- a row more: behind the append -/
theorem RowsOwn.snoc {w wr w2 : World} {v v1 : Value} {W k g : Nat} {f : Nat → Nat → Bool} {vs : List Value} {o : Obj} (h : RowsOwn w wr v W k f vs) (hg : w.heap.size ≤ g) (hb : Blk wr g 4 (mkB W (f k)))
    (hown : w2.ownsRow w.heap.size 22 1 v1 (k + 1) (vs ++ #[Value.slice (some ⟨g, 0, none⟩) W W].toList)) (hk : Kept (fun b => v.ownBlock = some b) (wr.alloc o) w2) :
    RowsOwn w w2 v1 W (k + 1) f (vs ++ [.slice (some ⟨g, 0, none⟩) W W]) := by
  refine ⟨hown, fun j hj => ?_⟩
  have hl := h.len
  by_cases e : j = k
  · subst e
    exact ⟨g, by rw [List.getElem?_append_right (by omega)]; simp [hl], hg, (hb.alloc o).kept hk (own_blk_ne h.ow hb (by decide))⟩
  · obtain ⟨g', h1, h2, h3⟩ := h.row j (by omega)
    exact ⟨g', by rw [List.getElem?_append_left (by omega)]; exact h1, h2, (h3.alloc o).kept hk (own_blk_ne h.ow h3 (by decide))⟩
theorem RowsOwn.rdm {w wr : World} {v : Value} {W k : Nat} {f : Nat → Nat → Bool} {vs : List Value} (h : RowsOwn w wr v W k f vs) (hW : W ≤ 100) (hk : k ≤ 100) : RdM wr (fun b => w.heap.size ≤ b) v (matL k W f) := by
  have hm : (matL k W f).length = k := by unfold matL; simp
  obtain ⟨A, c, hv, _, hr⟩ := own_reads h.ow
  refine ⟨A, c, vs, by rw [hm]; exact hv, by rw [hm]; unfold maxLen; omega, by rw [hm]; exact hr.more (fun b hb => hb.1), ?_⟩
  intro j r hj
  have hjk : j < k := by rw [← hm]; exact (List.getElem?_eq_some_iff.1 hj).1
  rw [matL_at hjk] at hj
  simp at hj
  subst hj
  obtain ⟨g, h1, h2, h3⟩ := h.row j hjk
  exact ⟨_, h1, RdBo.of_blk h3 (by omega) (by unfold maxLen; omega)⟩

theorem matL_congr {L W : Nat} {f g : Nat → Nat → Bool} (h : ∀ k t, k < L → t < W → f k t = g k t) : matL L W f = matL L W g := by
  unfold matL
  apply List.map_congr_left
  intro k hk
  apply List.map_congr_left
  intro t ht
  exact h k t (List.mem_range.1 hk) (List.mem_range.1 ht)
theorem needM_matL (p : Pg) : needM p = matL p.code.length p.wide.length (needB p.code) := (needM_eq (fun _ _ _ _ => rfl)).symm

/-- a row, its first t -/
def lrowTo (f : Nat → Bool) (t s : Nat) : Bool := decide (s < t) && f s
theorem lrowTo_s {f : Nat → Bool} {t s : Nat} : (if s = t then f t else lrowTo f t s) = lrowTo f (t + 1) s := by
  unfold lrowTo
  by_cases h : s = t
  · subst h; rw [if_pos rfl]; simp
  · rw [if_neg h]
    have : decide (s < t) = decide (s < t + 1) := by rw [decide_eq_decide]; omega
    rw [this]

set_option maxHeartbeats 2000000 in
set_option maxRecDepth 100000 in
theorem refLiveOf_any (R : Nat → Prop) (v : Value) (p : Pg) (w : World) (h : RdPg w R v p) (hmay : mayB p = true) :
    Calls Try.prog 50 #[v] w fun e w' => ∃ v, e = .returned v ∧ RdM w' (fun b => w.heap.size ≤ b) v (needM p) ∧ Fr w w' := by
  have H := Lib.hid h
  obtain ⟨vw, vc, rfl, ⟨A, c, rfl, hl, hr⟩, ⟨A', c', rfl, hl', hr', ho'⟩⟩ := h
  clear hr hr' ho' hl hl'
  obtain ⟨l1, l2, l3, l4⟩ := mayB_len hmay
  have hmk := run_make_bools p.wide.length (by omega)
  have HN := Lib.hid (fun w2 (hf : Fr w w2) at_ (ha : at_ < p.code.length) t (ht : t < p.wide.length) => refNeeded_any R _ p at_ t w2 (H.out.kept hf (fun _ _ h => h)) hmay ha ht)
  have HMat := Lib.hid (needM_matL p)
  clear hmay
  go_enter Try.func50, Try.ntmps50
  go_wp2
  go_loopw [3, 4] (fun v i wr => ∃ (k : Nat) (vs : List Value), k ≤ p.code.length ∧ i = .int .i64 k ∧ Hid (RowsOwn w wr v p.wide.length k (needB p.code) vs) ∧ Hid (Blk wr w.heap.size 25 #[.slice A p.wide.length c, .slice A' p.code.length c'] ∧ Fr w wr)) (fun _ i _ => p.code.length - (intOf i).toNat)
  case atStart => exact ⟨0, [], Nat.zero_le _, rfl, RowsOwn.nil _ _ _ _, ⟨Blk.new w _ _, (Kept.refl _ w).alloc _⟩⟩
  case round =>
    obtain ⟨k, vs, hk, rfl, hro, hb⟩ := hrel
    have q0 := hb.out.1.cell 0
    have q1 := hb.out.1.cell 1
    simp only [List.getElem?_toArray, List.getElem?_cons_succ, List.getElem?_cons_zero] at q0 q1
    have z0 := hb.out.1.lt
    by_cases hlt : k < p.code.length
    · obtain ⟨wB, rfl⟩ : ∃ wB : World, wB = wr := ⟨_, rfl⟩
      have HB0 : Hid (Blk (wB.alloc (.cells (mkB p.wide.length fun _ => false) 4)) wB.heap.size 4 (mkB p.wide.length (lrowTo (needB p.code k) 0))) := by
        have := Blk.new wB 4 (mkB p.wide.length fun _ => false)
        rwa [mkB_congr (g := lrowTo (needB p.code k) 0) (fun t _ => by simp [lrowTo])] at this
      go_wp2
      go_loopw [6] (fun i wr => ∃ t : Nat, t ≤ p.wide.length ∧ i = .int .i64 t ∧ Hid (Blk wr wB.heap.size 4 (mkB p.wide.length (lrowTo (needB p.code k) t)) ∧ Fr wB wr)) (fun i _ => p.wide.length - (intOf i).toNat)
      case atStart => exact ⟨0, Nat.zero_le _, rfl, ⟨HB0.out, (Kept.refl _ wB).alloc _⟩⟩
      case round =>
        obtain ⟨t, ht, rfl, hx⟩ := hrel
        clear HB0 q0 q1
        have HBp := Lib.hid (hb.out.1.kept hx.out.2 (fun h => h))
        have q0 := HBp.out.cell 0
        have q1 := HBp.out.cell 1
        simp only [List.getElem?_toArray, List.getElem?_cons_succ, List.getElem?_cons_zero] at q0 q1
        have z1 := HBp.out.lt
        have z2 := hx.out.1.lt
        by_cases htl : t < p.wide.length
        · have HF := Lib.hid (hb.out.2.trans hx.out.2)
          go_wp2_with fail
          refine (HN.out _ HF.out k hlt t htl).mono ?_
          rintro e w2 ⟨rfl, f2⟩
          have b2 := hx.out.1.kept f2 (fun h => h)
          have y0 := b2.bcell htl
          have y1 := b2.frozen t
          have z3 := b2.lt
          have HX : Hid (Blk (w2.setCell ⟨wB.heap.size, t, none⟩ (.bool (needB p.code k t))) wB.heap.size 4 (mkB p.wide.length (lrowTo (needB p.code k) (t + 1))) ∧ Fr wB (w2.setCell ⟨wB.heap.size, t, none⟩ (.bool (needB p.code k t)))) := by
            refine ⟨?_, (hx.out.2.trans f2).setCell (p := ⟨wB.heap.size, t, none⟩) (fun h => by simp at h) _⟩
            have := b2.bset t (needB p.code k t)
            rwa [mkB_congr (fun s _ => lrowTo_s)] at this
          clear b2 f2
          go_wp2
          go_roundw
          case rel => exact ⟨t + 1, by omega, by go_num, HX⟩
          case measure => simp [intOf]; omega
        · obtain rfl : t = p.wide.length := by omega
          have HRo := Lib.hid (hro.out.kept hx.out.2 (fun _ _ h => h))
          have HRow := Lib.hid (show Blk wr wB.heap.size 4 (mkB p.wide.length (needB p.code k)) from by
            have := hx.out.1
            rwa [mkB_congr (g := needB p.code k) (fun s hs => by simp [lrowTo, hs])] at this)
          have HFr := Lib.hid (hb.out.2.trans hx.out.2)
          have hvl := hro.out.len
          go_wp2_with (at_builtin
                       refine wpList_app (base := w.heap.size) _ rfl slBools (.tmp 31) (.tmp 33) rfl u3 _ _ rfl (World.ownsRow.alloc HRo.out.ow _) (fun _ => True) _ 1 1 _ rfl (Reads.lit' (by simp) trivial rfl) ?_ ?_ ?_ ?_ ?_
                       · simp [Value.oneCell']
                       · omega
                       · unfold maxLen; omega
                       · simp; omega
                       intro v9 w9 hown9 hk9 hat9)
          have HS9 := Lib.hid (HRo.out.snoc (g := wB.heap.size) (by omega) HRow.out (by simpa using hown9) hk9)
          have HB9 := Lib.hid (show Blk w9 w.heap.size 25 #[.slice A p.wide.length c, .slice A' p.code.length c'] ∧ Fr w w9 from
            ⟨(HBp.out.alloc _).kept hk9 (own_blk_ne HRo.out.ow HBp.out (by decide)), (HFr.out.alloc _).app (World.ownsRow.alloc HRo.out.ow _) hk9⟩)
          clear hown9 hk9 hat9 hvl
          go_roundw
          case rel => exact ⟨k + 1, _, by omega, by go_num, HS9, HB9⟩
          case measure => simp [intOf]; omega
    · obtain rfl : k = p.code.length := by omega
      have HR := Lib.hid (hro.out.rdm (by omega) (by omega))
      rw [← HMat.out] at HR
      go_wp2
      go_ret
      exact ⟨_, rfl, HR.out, hb.out.2⟩

theorem bne_self {n : Nat} : ((n : Int) != (n : Int)) = false := by simp
set_option maxHeartbeats 2000000 in
set_option maxRecDepth 100000 in
/-- two that read as one matrix are the same -/
theorem refLiveSame_any (R R' : Nat → Prop) (v v' : Value) (M : List (List Bool)) (w : World) (h : RdM w R v M) (h' : RdM w R' v' M) :
    Calls Try.prog 21 #[v, v'] w fun e w' => e = .returned (.bool true) ∧ Fr w w' := by
  obtain ⟨A, c, rfl⟩ := h.val
  obtain ⟨A', c', rfl⟩ := h'.val
  have H := Lib.hid h
  have H' := Lib.hid h'
  have hl : M.length ≤ 9223372036854775807 := by obtain ⟨_, _, _, _, hl, _⟩ := h; unfold maxLen at hl; omega
  clear h h'
  go_enter Try.func21, Try.ntmps21
  go_wp2
  go_loopw [5] (fun i wr => ∃ k : Nat, k ≤ M.length ∧ i = .int .i64 k ∧ Hid (Fr w wr)) (fun i _ => M.length - (intOf i).toNat)
  case atStart => exact ⟨0, Nat.zero_le _, rfl, Kept.refl _ w⟩
  case round =>
    obtain ⟨k, hk, rfl, hf⟩ := hrel
    by_cases hlt : k < M.length
    · have hx : M[k]? = some M[k] := List.getElem?_eq_getElem hlt
      obtain ⟨b, o, cb, u, hv, _, hb, r0, hu⟩ := (H.out.kept hf.out (fun _ _ h => h)).row hx
      obtain ⟨b', o', cb', u', hv', _, hb', r0', hu'⟩ := (H'.out.kept hf.out (fun _ _ h => h)).row hx
      simp only [Value.slice.injEq] at hv hv'
      obtain ⟨rfl, _, rfl⟩ := hv
      obtain ⟨rfl, _, rfl⟩ := hv'
      clear hx
      generalize M[k] = row at *
      obtain ⟨Au, cu, rfl⟩ := hu.val
      obtain ⟨Au', cu', rfl⟩ := hu'.val
      have hrl : row.length ≤ 9223372036854775807 := by obtain ⟨_, _, _, hl, _⟩ := hu; unfold maxLen at hl; omega
      have HU := Lib.hid hu
      have HU' := Lib.hid hu'
      clear hu hu'
      have hk0 : (0 : Int) ≤ (k : Int) := Int.natCast_nonneg _
      have hk1 : (k : Int) < (M.length : Int) := by omega
      obtain ⟨wB, rfl⟩ : ∃ wB : World, wB = wr := ⟨_, rfl⟩
      go_wp2
      go_quiet (fail)
      have F0 := Lib.hid (show Fr wB (wB.drewN nq) from (Kept.refl _ wB).drewN nq)
      go_wp2
      go_loopw [6] (fun i wr => ∃ t : Nat, t ≤ row.length ∧ i = .int .i64 t ∧ Hid (Fr wB wr)) (fun i _ => row.length - (intOf i).toNat)
      case atStart => exact ⟨0, Nat.zero_le _, rfl, F0⟩
      case round =>
        obtain ⟨t, ht, rfl, hf2⟩ := hrel
        have s0 := (hf2.out.cell hb).trans r0
        have s0' := (hf2.out.cell hb').trans r0'
        have hbb := cell_lt s0
        have hbb' := cell_lt s0'
        by_cases htl : t < row.length
        · have hx : row[t]? = some row[t] := List.getElem?_eq_getElem htl
          obtain ⟨d, od, cd, hv, _, hd, e0⟩ := (HU.out.kept hf2.out (fun _ _ h => h)).at_ hx
          obtain ⟨d', od', cd', hv', _, hd', e0'⟩ := (HU'.out.kept hf2.out (fun _ _ h => h)).at_ hx
          simp only [Value.slice.injEq] at hv hv'
          obtain ⟨rfl, _, rfl⟩ := hv
          obtain ⟨rfl, _, rfl⟩ := hv'
          clear hx
          have ht0 : (0 : Int) ≤ (t : Int) := Int.natCast_nonneg _
          have ht1 : (t : Int) < (row.length : Int) := by omega
          generalize row[t] = y at *
          cases y
          all_goals
            go_wp2
            go_quiet (fail)
            go_wp2
            go_roundw
            case rel => exact ⟨t + 1, by omega, by go_num, hf2.out.drewN _⟩
            case measure => simp [intOf]; omega
        · obtain rfl : t = row.length := by omega
          go_wp2
          go_roundw
          case rel => exact ⟨k + 1, by omega, by go_num, hf.out.trans hf2.out⟩
          case measure => simp [intOf]; omega
    · obtain rfl : k = M.length := by omega
      go_wp2
      go_ret
      exact ⟨rfl, hf.out⟩
end Go.Proofs.Ytodmkjeankbieab
