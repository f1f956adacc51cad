/- Texts of this claim, packed. -/
import Derived.Test.YtodmkjeankbieaaGreatDoorKAllk21
set_option linter.all false
namespace Go.Proofs.YtodmkjeankbieaaGreatDoor
open Go.RowKit Go.Sort Go.Lib

theorem take_by {P : Program} {ops : Array Oper} {Q : Exit → Act → World → Prop} {md : Region.Mode} {S : World → Prop} {i : Nat} {oi : Oper} {v : Value} {fuel : Nat} {listed : Array Bool} {a : Act} {w : World} (hi : ops[i]? = some oi)
   (hw : Region.wanted oi (yielded ops a.tmps) = true) (hy : ∀ w, S w → (execOp a.eval oi).run P w = .ok (.value v) w)
   (hs : Region.noSelect ops = true) (hf : Region.free md ops listed i = true) (hr : (Region.ready md ops listed).contains i = true)
   (hQ : ∀ c a w, Q (.panic c) (a.put oi.dst v) w → Q (.panic c) a w) (hS : S w)
   (h : wpAnyH P md ops Q S fuel (listed.setIfInBounds i true) (a.put oi.dst v) w) : wpAnyH P md ops Q S (fuel + 1) listed a w :=
 wpAnyH_take hi hs hf hr hQ (Or.inl ⟨hw, hy⟩) hS h

set_option maxHeartbeats 6400000 in
set_option maxRecDepth 100000 in
theorem dadd_any (wB w : World) (r : Nat) (vw vc vi : Value) (g : PS) (a0 a1 a2 a3 a4 a5 : Nat) (A : Option Addr) (c : Nat) (hB : Fr wB w) (hm : PlM w wB.heap.size r 65 vw vc vi g) (hv : Env wB) (hl : g.p.code.length ≤ 40)
   (hr : Reads w (fun k => k ≠ r ∧ vc.ownBlock ≠ some k) 1 A 6 (u32n [a0, a1, a2, a3, a4, a5])) (hn : ∀ n ∈ [a0, a1, a2, a3, a4, a5], n < 4294967296) :
   Calls Tryz.prog 44 #[.pointer (some ⟨r, 0, none⟩), .slice A 6 c] w (LinePost wB r 65 (addF g [a0, a1, a2, a3, a4, a5])) := by
 have HM := Lib.hid hm
 have HB := Lib.hid hB
 have HV := Lib.hid hv
 obtain ⟨A1, c1, rfl, _, _, _⟩ := own_cap hm.oc
 have p1 := hm.blk.cell 1
 have z0 := hm.blk.lt
 simp only [List.getElem?_toArray, List.getElem?_cons_succ, List.getElem?_cons_zero] at p1
 have hsB := hB.size
 clear hm hB hv
 by_cases h12 : 40 ≤ g.p.code.length
 · have HE : Hid (addF g [a0, a1, a2, a3, a4, a5] = (g, [63])) := by show _ = _; unfold addF; rw [if_pos h12]
   clear hr hn
   go_enter Tryz.func44, Tryz.ntmps44
   go_wp2
   go_ret
   rw [HE.out]
   exact ⟨rfl, HB.out, _, _, _, HM.out⟩
 · have HE : Hid (addF g [a0, a1, a2, a3, a4, a5] = (⟨⟨g.p.wide, g.p.code ++ [⟨a0, a1, a2, a3, a4, a5⟩]⟩, g.ins⟩, saidF okT [g.p.code.length + 1])) := by show _ = _; unfold addF; rw [if_neg h12]; rfl
   obtain ⟨b, off, rfl, ⟨hbr, hbo⟩, hc⟩ := hr.2 (by omega)
   have d0 := hc 0 (.int .u32 (a0 : Int)) rfl
   have d1 := hc 1 (.int .u32 (a1 : Int)) rfl
   have d2 := hc 2 (.int .u32 (a2 : Int)) rfl
   have d3 := hc 3 (.int .u32 (a3 : Int)) rfl
   have d4 := hc 4 (.int .u32 (a4 : Int)) rfl
   have d5 := hc 5 (.int .u32 (a5 : Int)) rfl
   rw [Nat.add_zero] at d0
   have hbl := cell_lt d0
   have HOK : Hid (In.ok ⟨a0, a1, a2, a3, a4, a5⟩) := by
     have k0 := hn a0 (by simp)
     have k1 := hn a1 (by simp)
     have k2 := hn a2 (by simp)
     have k3 := hn a3 (by simp)
     have k4 := hn a4 (by simp)
     have k5 := hn a5 (by simp)
     show In.ok _
     unfold In.ok inI
     simp only
     omega
   have u0 : IntKind.i64.wrap (a0 : Int) = (a0 : Int) := by have := hn a0 (by simp); simp [IntKind.wrap, IntKind.bits, IntKind.signed]; omega
   have u1 : IntKind.i64.wrap (a1 : Int) = (a1 : Int) := by have := hn a1 (by simp); simp [IntKind.wrap, IntKind.bits, IntKind.signed]; omega
   have u2 : IntKind.i64.wrap (a2 : Int) = (a2 : Int) := by have := hn a2 (by simp); simp [IntKind.wrap, IntKind.bits, IntKind.signed]; omega
   have u3 : IntKind.i64.wrap (a3 : Int) = (a3 : Int) := by have := hn a3 (by simp); simp [IntKind.wrap, IntKind.bits, IntKind.signed]; omega
   have u4 : IntKind.i64.wrap (a4 : Int) = (a4 : Int) := by have := hn a4 (by simp); simp [IntKind.wrap, IntKind.bits, IntKind.signed]; omega
   clear hc hr hn
   go_enter Tryz.func44, Tryz.ntmps44
   go_wp2
   refine wp_region_held_drew (S := (fun w' => w'.cell? ⟨b, off, none⟩ = some (.int .u32 (a0 : Int)) ∧ w'.cell? ⟨b, off + 1, none⟩ = some (.int .u32 (a1 : Int)) ∧ w'.cell? ⟨b, off + 2, none⟩ = some (.int .u32 (a2 : Int)) ∧ w'.cell? ⟨b, off + 3, none⟩ = some (.int .u32 (a3 : Int)) ∧ w'.cell? ⟨b, off + 4, none⟩ = some (.int .u32 (a4 : Int)) ∧ w'.cell? ⟨b, off + 5, none⟩ = some (.int .u32 (a5 : Int)))) (by kernel_rfl) ⟨d0, d1, d2, d3, d4, d5⟩ (fun hHeld => ?_)
   refine' take_by (i := 0) ?hi0 ?hw0 ?hy0 (by kernel_rfl) (by kernel_rfl) (by kernel_rfl) ?hQ0 (by assumption) ?rest0
   case hi0 => simp only [List.getElem?_toArray, List.getElem?_cons_succ, List.getElem?_cons_zero]; rfl
   case hw0 => rfl
   case hy0 => intro w hSw; (try dsimp only at hSw); go_simp; (try with_reducible rfl)
   case hQ0 => exact fun _ _ _ h => h
   try simp only [Act.put, List.setIfInBounds_toArray, List.set_cons_zero, List.set_cons_succ]
   refine' take_by (i := 1) ?hi1 ?hw1 ?hy1 (by kernel_rfl) (by kernel_rfl) (by kernel_rfl) ?hQ1 (by assumption) ?rest1
   case hi1 => simp only [List.getElem?_toArray, List.getElem?_cons_succ, List.getElem?_cons_zero]; rfl
   case hw1 => rfl
   case hy1 => intro w hSw; (try dsimp only at hSw); go_simp; (try with_reducible rfl)
   case hQ1 => exact fun _ _ _ h => h
   try simp only [Act.put, List.setIfInBounds_toArray, List.set_cons_zero, List.set_cons_succ]
   refine' take_by (i := 2) ?hi2 ?hw2 ?hy2 (by kernel_rfl) (by kernel_rfl) (by kernel_rfl) ?hQ2 (by assumption) ?rest2
   case hi2 => simp only [List.getElem?_toArray, List.getElem?_cons_succ, List.getElem?_cons_zero]; rfl
   case hw2 => rfl
   case hy2 => intro w hSw; (try dsimp only at hSw); go_simp; (try with_reducible rfl)
   case hQ2 => exact fun _ _ _ h => h
   try simp only [Act.put, List.setIfInBounds_toArray, List.set_cons_zero, List.set_cons_succ]
   refine' take_by (i := 3) ?hi3 ?hw3 ?hy3 (by kernel_rfl) (by kernel_rfl) (by kernel_rfl) ?hQ3 (by assumption) ?rest3
   case hi3 => simp only [List.getElem?_toArray, List.getElem?_cons_succ, List.getElem?_cons_zero]; rfl
   case hw3 => rfl
   case hy3 => intro w hSw; (try dsimp only at hSw); go_simp; (try with_reducible rfl)
   case hQ3 => exact fun _ _ _ h => h
   try simp only [Act.put, List.setIfInBounds_toArray, List.set_cons_zero, List.set_cons_succ]
   refine' take_by (i := 4) ?hi4 ?hw4 ?hy4 (by kernel_rfl) (by kernel_rfl) (by kernel_rfl) ?hQ4 (by assumption) ?rest4
   case hi4 => simp only [List.getElem?_toArray, List.getElem?_cons_succ, List.getElem?_cons_zero]; rfl
   case hw4 => rfl
   case hy4 => intro w hSw; (try dsimp only at hSw); go_simp; (try with_reducible rfl)
   case hQ4 => exact fun _ _ _ h => h
   try simp only [Act.put, List.setIfInBounds_toArray, List.set_cons_zero, List.set_cons_succ]
   refine' take_by (i := 6) ?hi6 ?hw6 ?hy6 (by kernel_rfl) (by kernel_rfl) (by kernel_rfl) ?hQ6 (by assumption) ?rest6
   case hi6 => simp only [List.getElem?_toArray, List.getElem?_cons_succ, List.getElem?_cons_zero]; rfl
   case hw6 => rfl
   case hy6 => intro w hSw; (try dsimp only at hSw); go_simp; (try with_reducible rfl)
   case hQ6 => exact fun _ _ _ h => h
   try simp only [Act.put, List.setIfInBounds_toArray, List.set_cons_zero, List.set_cons_succ]
   refine' take_by (i := 7) ?hi7 ?hw7 ?hy7 (by kernel_rfl) (by kernel_rfl) (by kernel_rfl) ?hQ7 (by assumption) ?rest7
   case hi7 => simp only [List.getElem?_toArray, List.getElem?_cons_succ, List.getElem?_cons_zero]; rfl
   case hw7 => rfl
   case hy7 => intro w hSw; (try dsimp only at hSw); go_simp; (try with_reducible rfl)
   case hQ7 => exact fun _ _ _ h => h
   try simp only [Act.put, List.setIfInBounds_toArray, List.set_cons_zero, List.set_cons_succ]
   refine' take_by (i := 8) ?hi8 ?hw8 ?hy8 (by kernel_rfl) (by kernel_rfl) (by kernel_rfl) ?hQ8 (by assumption) ?rest8
   case hi8 => simp only [List.getElem?_toArray, List.getElem?_cons_succ, List.getElem?_cons_zero]; rfl
   case hw8 => rfl
   case hy8 => intro w hSw; (try dsimp only at hSw); go_simp; (try with_reducible rfl)
   case hQ8 => exact fun _ _ _ h => h
   try simp only [Act.put, List.setIfInBounds_toArray, List.set_cons_zero, List.set_cons_succ]
   refine' take_by (i := 9) ?hi9 ?hw9 ?hy9 (by kernel_rfl) (by kernel_rfl) (by kernel_rfl) ?hQ9 (by assumption) ?rest9
   case hi9 => simp only [List.getElem?_toArray, List.getElem?_cons_succ, List.getElem?_cons_zero]; rfl
   case hw9 => rfl
   case hy9 => intro w hSw; (try dsimp only at hSw); go_simp; (try with_reducible rfl)
   case hQ9 => exact fun _ _ _ h => h
   try simp only [Act.put, List.setIfInBounds_toArray, List.set_cons_zero, List.set_cons_succ]
   refine' take_by (i := 10) ?hi10 ?hw10 ?hy10 (by kernel_rfl) (by kernel_rfl) (by kernel_rfl) ?hQ10 (by assumption) ?rest10
   case hi10 => simp only [List.getElem?_toArray, List.getElem?_cons_succ, List.getElem?_cons_zero]; rfl
   case hw10 => rfl
   case hy10 => intro w hSw; (try dsimp only at hSw); go_simp; (try with_reducible rfl)
   case hQ10 => exact fun _ _ _ h => h
   try simp only [Act.put, List.setIfInBounds_toArray, List.set_cons_zero, List.set_cons_succ]
   refine' take_by (i := 11) ?hi11 ?hw11 ?hy11 (by kernel_rfl) (by kernel_rfl) (by kernel_rfl) ?hQ11 (by assumption) ?rest11
   case hi11 => simp only [List.getElem?_toArray, List.getElem?_cons_succ, List.getElem?_cons_zero]; rfl
   case hw11 => rfl
   case hy11 => intro w hSw; (try dsimp only at hSw); go_simp; (try with_reducible rfl)
   case hQ11 => exact fun _ _ _ h => h
   try simp only [Act.put, List.setIfInBounds_toArray, List.set_cons_zero, List.set_cons_succ]
   refine' take_by (i := 12) ?hi12 ?hw12 ?hy12 (by kernel_rfl) (by kernel_rfl) (by kernel_rfl) ?hQ12 (by assumption) ?rest12
   case hi12 => simp only [List.getElem?_toArray, List.getElem?_cons_succ, List.getElem?_cons_zero]; rfl
   case hw12 => rfl
   case hy12 => intro w hSw; (try dsimp only at hSw); go_simp; (try with_reducible rfl)
   case hQ12 => exact fun _ _ _ h => h
   try simp only [Act.put, List.setIfInBounds_toArray, List.set_cons_zero, List.set_cons_succ]
   refine' take_by (i := 13) ?hi13 ?hw13 ?hy13 (by kernel_rfl) (by kernel_rfl) (by kernel_rfl) ?hQ13 (by assumption) ?rest13
   case hi13 => simp only [List.getElem?_toArray, List.getElem?_cons_succ, List.getElem?_cons_zero]; rfl
   case hw13 => rfl
   case hy13 => intro w hSw; (try dsimp only at hSw); go_simp; (try with_reducible rfl)
   case hQ13 => exact fun _ _ _ h => h
   try simp only [Act.put, List.setIfInBounds_toArray, List.set_cons_zero, List.set_cons_succ]
   refine' take_by (i := 14) ?hi14 ?hw14 ?hy14 (by kernel_rfl) (by kernel_rfl) (by kernel_rfl) ?hQ14 (by assumption) ?rest14
   case hi14 => simp only [List.getElem?_toArray, List.getElem?_cons_succ, List.getElem?_cons_zero]; rfl
   case hw14 => rfl
   case hy14 => intro w hSw; (try dsimp only at hSw); go_simp; (try with_reducible rfl)
   case hQ14 => exact fun _ _ _ h => h
   try simp only [Act.put, List.setIfInBounds_toArray, List.set_cons_zero, List.set_cons_succ]
   refine' take_by (i := 15) ?hi15 ?hw15 ?hy15 (by kernel_rfl) (by kernel_rfl) (by kernel_rfl) ?hQ15 (by assumption) ?rest15
   case hi15 => simp only [List.getElem?_toArray, List.getElem?_cons_succ, List.getElem?_cons_zero]; rfl
   case hw15 => rfl
   case hy15 => intro w hSw; (try dsimp only at hSw); go_simp; (try with_reducible rfl)
   case hQ15 => exact fun _ _ _ h => h
   try simp only [Act.put, List.setIfInBounds_toArray, List.set_cons_zero, List.set_cons_succ]
   refine' take_by (i := 16) ?hi16 ?hw16 ?hy16 (by kernel_rfl) (by kernel_rfl) (by kernel_rfl) ?hQ16 (by assumption) ?rest16
   case hi16 => simp only [List.getElem?_toArray, List.getElem?_cons_succ, List.getElem?_cons_zero]; rfl
   case hw16 => rfl
   case hy16 => intro w hSw; (try dsimp only at hSw); go_simp; (try with_reducible rfl)
   case hQ16 => exact fun _ _ _ h => h
   try simp only [Act.put, List.setIfInBounds_toArray, List.set_cons_zero, List.set_cons_succ]
   refine' take_by (i := 17) ?hi17 ?hw17 ?hy17 (by kernel_rfl) (by kernel_rfl) (by kernel_rfl) ?hQ17 (by assumption) ?rest17
   case hi17 => simp only [List.getElem?_toArray, List.getElem?_cons_succ, List.getElem?_cons_zero]; rfl
   case hw17 => rfl
   case hy17 => intro w hSw; (try dsimp only at hSw); go_simp; (try with_reducible rfl)
   case hQ17 => exact fun _ _ _ h => h
   try simp only [Act.put, List.setIfInBounds_toArray, List.set_cons_zero, List.set_cons_succ]
   refine' take_by (i := 18) ?hi18 ?hw18 ?hy18 (by kernel_rfl) (by kernel_rfl) (by kernel_rfl) ?hQ18 (by assumption) ?rest18
   case hi18 => simp only [List.getElem?_toArray, List.getElem?_cons_succ, List.getElem?_cons_zero]; rfl
   case hw18 => rfl
   case hy18 => intro w hSw; (try dsimp only at hSw); go_simp; (try with_reducible rfl)
   case hQ18 => exact fun _ _ _ h => h
   try simp only [Act.put, List.setIfInBounds_toArray, List.set_cons_zero, List.set_cons_succ]
   refine' take_by (i := 19) ?hi19 ?hw19 ?hy19 (by kernel_rfl) (by kernel_rfl) (by kernel_rfl) ?hQ19 (by assumption) ?rest19
   case hi19 => simp only [List.getElem?_toArray, List.getElem?_cons_succ, List.getElem?_cons_zero]; rfl
   case hw19 => rfl
   case hy19 => intro w hSw; (try dsimp only at hSw); go_simp; (try with_reducible rfl)
   case hQ19 => exact fun _ _ _ h => h
   try simp only [Act.put, List.setIfInBounds_toArray, List.set_cons_zero, List.set_cons_succ]
   refine' take_by (i := 20) ?hi20 ?hw20 ?hy20 (by kernel_rfl) (by kernel_rfl) (by kernel_rfl) ?hQ20 (by assumption) ?rest20
   case hi20 => simp only [List.getElem?_toArray, List.getElem?_cons_succ, List.getElem?_cons_zero]; rfl
   case hw20 => rfl
   case hy20 => intro w hSw; (try dsimp only at hSw); go_simp; (try with_reducible rfl)
   case hQ20 => exact fun _ _ _ h => h
   try simp only [Act.put, List.setIfInBounds_toArray, List.set_cons_zero, List.set_cons_succ]
   refine' take_by (i := 21) ?hi21 ?hw21 ?hy21 (by kernel_rfl) (by kernel_rfl) (by kernel_rfl) ?hQ21 (by assumption) ?rest21
   case hi21 => simp only [List.getElem?_toArray, List.getElem?_cons_succ, List.getElem?_cons_zero]; rfl
   case hw21 => rfl
   case hy21 => intro w hSw; (try dsimp only at hSw); go_simp; (try with_reducible rfl)
   case hQ21 => exact fun _ _ _ h => h
   try simp only [Act.put, List.setIfInBounds_toArray, List.set_cons_zero, List.set_cons_succ]
   refine' take_by (i := 22) ?hi22 ?hw22 ?hy22 (by kernel_rfl) (by kernel_rfl) (by kernel_rfl) ?hQ22 (by assumption) ?rest22
   case hi22 => simp only [List.getElem?_toArray, List.getElem?_cons_succ, List.getElem?_cons_zero]; rfl
   case hw22 => rfl
   case hy22 => intro w hSw; (try dsimp only at hSw); go_simp; (try with_reducible rfl)
   case hQ22 => exact fun _ _ _ h => h
   try simp only [Act.put, List.setIfInBounds_toArray, List.set_cons_zero, List.set_cons_succ]
   refine' take_by (i := 23) ?hi23 ?hw23 ?hy23 (by kernel_rfl) (by kernel_rfl) (by kernel_rfl) ?hQ23 (by assumption) ?rest23
   case hi23 => simp only [List.getElem?_toArray, List.getElem?_cons_succ, List.getElem?_cons_zero]; rfl
   case hw23 => rfl
   case hy23 => intro w hSw; (try dsimp only at hSw); go_simp; (try with_reducible rfl)
   case hQ23 => exact fun _ _ _ h => h
   try simp only [Act.put, List.setIfInBounds_toArray, List.set_cons_zero, List.set_cons_succ]
   refine' take_by (i := 24) ?hi24 ?hw24 ?hy24 (by kernel_rfl) (by kernel_rfl) (by kernel_rfl) ?hQ24 (by assumption) ?rest24
   case hi24 => simp only [List.getElem?_toArray, List.getElem?_cons_succ, List.getElem?_cons_zero]; rfl
   case hw24 => rfl
   case hy24 => intro w hSw; (try dsimp only at hSw); go_simp; (try with_reducible rfl)
   case hQ24 => exact fun _ _ _ h => h
   try simp only [Act.put, List.setIfInBounds_toArray, List.set_cons_zero, List.set_cons_succ]
   refine' take_by (i := 25) ?hi25 ?hw25 ?hy25 (by kernel_rfl) (by kernel_rfl) (by kernel_rfl) ?hQ25 (by assumption) ?rest25
   case hi25 => simp only [List.getElem?_toArray, List.getElem?_cons_succ, List.getElem?_cons_zero]; rfl
   case hw25 => rfl
   case hy25 => intro w hSw; (try dsimp only at hSw); go_simp; (try with_reducible rfl)
   case hQ25 => exact fun _ _ _ h => h
   try simp only [Act.put, List.setIfInBounds_toArray, List.set_cons_zero, List.set_cons_succ]
   refine' take_by (i := 26) ?hi26 ?hw26 ?hy26 (by kernel_rfl) (by kernel_rfl) (by kernel_rfl) ?hQ26 (by assumption) ?rest26
   case hi26 => simp only [List.getElem?_toArray, List.getElem?_cons_succ, List.getElem?_cons_zero]; rfl
   case hw26 => rfl
   case hy26 => intro w hSw; (try dsimp only at hSw); go_simp; (try with_reducible rfl)
   case hQ26 => exact fun _ _ _ h => h
   try simp only [Act.put, List.setIfInBounds_toArray, List.set_cons_zero, List.set_cons_succ]
   refine' take_by (i := 27) ?hi27 ?hw27 ?hy27 (by kernel_rfl) (by kernel_rfl) (by kernel_rfl) ?hQ27 (by assumption) ?rest27
   case hi27 => simp only [List.getElem?_toArray, List.getElem?_cons_succ, List.getElem?_cons_zero]; rfl
   case hw27 => rfl
   case hy27 => intro w hSw; (try dsimp only at hSw); go_simp; (try with_reducible rfl)
   case hQ27 => exact fun _ _ _ h => h
   try simp only [Act.put, List.setIfInBounds_toArray, List.set_cons_zero, List.set_cons_succ]
   refine' take_by (i := 28) ?hi28 ?hw28 ?hy28 (by kernel_rfl) (by kernel_rfl) (by kernel_rfl) ?hQ28 (by assumption) ?rest28
   case hi28 => simp only [List.getElem?_toArray, List.getElem?_cons_succ, List.getElem?_cons_zero]; rfl
   case hw28 => rfl
   case hy28 => intro w hSw; (try dsimp only at hSw); go_simp; (try with_reducible rfl)
   case hQ28 => exact fun _ _ _ h => h
   try simp only [Act.put, List.setIfInBounds_toArray, List.set_cons_zero, List.set_cons_succ]
   refine' take_by (i := 29) ?hi29 ?hw29 ?hy29 (by kernel_rfl) (by kernel_rfl) (by kernel_rfl) ?hQ29 (by assumption) ?rest29
   case hi29 => simp only [List.getElem?_toArray, List.getElem?_cons_succ, List.getElem?_cons_zero]; rfl
   case hw29 => rfl
   case hy29 => intro w hSw; (try dsimp only at hSw); go_simp; (try with_reducible rfl)
   case hQ29 => exact fun _ _ _ h => h
   try simp only [Act.put, List.setIfInBounds_toArray, List.set_cons_zero, List.set_cons_succ]
   refine wpAnyH_ready (rs := [5, 30]) (by kernel_rfl) (by simp) ?_
   refine' AllReadyH.cons ?hoA (fun K hK => ?stA) (AllReadyH.cons ?hoB (fun K hK => ?stB) AllReadyH.nil)
   case hoA => simp only [List.getElem?_toArray, List.getElem?_cons_succ, List.getElem?_cons_zero]; rfl
   case hoB => simp only [List.getElem?_toArray, List.getElem?_cons_succ, List.getElem?_cons_zero]; rfl
   case stA =>
     go_simp
     refine hK.out _ _ (by first | assumption | go_keep) (fun hHeld => ?_)
     clear hK K
     try simp only [Act.put, List.setIfInBounds_toArray, List.set_cons_zero, List.set_cons_succ]
     refine wpAnyH_ready (rs := [30]) (by kernel_rfl) (by simp) ?_
     refine' AllReadyH.cons ?ho1 (fun K hK => ?st1) AllReadyH.nil
     case ho1 => simp only [List.getElem?_toArray, List.getElem?_cons_succ, List.getElem?_cons_zero]; rfl
     go_simp
     refine hK.out _ _ (by first | assumption | go_keep) (fun hHeld => ?_)
     clear hK K
     try simp only [Act.put, List.setIfInBounds_toArray, List.set_cons_zero, List.set_cons_succ]
     refine wpAnyH_ready (rs := [31]) (by kernel_rfl) (by simp) ?_
     refine' AllReadyH.cons ?ho2 (fun K hK => ?st2) AllReadyH.nil
     case ho2 => simp only [List.getElem?_toArray, List.getElem?_cons_succ, List.getElem?_cons_zero]; rfl
     refine step_app (base := wB.heap.size) (by rfl) slInsD (.tmp 17) (.tmp 42) (by rfl) (.slice A1 g.p.code.length c1) g.p.code.length _ (by rfl) ((World.ownsRow.alloc HM.out.oc _).drew_) (fun _ => True) _ 1 1 [.int .i64 (a0 : Int), .int .i64 (a1 : Int), .int .i64 (a2 : Int), .int .i64 (a3 : Int), .int .i64 (a4 : Int), .int .u32 (a5 : Int)] (by rfl) (Reads.lit' (by simp) trivial rfl) (by simp [Value.oneCell']) (by omega) (by unfold maxLen; omega) (by simp; omega) ?_
     intro v7 w7 hown7 hk7 hat7
     have sa : w7.cell? ⟨b, off, none⟩ = some (.int .u32 (a0 : Int)) ∧ w7.cell? ⟨b, off + 1, none⟩ = some (.int .u32 (a1 : Int)) ∧ w7.cell? ⟨b, off + 2, none⟩ = some (.int .u32 (a2 : Int)) ∧ w7.cell? ⟨b, off + 3, none⟩ = some (.int .u32 (a3 : Int)) ∧ w7.cell? ⟨b, off + 4, none⟩ = some (.int .u32 (a4 : Int)) ∧ w7.cell? ⟨b, off + 5, none⟩ = some (.int .u32 (a5 : Int)) := ⟨(hk7.cell (p := ⟨b, off, none⟩) (by simp; omega) hbo).trans (by simp [*]), (hk7.cell (p := ⟨b, off + 1, none⟩) (by simp; omega) hbo).trans (by simp [*]), (hk7.cell (p := ⟨b, off + 2, none⟩) (by simp; omega) hbo).trans (by simp [*]), (hk7.cell (p := ⟨b, off + 3, none⟩) (by simp; omega) hbo).trans (by simp [*]), (hk7.cell (p := ⟨b, off + 4, none⟩) (by simp; omega) hbo).trans (by simp [*]), (hk7.cell (p := ⟨b, off + 5, none⟩) (by simp; omega) hbo).trans (by simp [*])⟩
     have hk8 := ((Kept.refl (fun k => (Value.slice A1 g.p.code.length c1).ownBlock = some k) w).alloc (.cells #[.int .i64 (a0 : Int), .int .i64 (a1 : Int), .int .i64 (a2 : Int), .int .i64 (a3 : Int), .int .i64 (a4 : Int), .int .u32 (a5 : Int)] 45)).drew.trans hk7
     have HP7 := Lib.hid (HM.out.putC HOK.out hown7 hk8)
     have HF7 := Lib.hid ((HB.out.alloc (.cells #[.int .i64 (a0 : Int), .int .i64 (a1 : Int), .int .i64 (a2 : Int), .int .i64 (a3 : Int), .int .i64 (a4 : Int), .int .u32 (a5 : Int)] 45)).drew.app ((World.ownsRow.alloc HM.out.oc _).drew_) hk7)
     have hb7 := HM.out.blk.kept hk8 (own_blk_ne HM.out.oc HM.out.blk HM.out.hty.2.1)
     have y7 := hb7.frozen 1
     have z7 := hb7.lt
     have p7 := hb7.cell 1
     simp only [List.getElem?_toArray, List.getElem?_cons_succ, List.getElem?_cons_zero] at p7
     have HF8 := Lib.hid (HF7.out.setCell (p := ⟨r, 1, none⟩) (fun h => absurd h (Nat.not_lt.2 HM.out.hb)) v7)
     obtain ⟨A7, c7, rfl, _⟩ := own_reads hown7
     have hs7 := ((Kept.refl (fun k => k = r) w7).setCell (p := ⟨r, 1, none⟩) (fun _ => rfl) (.slice A7 (g.p.code.length + 1) c7))
     have hbl7 := cell_lt sa.1
     have sb : (w7.setCell ⟨r, 1, none⟩ (.slice A7 (g.p.code.length + 1) c7)).cell? ⟨b, off, none⟩ = some (.int .u32 (a0 : Int)) ∧ (w7.setCell ⟨r, 1, none⟩ (.slice A7 (g.p.code.length + 1) c7)).cell? ⟨b, off + 1, none⟩ = some (.int .u32 (a1 : Int)) ∧ (w7.setCell ⟨r, 1, none⟩ (.slice A7 (g.p.code.length + 1) c7)).cell? ⟨b, off + 2, none⟩ = some (.int .u32 (a2 : Int)) ∧ (w7.setCell ⟨r, 1, none⟩ (.slice A7 (g.p.code.length + 1) c7)).cell? ⟨b, off + 3, none⟩ = some (.int .u32 (a3 : Int)) ∧ (w7.setCell ⟨r, 1, none⟩ (.slice A7 (g.p.code.length + 1) c7)).cell? ⟨b, off + 4, none⟩ = some (.int .u32 (a4 : Int)) ∧ (w7.setCell ⟨r, 1, none⟩ (.slice A7 (g.p.code.length + 1) c7)).cell? ⟨b, off + 5, none⟩ = some (.int .u32 (a5 : Int)) := ⟨(hs7.cell (p := ⟨b, off, none⟩) hbl7 (fun h => hbr h)).trans sa.1, (hs7.cell (p := ⟨b, off + 1, none⟩) hbl7 (fun h => hbr h)).trans sa.2.1, (hs7.cell (p := ⟨b, off + 2, none⟩) hbl7 (fun h => hbr h)).trans sa.2.2.1, (hs7.cell (p := ⟨b, off + 3, none⟩) hbl7 (fun h => hbr h)).trans sa.2.2.2.1, (hs7.cell (p := ⟨b, off + 4, none⟩) hbl7 (fun h => hbr h)).trans sa.2.2.2.2.1, (hs7.cell (p := ⟨b, off + 5, none⟩) hbl7 (fun h => hbr h)).trans sa.2.2.2.2.2⟩
     have HS := Lib.hid (sayI1x okT ⟨#[111, 107]⟩ rfl (g.p.code.length + 1) ((g.p.code.length : Int) + 1) (by omega) (by omega) (by decide) (w7.setCell ⟨r, 1, none⟩ (.slice A7 (g.p.code.length + 1) c7)) (HV.out.kept HF8.out) w7.heap.size (by simp [World.setCell]))
     clear hown7 hk7 hk8 hb7 hs7
     refine hK.out _ _ sa (fun hHeld => ?_)
     clear hK K
     try simp only [Act.put, List.setIfInBounds_toArray, List.set_cons_zero, List.set_cons_succ]
     refine' take_by (i := 32) ?hi32x1 ?hw32x1 ?hy32x1 (by kernel_rfl) (by kernel_rfl) (by kernel_rfl) ?hQ32x1 (by assumption) ?rest32x1
     case hi32x1 => simp only [List.getElem?_toArray, List.getElem?_cons_succ, List.getElem?_cons_zero]; rfl
     case hw32x1 => rfl
     case hy32x1 => intro w hSw; (try dsimp only at hSw); go_simp; (try with_reducible rfl)
     case hQ32x1 => exact fun _ _ _ h => h
     try simp only [Act.put, List.setIfInBounds_toArray, List.set_cons_zero, List.set_cons_succ]
     refine' take_by (i := 33) ?hi33x2 ?hw33x2 ?hy33x2 (by kernel_rfl) (by kernel_rfl) (by kernel_rfl) ?hQ33x2 (by assumption) ?rest33x2
     case hi33x2 => simp only [List.getElem?_toArray, List.getElem?_cons_succ, List.getElem?_cons_zero]; rfl
     case hw33x2 => rfl
     case hy33x2 => intro w hSw; (try dsimp only at hSw); go_simp; (try with_reducible rfl)
     case hQ33x2 => exact fun _ _ _ h => h
     try simp only [Act.put, List.setIfInBounds_toArray, List.set_cons_zero, List.set_cons_succ]
     refine' take_by (i := 34) ?hi34x3 ?hw34x3 ?hy34x3 (by kernel_rfl) (by kernel_rfl) (by kernel_rfl) ?hQ34x3 (by assumption) ?rest34x3
     case hi34x3 => simp only [List.getElem?_toArray, List.getElem?_cons_succ, List.getElem?_cons_zero]; rfl
     case hw34x3 => rfl
     case hy34x3 => intro w hSw; (try dsimp only at hSw); go_simp; (try with_reducible rfl)
     case hQ34x3 => exact fun _ _ _ h => h
     try simp only [Act.put, List.setIfInBounds_toArray, List.set_cons_zero, List.set_cons_succ]
     refine wpAnyH_ready (rs := [35]) (by kernel_rfl) (by simp) ?_
     refine' AllReadyH.cons ?ho3 (fun K hK => ?st3) AllReadyH.nil
     case ho3 => simp only [List.getElem?_toArray, List.getElem?_cons_succ, List.getElem?_cons_zero]; rfl
     go_simp
     refine hK.out _ _ sb (fun hHeld => ?_)
     clear hK K
     try simp only [Act.put, List.setIfInBounds_toArray, List.set_cons_zero, List.set_cons_succ]
     refine wpAnyH_done (by kernel_rfl) ?_ _
     go_wp2_with fail
     refine HS.out.mono ?_
     rintro e w9 ⟨rfl, f9⟩
     have HP9 := Lib.hid (HP7.out.fr f9)
     have HF9 := Lib.hid (HF8.out.trans f9)
     clear f9
     go_wp2
     go_ret
     rw [HE.out]
     exact ⟨rfl, HF9.out, _, _, _, HP9.out⟩
   case stB =>
     go_simp
     refine hK.out _ _ (by first | assumption | go_keep) (fun hHeld => ?_)
     clear hK K
     try simp only [Act.put, List.setIfInBounds_toArray, List.set_cons_zero, List.set_cons_succ]
     refine wpAnyH_ready (rs := [5]) (by kernel_rfl) (by simp) ?_
     refine' AllReadyH.cons ?ho4 (fun K hK => ?st4) AllReadyH.nil
     case ho4 => simp only [List.getElem?_toArray, List.getElem?_cons_succ, List.getElem?_cons_zero]; rfl
     go_simp
     refine hK.out _ _ (by first | assumption | go_keep) (fun hHeld => ?_)
     clear hK K
     try simp only [Act.put, List.setIfInBounds_toArray, List.set_cons_zero, List.set_cons_succ]
     refine wpAnyH_ready (rs := [31]) (by kernel_rfl) (by simp) ?_
     refine' AllReadyH.cons ?ho5 (fun K hK => ?st5) AllReadyH.nil
     case ho5 => simp only [List.getElem?_toArray, List.getElem?_cons_succ, List.getElem?_cons_zero]; rfl
     refine step_app (base := wB.heap.size) (by rfl) slInsD (.tmp 17) (.tmp 42) (by rfl) (.slice A1 g.p.code.length c1) g.p.code.length _ (by rfl) ((World.ownsRow.alloc HM.out.oc _).drew_) (fun _ => True) _ 1 1 [.int .i64 (a0 : Int), .int .i64 (a1 : Int), .int .i64 (a2 : Int), .int .i64 (a3 : Int), .int .i64 (a4 : Int), .int .u32 (a5 : Int)] (by rfl) (Reads.lit' (by simp) trivial rfl) (by simp [Value.oneCell']) (by omega) (by unfold maxLen; omega) (by simp; omega) ?_
     intro v7 w7 hown7 hk7 hat7
     have sa : w7.cell? ⟨b, off, none⟩ = some (.int .u32 (a0 : Int)) ∧ w7.cell? ⟨b, off + 1, none⟩ = some (.int .u32 (a1 : Int)) ∧ w7.cell? ⟨b, off + 2, none⟩ = some (.int .u32 (a2 : Int)) ∧ w7.cell? ⟨b, off + 3, none⟩ = some (.int .u32 (a3 : Int)) ∧ w7.cell? ⟨b, off + 4, none⟩ = some (.int .u32 (a4 : Int)) ∧ w7.cell? ⟨b, off + 5, none⟩ = some (.int .u32 (a5 : Int)) := ⟨(hk7.cell (p := ⟨b, off, none⟩) (by simp; omega) hbo).trans (by simp [*]), (hk7.cell (p := ⟨b, off + 1, none⟩) (by simp; omega) hbo).trans (by simp [*]), (hk7.cell (p := ⟨b, off + 2, none⟩) (by simp; omega) hbo).trans (by simp [*]), (hk7.cell (p := ⟨b, off + 3, none⟩) (by simp; omega) hbo).trans (by simp [*]), (hk7.cell (p := ⟨b, off + 4, none⟩) (by simp; omega) hbo).trans (by simp [*]), (hk7.cell (p := ⟨b, off + 5, none⟩) (by simp; omega) hbo).trans (by simp [*])⟩
     have hk8 := ((Kept.refl (fun k => (Value.slice A1 g.p.code.length c1).ownBlock = some k) w).alloc (.cells #[.int .i64 (a0 : Int), .int .i64 (a1 : Int), .int .i64 (a2 : Int), .int .i64 (a3 : Int), .int .i64 (a4 : Int), .int .u32 (a5 : Int)] 45)).drew.trans hk7
     have HP7 := Lib.hid (HM.out.putC HOK.out hown7 hk8)
     have HF7 := Lib.hid ((HB.out.alloc (.cells #[.int .i64 (a0 : Int), .int .i64 (a1 : Int), .int .i64 (a2 : Int), .int .i64 (a3 : Int), .int .i64 (a4 : Int), .int .u32 (a5 : Int)] 45)).drew.app ((World.ownsRow.alloc HM.out.oc _).drew_) hk7)
     have hb7 := HM.out.blk.kept hk8 (own_blk_ne HM.out.oc HM.out.blk HM.out.hty.2.1)
     have y7 := hb7.frozen 1
     have z7 := hb7.lt
     have p7 := hb7.cell 1
     simp only [List.getElem?_toArray, List.getElem?_cons_succ, List.getElem?_cons_zero] at p7
     have HF8 := Lib.hid (HF7.out.setCell (p := ⟨r, 1, none⟩) (fun h => absurd h (Nat.not_lt.2 HM.out.hb)) v7)
     obtain ⟨A7, c7, rfl, _⟩ := own_reads hown7
     have hs7 := ((Kept.refl (fun k => k = r) w7).setCell (p := ⟨r, 1, none⟩) (fun _ => rfl) (.slice A7 (g.p.code.length + 1) c7))
     have hbl7 := cell_lt sa.1
     have sb : (w7.setCell ⟨r, 1, none⟩ (.slice A7 (g.p.code.length + 1) c7)).cell? ⟨b, off, none⟩ = some (.int .u32 (a0 : Int)) ∧ (w7.setCell ⟨r, 1, none⟩ (.slice A7 (g.p.code.length + 1) c7)).cell? ⟨b, off + 1, none⟩ = some (.int .u32 (a1 : Int)) ∧ (w7.setCell ⟨r, 1, none⟩ (.slice A7 (g.p.code.length + 1) c7)).cell? ⟨b, off + 2, none⟩ = some (.int .u32 (a2 : Int)) ∧ (w7.setCell ⟨r, 1, none⟩ (.slice A7 (g.p.code.length + 1) c7)).cell? ⟨b, off + 3, none⟩ = some (.int .u32 (a3 : Int)) ∧ (w7.setCell ⟨r, 1, none⟩ (.slice A7 (g.p.code.length + 1) c7)).cell? ⟨b, off + 4, none⟩ = some (.int .u32 (a4 : Int)) ∧ (w7.setCell ⟨r, 1, none⟩ (.slice A7 (g.p.code.length + 1) c7)).cell? ⟨b, off + 5, none⟩ = some (.int .u32 (a5 : Int)) := ⟨(hs7.cell (p := ⟨b, off, none⟩) hbl7 (fun h => hbr h)).trans sa.1, (hs7.cell (p := ⟨b, off + 1, none⟩) hbl7 (fun h => hbr h)).trans sa.2.1, (hs7.cell (p := ⟨b, off + 2, none⟩) hbl7 (fun h => hbr h)).trans sa.2.2.1, (hs7.cell (p := ⟨b, off + 3, none⟩) hbl7 (fun h => hbr h)).trans sa.2.2.2.1, (hs7.cell (p := ⟨b, off + 4, none⟩) hbl7 (fun h => hbr h)).trans sa.2.2.2.2.1, (hs7.cell (p := ⟨b, off + 5, none⟩) hbl7 (fun h => hbr h)).trans sa.2.2.2.2.2⟩
     have HS := Lib.hid (sayI1x okT ⟨#[111, 107]⟩ rfl (g.p.code.length + 1) ((g.p.code.length : Int) + 1) (by omega) (by omega) (by decide) (w7.setCell ⟨r, 1, none⟩ (.slice A7 (g.p.code.length + 1) c7)) (HV.out.kept HF8.out) w7.heap.size (by simp [World.setCell]))
     clear hown7 hk7 hk8 hb7 hs7
     refine hK.out _ _ sa (fun hHeld => ?_)
     clear hK K
     try simp only [Act.put, List.setIfInBounds_toArray, List.set_cons_zero, List.set_cons_succ]
     refine' take_by (i := 32) ?hi32x4 ?hw32x4 ?hy32x4 (by kernel_rfl) (by kernel_rfl) (by kernel_rfl) ?hQ32x4 (by assumption) ?rest32x4
     case hi32x4 => simp only [List.getElem?_toArray, List.getElem?_cons_succ, List.getElem?_cons_zero]; rfl
     case hw32x4 => rfl
     case hy32x4 => intro w hSw; (try dsimp only at hSw); go_simp; (try with_reducible rfl)
     case hQ32x4 => exact fun _ _ _ h => h
     try simp only [Act.put, List.setIfInBounds_toArray, List.set_cons_zero, List.set_cons_succ]
     refine' take_by (i := 33) ?hi33x5 ?hw33x5 ?hy33x5 (by kernel_rfl) (by kernel_rfl) (by kernel_rfl) ?hQ33x5 (by assumption) ?rest33x5
     case hi33x5 => simp only [List.getElem?_toArray, List.getElem?_cons_succ, List.getElem?_cons_zero]; rfl
     case hw33x5 => rfl
     case hy33x5 => intro w hSw; (try dsimp only at hSw); go_simp; (try with_reducible rfl)
     case hQ33x5 => exact fun _ _ _ h => h
     try simp only [Act.put, List.setIfInBounds_toArray, List.set_cons_zero, List.set_cons_succ]
     refine' take_by (i := 34) ?hi34x6 ?hw34x6 ?hy34x6 (by kernel_rfl) (by kernel_rfl) (by kernel_rfl) ?hQ34x6 (by assumption) ?rest34x6
     case hi34x6 => simp only [List.getElem?_toArray, List.getElem?_cons_succ, List.getElem?_cons_zero]; rfl
     case hw34x6 => rfl
     case hy34x6 => intro w hSw; (try dsimp only at hSw); go_simp; (try with_reducible rfl)
     case hQ34x6 => exact fun _ _ _ h => h
     try simp only [Act.put, List.setIfInBounds_toArray, List.set_cons_zero, List.set_cons_succ]
     refine wpAnyH_ready (rs := [35]) (by kernel_rfl) (by simp) ?_
     refine' AllReadyH.cons ?ho6 (fun K hK => ?st6) AllReadyH.nil
     case ho6 => simp only [List.getElem?_toArray, List.getElem?_cons_succ, List.getElem?_cons_zero]; rfl
     go_simp
     refine hK.out _ _ sb (fun hHeld => ?_)
     clear hK K
     try simp only [Act.put, List.setIfInBounds_toArray, List.set_cons_zero, List.set_cons_succ]
     refine wpAnyH_done (by kernel_rfl) ?_ _
     go_wp2_with fail
     refine HS.out.mono ?_
     rintro e w9 ⟨rfl, f9⟩
     have HP9 := Lib.hid (HP7.out.fr f9)
     have HF9 := Lib.hid (HF8.out.trans f9)
     clear f9
     go_wp2
     go_ret
     rw [HE.out]
     exact ⟨rfl, HF9.out, _, _, _, HP9.out⟩
end Go.Proofs.YtodmkjeankbieaaGreatDoor

