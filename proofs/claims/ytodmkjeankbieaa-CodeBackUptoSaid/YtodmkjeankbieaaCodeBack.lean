/-
  CodeBack: for every places that have bytes: they are read as them, and those have the same bytes; and no shorter row of bytes is read. Condition: what is read is of bulk at most 1048576.
-/
import Derived.Test.YtodmkjeankbieaaFrame
import Derived.Test.YtodmkjeankbieaaCodePut2
import Derived.Test.YtodmkjeankbieaaCodePlain
import Derived.Test.YtodmkjeankbieaaSame
import Derived.Test.YtodmkjeankbieaaOpen
import Derived.JoinedCond
namespace Go.Proofs.Ytodmkjeankbieaa.codeBack
open Go.Sort Go.ChangeShapes Go.WideShapes Go.ChangeAt Go.RowKit Go.Joins

theorem all_byte {L : List Int} (h : ∀ x ∈ L, 0 ≤ x ∧ x ≤ 255) : L.all isByte = true ∧ toByte L = L := by
  refine ⟨List.all_eq_true.2 fun x hx => by simp [isByte]; exact h x hx, ?_⟩
  unfold toByte
  conv => rhs; rw [← List.map_id L]
  refine List.map_congr_left fun x hx => ?_
  have := h x hx
  simp only [id]
  omega

theorem nums_len (p : Pd) : (pdNums p).length ≤ 2 + 9 * pdWt p := by
  have : ∀ l : List Rw, (l.flatMap rwNums).length ≤ 9 * (l.map fun r => r.before.length + r.after.length + 1).sum := by
    intro l
    induction l with
    | nil => simp
    | cons r l ih =>
      rw [List.flatMap_cons, List.length_append, List.map_cons, List.sum_cons]
      have e : (rwNums r).length = 6 + (1 + 9 * r.before.length) + (1 + 9 * r.after.length) := by
        simp only [rwNums, List.length_append, mvs_len, List.length_cons, List.length_nil]
      omega
  unfold pdNums pdWt
  rw [List.length_cons, List.length_cons]
  have := this p.rows
  omega
theorem rd_ok {w : World} {R : Nat → Prop} {v : Value} {p : Pd} (h : RdPd w R v p) : ∀ r ∈ p.rows, RwOk r := by
  obtain ⟨_, l, _, _, ⟨_, _, _, _, _, ho⟩, hp⟩ := h
  rw [hp]
  intro r hr
  obtain ⟨x, hx, rfl⟩ := List.mem_map.1 hr
  obtain ⟨_, _, _, ⟨_, _, _, _, _, hb⟩, ⟨_, _, _, _, _, ha⟩⟩ := ho x hx
  exact ⟨fun m hm => (hb m hm).2.2, fun m hm => (ha m hm).2.2⟩
theorem bytes_of {L : List Int} (h : L.all isByte = true) : ∀ x ∈ L, 0 ≤ x ∧ x ≤ 255 := by
  intro x hx
  have := List.all_eq_true.1 h x hx
  simpa [isByte] using this

theorem take_reads {w : World} {R : Nat → Prop} {A : Option Addr} {bs : List Int} {k : Nat} (h : Reads w R 1 A bs.length (byteVals bs)) (hk : k ≤ bs.length) : Reads w R 1 A k (byteVals (bs.take k)) := by
  obtain ⟨hl, h2⟩ := h
  refine ⟨by simp [byteVals]; omega, fun h0 => ?_⟩
  obtain ⟨g, off, rfl, hR, hc⟩ := h2 (by omega)
  refine ⟨g, off, rfl, hR, fun j u hu => hc j u ?_⟩
  unfold byteVals at hu ⊢
  rw [List.map_take, List.getElem?_take] at hu
  split at hu
  · exact hu
  · cases hu

theorem own_cut {P : Program} {t e : TypeId} {w : World} {base : Nat} {n : Nat} {v : Value} {xs : List Value} (ht : P.underlying t = some (.slice e)) (hi : (P.info? e).map (·.size) = some 1) (h : w.ownsRow base e 1 v n xs) :
    ∃ A c, v = .slice A n c ∧ n ≤ c ∧ c ≤ maxLen ∧ Reads w (fun b => base ≤ b ∧ b < w.heap.size) 1 A n xs ∧
      ∀ (i : Int) (wx : World), 0 ≤ i → i ≤ n → (Instr.slice t (.slice A n c) none (some (.int .i64 i)) none).run P wx = .ok (.slice A i.toNat c) wx := by
  have he : P.elem t = e := by simp [Program.elem, ht]
  have hs : ∀ w, (sizeOf e).run P w = .ok 1 w := by
    intro w
    cases hi' : P.info? e with
    | none => rw [hi'] at hi; cases hi
    | some x =>
      rw [hi'] at hi
      have hx : x.size = 1 := by simpa using hi
      simp [sizeOf, typeInfo, hi', hx]
  have ht' : P.underlying t = some (.slice (P.elem t)) := by rw [he]; exact ht
  obtain ⟨hl, h2⟩ := h
  rcases h2 with ⟨rfl, rfl⟩ | ⟨g, cap, cur, rfl, hb, hh, hn, hc, hs', ht2⟩
  · refine ⟨none, 0, rfl, by simp, by simp, ⟨hl, fun h => absurd h (by omega)⟩, ?_⟩
    intro i wx h0 h1
    rw [run_slice_h wx t none 0 0 ht' .i64 i h0 (by omega), he, hs]
    simp [Result.andThen, sliced]
  · refine ⟨_, _, rfl, by omega, by omega, ⟨hl, fun _ => ⟨g, 0, rfl, ⟨hb, ?_⟩, fun j u hu => ?_⟩⟩, ?_⟩
    · exact (Array.getElem?_eq_some_iff.1 hh).1
    · have hj : j < xs.length := (List.getElem?_eq_some_iff.1 hu).1
      rw [Nat.zero_add, show w.cell? ⟨g, j, none⟩ = cur[j]? from cell_of_row w g j cur e (0, 0) hh]
      rw [← ht2, List.getElem?_take] at hu
      split at hu
      · simpa using hu
      · cases hu
    · intro i wx h0 h1
      rw [run_slice_h wx t _ _ _ ht' .i64 i h0 (by omega), he, hs]
      simp [Result.andThen, sliced, add_none]

set_option maxHeartbeats 2000000 in
set_option maxRecDepth 100000 in
theorem walk (v : Value) (p : Pd) (cut : Int) (w : World) (h : RdPd w (fun b => b < w.heap.size) v p) (hb : (pdNums p).length * 8 ≤ 140737488355328) (h0 : 0 ≤ cut) (h1 : cut ≤ 65535) :
    Calls Try.prog 9 #[v, .int .u16 cut] w fun e w' => e = .returned (.bool true) ∧ Below w.heap.size w w' := by
  have hok := Lib.hid (rd_ok h)
  obtain ⟨vr, l, rfl, hi, hr0, hp⟩ := id h
  obtain ⟨A, c, rfl, hl, hr, ho⟩ := id hr0
  have H := Lib.hid h
  have HB := Lib.hid hb
  clear h hr ho hr0 hp hi hl hb
  generalize l.length = ll at *
  go_enter Try.func9, Try.ntmps9
  go_wp2_with fail
  refine (Put_any _ p _ ((H.out.kept ((Kept.refl (fun _ => False) w).alloc _) (fun _ _ h => h)).more (fun b hb => by simp; omega)) HB.out).mono ?_
  rintro e w1 ⟨vb, err, rfl, f1, hcase⟩
  have hB1 := (Blk.new w _ _).kept f1 (fun h => h)
  have z1 := f1.size
  simp only [World.size_alloc] at z1
  have F1 := Lib.hid (((Kept.refl (fun _ => False) w).alloc _).trans f1)
  rcases hcase with ⟨hall, rfl, hob⟩ | ⟨hall, rfl, rfl⟩
  · have hby := bytes_of hall
    have hab := all_byte hby
    rw [hab.2] at hob
    have hlen : Hid (0 < (pdNums p).length) := by
      show 0 < (pdNums p).length
      unfold pdNums; simp
    have hback := Lib.hid (read_back p hok.out)
    have hshort := Lib.hid (fun n hn => read_short p hok.out hby n hn)
    have HBY := Lib.hid hby
    have HAB := Lib.hid hab
    have HB1 := Lib.hid hB1
    clear hall hab hby hB1
    generalize hbs : pdNums p = bs at *
    have HBS := Lib.hid hbs
    clear hbs
    obtain ⟨Ab, cb, rfl, hcap, hcm, hrb, hcut⟩ := own_cut (P := Try.prog) (t := 35) Try.underlying35 (by kernel_rfl) hob
    have HRB := Lib.hid hrb
    have HCUT := Lib.hid hcut
    clear hob hrb hcut
    go_wp2_with fail
    refine (Get_any Ab cb bs _ (HRB.out.more (fun b hb => hb.2)) HBY.out hcap hcm).mono ?_
    rintro e w2 ⟨f2, h2⟩
    have HF := Lib.hid (F1.out.trans f2)
    have F2 := Lib.hid f2
    rcases h2 with ⟨hg, rfl⟩ | ⟨p', vx, hg, rfl, hp⟩
    · rw [hback.out] at hg; cases hg
    · have hpq : p' = p := (Option.some.inj (hback.out.symm.trans hg)).symm
      rw [hpq] at hp
      clear hg hpq p'
      obtain ⟨vr, l2, rfl, hi, hrr, hpp⟩ := id hp
      obtain ⟨Ar, cr, rfl, _, _, _⟩ := id hrr
      have HG := Lib.hid hp
      clear hp hrr hpp hi
      generalize l2.length = ll2 at *
      go_wp2_with fail
      refine (Put_any _ p _ ((HG.out.kept ((Kept.refl (fun _ => False) w2).alloc _) (fun _ _ h => h)).more (fun b hb => by simp; omega)) (by rw [HBS.out]; exact HB.out)).mono ?_
      rintro e w3 ⟨vb, err, rfl, f3, h3⟩
      have hB2 := Lib.hid ((Blk.new w2 _ _).kept f3 (fun h => h))
      have F3 := Lib.hid (((Kept.refl (fun _ => False) w2).alloc _).trans f3)
      rw [HBS.out, HAB.out.1, HAB.out.2] at h3
      rcases h3 with ⟨_, rfl, h3⟩ | ⟨h3, _⟩
      · obtain ⟨A3, c3, rfl, _, r3⟩ := own_reads h3
        have HR3 := Lib.hid r3
        clear h3 r3
        have hct := fun (wx : World) (h : cut < bs.length) => HCUT.out cut wx h0 (by omega)
        go_wp2_with fail
        · rename_i hlt
          have htk : (bs.take cut.toNat).length = cut.toNat := by rw [List.length_take]; omega
          have HGT := Get_any Ab cb (bs.take cut.toNat) w3 (by
            have hk3 := (HRB.out.kept ((F2.out : Kept (fun _ => False) w1 w2).trans F3.out) (fun _ _ h => h))
            have hz := (F2.out : Kept (fun _ => False) w1 w2).size
            have hz3 := F3.out.size
            rw [htk]
            exact take_reads (hk3.more (fun b hb => by have := hb.2; omega)) (by omega)) (fun x hx => HBY.out x (List.mem_of_mem_take hx)) (by omega) hcm
          rw [htk] at HGT
          refine HGT.mono ?_
          rintro e w4 ⟨f4, h4⟩
          rcases h4 with ⟨hg, rfl⟩ | ⟨p', vx, hg, rfl, hp⟩
          rotate_left
          · rw [hshort.out _ (by omega)] at hg; cases hg
          clear HGT hg
          have F4 := Lib.hid (f4 : Kept (fun _ => False) w3 w4)
          have HK := Lib.hid (HF.out.trans (F3.out.trans (F4.out.alloc (.cells #[.int .i64 0, .slice none 0 0] 34))))
          have K2 := Lib.hid (F3.out.trans (F4.out.alloc (.cells #[.int .i64 0, .slice none 0 0] 34)))
          have x0 := ((HB1.out.kept F2.out (fun h => h)).kept K2.out (fun h => h)).cell
          have y0 := (hB2.out.kept (F4.out.alloc (.cells #[.int .i64 0, .slice none 0 0] 34)) (fun h => h)).cell
          have cv1 := conv_bytes (P := Try.prog) (c := cb) (w := (w4.alloc (.cells #[.int .i64 0, .slice none 0 0] 34))) Try.underlying35 Try.underlying5 Try.underlying9 (HRB.out.kept ((F2.out : Kept (fun _ => False) w1 w2).trans K2.out) (fun _ _ h => h))
          have cv2 := conv_bytes (P := Try.prog) (c := c3) (w := (w4.alloc (.cells #[.int .i64 0, .slice none 0 0] 34))) Try.underlying35 Try.underlying5 Try.underlying9 (HR3.out.kept (F4.out.alloc (.cells #[.int .i64 0, .slice none 0 0] 34)) (fun _ _ h => h))
          have x1 := x0 0
          have y1 := y0 0
          have x2 := x0 1
          have y2 := y0 1
          simp only [Array.getElem?_eq_getElem, List.getElem_toArray, List.getElem_cons_zero, List.getElem_cons_succ, List.size_toArray, List.length_cons, List.length_nil, Nat.reduceAdd, Nat.lt_add_one, Nat.zero_lt_succ] at x1 x2 y1 y2
          clear x0 y0
          have HSA := Lib.hid (H.out.kept HK.out (fun _ _ h => h))
          have HSB := Lib.hid (HG.out.kept K2.out (fun _ _ h => h))
          have hlen' : (0 : Int) < (bs.length : Int) := by have := hlen.out; omega
          go_wp2_with (go_at_call 24; go_must (refine (Same_any _ _ _ _ p p _ HSA.out HSB.out).mono ?_; rintro e w5 ⟨rfl, f5⟩))
          go_ret
          exact ⟨ret_b (by simp [pdEq]), Fr.below (HK.out.trans f5)⟩
        · have HK := Lib.hid (HF.out.trans (F3.out.trans (Kept.refl (fun _ => False) w3)))
          have K2 := Lib.hid (F3.out.trans (Kept.refl (fun _ => False) w3))
          have x0 := ((HB1.out.kept F2.out (fun h => h)).kept K2.out (fun h => h)).cell
          have y0 := (hB2.out.kept (Kept.refl (fun _ => False) w3) (fun h => h)).cell
          have cv1 := conv_bytes (P := Try.prog) (c := cb) (w := w3) Try.underlying35 Try.underlying5 Try.underlying9 (HRB.out.kept ((F2.out : Kept (fun _ => False) w1 w2).trans K2.out) (fun _ _ h => h))
          have cv2 := conv_bytes (P := Try.prog) (c := c3) (w := w3) Try.underlying35 Try.underlying5 Try.underlying9 (HR3.out.kept (Kept.refl (fun _ => False) w3) (fun _ _ h => h))
          have x1 := x0 0
          have y1 := y0 0
          have x2 := x0 1
          have y2 := y0 1
          simp only [Array.getElem?_eq_getElem, List.getElem_toArray, List.getElem_cons_zero, List.getElem_cons_succ, List.size_toArray, List.length_cons, List.length_nil, Nat.reduceAdd, Nat.lt_add_one, Nat.zero_lt_succ] at x1 x2 y1 y2
          clear x0 y0
          have HSA := Lib.hid (H.out.kept HK.out (fun _ _ h => h))
          have HSB := Lib.hid (HG.out.kept K2.out (fun _ _ h => h))
          have hlen' : (0 : Int) < (bs.length : Int) := by have := hlen.out; omega
          rw [cv1]
          go_wp2_with (go_at_call 24; go_must (refine (Same_any _ _ _ _ p p _ HSA.out HSB.out).mono ?_; rintro e w5 ⟨rfl, f5⟩))
          go_ret
          exact ⟨ret_b (by simp [pdEq]), Fr.below (HK.out.trans f5)⟩
      · cases h3
  · go_wp2
    go_ret
    exact ⟨rfl, Fr.below F1.out⟩

set_option maxRecDepth 100000 in
theorem contract (H : Type) (enc : TypeId × Value → H) (W : World) (base : Nat) (args : Array Value) (ds gs : List (DataW H)) (before : List MemPlace)
    (hval0 : ∀ (j : Nat) t v, Try.f9.params[j]? = some t → args[j]? = some v → Value.okWide Try.prog W .any base t v)
    (hW : DataW.Whole enc Try.prog Try.f9.params.toList Rows.codeBackSpec.vars false W args.toList ds gs before) (hk : Rows.uptoSmall H (ds ++ gs) = true) :
    Calls Try.prog 9 args W fun e W' => ∃ v, e = .returned v ∧ Rows.codeBackSpec.post enc Try.prog Try.f9 false true false false W args v W' := by
  have hval : ∀ (j : Nat) t v, Try.f9.params[j]? = some t → args[j]? = some v → Value.okWide Try.prog W .any base t v := hval0
  have hlt : ∀ x ∈ before, x.block < W.heap.size := fun x hx => hW.lt x hx
  have hW' := hW
  obtain ⟨p, q, hA0, hV, rfl, _, _⟩ := hW
  have hA : DataW.TrodAll enc Try.prog W 0 (fun _ => true) true Try.f9.params.toList args.toList ds p := hA0
  rw [Try.params9] at hA hval
  obtain ⟨v0, vs0, d0, ds0, p0, q0, hargs, rfl, rfl, h0, r0⟩ := trodAll_cons hA
  obtain ⟨v1, vs1, d1, ds1, p1, q1, rfl, rfl, rfl, h1, r1⟩ := trodAll_cons r0
  obtain ⟨rfl, rfl, rfl⟩ := trodAll_nil r1
  obtain rfl : args = #[v0, v1] := by cases args; simp_all
  have hg : gs = [] := (trodVars_none hV).1
  subst hg
  have hbulk := of_decide_eq_true hk
  clear hk
  simp only [Rows.uptoBulkAll, List.cons_append, List.nil_append] at hbulk
  suffices hwalk : Calls Try.prog 9 #[v0, v1] W fun e W' => e = .returned (.bool true) ∧ Below W.heap.size W W' by
    refine hwalk.mono fun e W' ⟨he, hb⟩ => ?_
    subst he
    exact law_post (by kernel_rfl) rfl rfl hW' rfl hb
  obtain ⟨pd, hpd, hw⟩ := open_pd (R := fun b => b < W.heap.size) (hval 0 34 v0 rfl rfl) h0 (fun x hx => hlt x (by simp [hx]))
  obtain ⟨cut, rfl, rfl, rfl, w1⟩ := open_int Try.underlying53 (hval 1 53 v1 rfl rfl) h1
  have b1 := bounds_u16 w1
  have hn := nums_len pd
  exact walk v0 pd cut W hpd (by omega) (by omega) (by omega)

set_option maxRecDepth 100000 in
theorem lifted (os : Os) (started : os.Started) (H : Type) (enc : TypeId × Value → H) (F : Stop.Interp) :
    ReturnsInHanded {} Try.checked os 9 .any ((Rows.OpenSpec.upto Rows.codeBackSpec).pre6 enc Try.prog Try.f9 Rows.codeBackUptoRow.domain false) (((Rows.OpenSpec.upto Rows.codeBackSpec).at F).post enc Try.prog Try.f9 false true false false) := by
  refine returnsInHanded_of_cond (C := Try.checked) (s := Rows.OpenSpec.upto Rows.codeBackSpec) (k := Rows.uptoSmall) rfl own started (by kernel_rfl) Try.func9
    (OpenSpec.witness (enc := enc) (C := Try.checked) (s := Rows.OpenSpec.upto Rows.codeBackSpec) (k := Rows.uptoSmall) rfl false ⟨#[], #[.agg #[.int .i64 0, .slice none 0 0], .int .u16 0], []⟩ 8 (by kernel_rfl) (by kernel_rfl) (by kernel_rfl)
      (x := ([.agg [.lit (.int .i64 0), .nil], .lit (.int .u16 0)], [], [])) (by kernel_rfl) rfl (by kernel_rfl)) ?_
  intro W base args ds gs before hval hW _ hk _
  exact contract H enc W base args ds gs before hval hW hk

theorem over : Rows.codeBackUptoRow.holds Try.pinned (Rows.OpenSpec.upto Rows.codeBackSpec) :=
  OpenClaim.holds_of_cond 9 Try.f9 rfl rfl rfl rfl rfl rfl rfl ⟨rfl, rfl, rfl, rfl, rfl⟩ rfl rfl rfl rfl rfl (by kernel_rfl) Try.func9 (by kernel_rfl)
    (of_decide_eq_true (by kernel_rfl)) (by unfold Func.isWrapper; first | (rw [if_pos (by decide +kernel)]; kernel_rfl) | (rw [if_neg (by decide +kernel)]; exact ⟨rfl, rfl⟩))
    (fun os started H enc _ F => lifted os started H enc F)

/-- the statement -/
theorem proved : Rows.CodeBackUptoSaid := over
#print axioms proved
end Go.Proofs.Ytodmkjeankbieaa.codeBack
