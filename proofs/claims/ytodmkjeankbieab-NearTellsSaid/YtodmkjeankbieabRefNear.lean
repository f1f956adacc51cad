/- The walks of the reference of chapter 5: gives, Of. -/
import Derived.Test.YtodmkjeankbieabRefLive3
import Derived.Test.YtodmkjeankbieabNear
namespace Go.Proofs.Ytodmkjeankbieab
open Go.RowKit Go.Sort

theorem behTo_need {p : Pg} {k t : Nat} (ht : t < p.wide.length) : behTo p.code.length (needM p) (nexts (inAt p.code k) k) (nexts (inAt p.code k) k).length t = behindM p.code (needB p.code) k t := by
  rw [behTo_all]
  exact behind_matL (code := p.code) (W := p.wide.length) (M := needB p.code) ht
theorem behTo_yes {len : Nat} {M : List (List Bool)} {ns : List Int} {j t : Nat} {n : Int} (h : ns[j]? = some n) (hn : n.toNat < len) (hm : mfn M n.toNat t = true) : behTo len M ns ns.length t = true := by
  unfold behTo
  rw [List.any_eq_true]
  exact ⟨n.toNat, List.mem_map.2 ⟨n, by rw [List.take_length]; exact List.mem_of_getElem? h, rfl⟩, by simp [hn, hm]⟩

set_option maxHeartbeats 4000000 in
set_option maxRecDepth 100000 in
theorem refGives5_any (R R' : Nat → Prop) (v vn : Value) (p : Pg) (k a b : Nat) (w : World) (h : RdPg w R v p) (hM : RdM w R' vn (needM p)) (hm : mayB p = true) (hk : k < p.code.length) (ha : a < p.wide.length) (hb : b < p.wide.length) :
    Calls Try.prog 51 #[v, vn, .int .i64 (k : Int), .int .i64 (a : Int), .int .i64 (b : Int)] w fun e w' => e = .returned (.bool (nearAt p.code (needB p.code) k a b)) ∧ Fr w w' := by
  obtain ⟨l1, l2, l3, l4⟩ := mayB_len hm
  have hI := mayB_ins hm (inAt_mem hk)
  have hok := insOk hI
  have HMD := Lib.hid hM
  obtain ⟨An, cn, rfl⟩ := hM.val
  obtain ⟨vw, vc, rfl, ⟨A, c, rfl, hl, hr⟩, ⟨A', c', rfl, hl', hr', ho'⟩⟩ := h
  have hx : p.code[k]? = some (inAt p.code k) := by rw [inAt_get hk]; exact List.getElem?_eq_getElem hk
  obtain ⟨b3, o3, rfl, _, d0, d1, d2, d3, d4, d5⟩ := hr'.ins hx
  have hb3 := cell_lt d0
  have hk0 : (0 : Int) ≤ (k : Int) := Int.natCast_nonneg _
  have hk1 : (k : Int) < (p.code.length : Int) := by omega
  have HBN := Lib.hid (behTo_need (p := p) (k := k) hb)
  have HPOS := Lib.hid (fun n (hn : n ∈ nexts (inAt p.code k) k) => nexts_pos hok hn)
  have HNA : Hid (nearAt p.code (needB p.code) k a b = (gvs (inAt p.code k).op && decide ((inAt p.code k).d = (a : Int)) && !(decide ((inAt p.code k).op = 2) && decide ((inAt p.code k).a = (b : Int))) && behindM p.code (needB p.code) k b)) := rfl
  have hlen : (needM p).length = p.code.length := by unfold needM; simp
  rw [hlen]
  unfold maxLen at hl hl'
  clear hr hr' ho' hx hI hm hok
  generalize nearAt p.code (needB p.code) k a b = res at *
  generalize behindM p.code (needB p.code) k b = bh at *
  generalize hii : inAt p.code k = i at *
  clear hii
  have HNX := Lib.hid (fun w2 => refNexts_any i (k : Int) w2 hk0 (by omega))
  have hnl := nexts_len i (k : Int)
  have HG := Lib.hid (fun w => refGives_any i.op w)
  obtain ⟨op, d, a1, bb, cc, n⟩ := i
  unfold In.val at HNX
  simp only at *
  generalize nexts ⟨op, d, a1, bb, cc, n⟩ (k : Int) = ns at *
  have HF0 := Lib.hid (show Fr w ((w.alloc (.cells #[.slice A p.wide.length c, .slice (some ⟨b3, o3, none⟩) p.code.length c'] 25)).alloc (.cells #[.int .i64 op, .int .i64 d, .int .i64 a1, .int .i64 bb, .int .i64 cc, .int .u32 n] 45)) from ((Kept.refl _ w).alloc _).alloc _)
  have HBP := Lib.hid ((Blk.new w 25 #[.slice A p.wide.length c, .slice (some ⟨b3, o3, none⟩) p.code.length c']).alloc (.cells #[.int .i64 op, .int .i64 d, .int .i64 a1, .int .i64 bb, .int .i64 cc, .int .u32 n] 45))
  have no : ∀ (h : (gvs op && decide (d = (a : Int)) && !(decide (op = 2) && decide (a1 = (b : Int)))) = false), res = false := fun h => by rw [HNA.out, h]; rfl
  have HNO := Lib.hid no
  clear no
  rcases Bool.eq_false_or_eq_true (gvs op) with hg | hg
  · by_cases hda : d = (a : Int)
    · by_cases hoa : op = 2 ∧ a1 = (b : Int)
      · have HV := Lib.hid (HNO.out (by simp [hoa]))
        obtain ⟨eo, ea⟩ := hoa
        have eo' : (op == 2) = true := by simpa using eo
        have ea' : (a1 == (b : Int)) = true := by simpa using ea
        have ed' : (d != (a : Int)) = false := by simpa using hda
        rw [hg] at HG
        clear eo ea hda hg HNO HNA
        go_enter Try.func51, Try.ntmps51
        go_wp2_with fail
        refine (HG.out _).mono ?_
        rintro e w1 ⟨rfl, rfl⟩
        go_wp2
        go_ret
        exact ⟨ret_b HV.out.symm, HF0.out⟩
      · have HV : Hid (res = bh) := by
          show _ = _
          rw [HNA.out, hg, decide_eq_true hda]
          by_cases eo : op = 2
          · rw [decide_eq_false (fun h => hoa ⟨eo, h⟩ : ¬ a1 = (b : Int))]; simp
          · rw [decide_eq_false eo]; simp
        have ed' : (d != (a : Int)) = false := by simpa using hda
        have hcs : (op == 2) = false ∨ ((op == 2) = true ∧ (a1 == (b : Int)) = false) := by
          by_cases eo : op = 2
          · exact Or.inr ⟨by simpa using eo, by simpa using fun h => hoa ⟨eo, h⟩⟩
          · exact Or.inl (by simpa using eo)
        rw [hg] at HG
        clear hda hg HNO HNA hoa
        go_enter Try.func51, Try.ntmps51
        rcases hcs with eo' | ⟨eo', ea'⟩
        · go_wp2_with fail
          refine (HG.out _).mono ?_
          rintro e w1 ⟨rfl, rfl⟩
          go_wp2_with fail
          refine (HNX.out _).mono ?_
          rintro e w2 ⟨vv, rfl, hns, f2⟩
          have HF2 := Lib.hid (HF0.out.trans f2)
          have HB2 := Lib.hid (HBP.out.kept f2 (fun h => h))
          obtain ⟨Ax, cx, evv, hrx⟩ := hns
          subst evv
          have HNS := Lib.hid hrx
          clear f2 hrx
          go_wp2
          go_loopw [13] (fun i wr => ∃ j : Nat, j ≤ ns.length ∧ i = .int .i64 j ∧ Hid (behTo p.code.length (needM p) ns j b = false) ∧ Hid (Fr w2 wr)) (fun i _ => ns.length - (intOf i).toNat)
          case atStart => exact ⟨0, Nat.zero_le _, rfl, by show _ = _; unfold behTo; simp, Kept.refl _ w2⟩
          case round =>
            obtain ⟨j, hj, rfl, hbt, hf⟩ := hrel
            have hB := HB2.out.kept hf.out (fun h => h)
            have c1 := hB.cell 1
            have zb := hB.lt
            simp only [List.getElem?_toArray, List.getElem?_cons_succ, List.getElem?_cons_zero] at c1
            by_cases hjl : j < ns.length
            · have hx : ns[j]? = some ns[j] := List.getElem?_eq_getElem hjl
              obtain ⟨bx, ox, rfl, _, hcx⟩ := (HNS.out.kept hf.out (fun _ _ h => h)).2 (by omega)
              have n0 := hcx j (.int .i64 ns[j]) (by rw [List.getElem?_map, hx]; rfl)
              have hpos := HPOS.out _ (List.getElem_mem hjl)
              have hj0 : (0 : Int) ≤ (j : Int) := Int.natCast_nonneg _
              have hj1 : (j : Int) < (ns.length : Int) := by omega
              have HX := Lib.hid hx
              clear hcx hx hB
              generalize ns[j] = nn at *
              obtain ⟨m, rfl⟩ : ∃ m : Nat, nn = (m : Int) := ⟨nn.toNat, by omega⟩
              by_cases hml : m < p.code.length
              · obtain ⟨bg, og, cg, u, hv, _, hlg, hcell, hbo⟩ := ((HMD.out.kept HF2.out (fun _ _ h => h)).kept hf.out (fun _ _ h => h)).row (k := m) (row := (List.range p.wide.length).map (needB p.code m)) (matL_at (M := needB p.code) hml)
                obtain ⟨bh2, oh2, ch2, hu, _, hlh, hcb⟩ := hbo.at_ (k := b) (x := needB p.code m b) (by simp [List.getElem?_range hb])
                rw [show ((List.range p.wide.length).map (needB p.code m)).length = p.wide.length by simp] at hu
                subst hu
                simp only [Value.slice.injEq] at hv
                obtain ⟨hv1, _, hv3⟩ := hv
                subst hv1
                have hml' : (m : Int) < (p.code.length : Int) := by omega
                have hm0 : (0 : Int) ≤ (m : Int) := Int.natCast_nonneg _
                have hb0 : (0 : Int) ≤ (b : Int) := Int.natCast_nonneg _
                have hb1 : (b : Int) < (p.wide.length : Int) := by omega
                have hxl : decide ((m : Int) < (p.code.length : Int)) = true := decide_eq_true hml'
                clear hv3 hbo
                cases hnb : needB p.code m b with
                | true =>
                  have HT : Hid (res = true) := by
                    show _ = _
                    rw [HV.out, ← HBN.out]
                    exact behTo_yes HX.out (by simpa using hml) (by rw [show ((m : Int)).toNat = m by simp, needM_at hml hb]; exact hnb)
                  rw [hnb] at hcb
                  clear hnb
                  go_wp2
                  go_quiet (fail)
                  go_wp2
                  go_ret
                  exact ⟨ret_b HT.out.symm, (HF2.out.trans hf.out).drewN nq⟩
                | false =>
                  have HN := Lib.hid (show behTo p.code.length (needM p) ns (j + 1) b = false from by
                    rw [behTo_s HX.out, hbt.out, show ((m : Int)).toNat = m by simp, needM_at hml hb, hnb]; simp)
                  rw [hnb] at hcb
                  clear hnb
                  go_wp2
                  go_quiet (fail)
                  go_wp2
                  go_roundw
                  case rel => exact ⟨j + 1, by omega, by go_num, HN, Lib.hid (hf.out.drewN nq)⟩
                  case measure => simp [intOf]; omega
              · have HN := Lib.hid (show behTo p.code.length (needM p) ns (j + 1) b = false from by
                  rw [behTo_s HX.out, hbt.out, show ((m : Int)).toNat = m by simp, decide_eq_false hml]; simp)
                have hml' : ¬ (m : Int) < (p.code.length : Int) := by omega
                have hxl : decide ((m : Int) < (p.code.length : Int)) = false := decide_eq_false hml'
                go_wp2
                go_quiet (fail)
                go_wp2
                go_roundw
                case rel => exact ⟨j + 1, by omega, by go_num, HN, Lib.hid (hf.out.drewN nq)⟩
                case measure => simp [intOf]; omega
            · obtain rfl : j = ns.length := by omega
              have HT : Hid (res = false) := by show _ = _; rw [HV.out, ← HBN.out]; exact hbt.out
              go_wp2
              go_ret
              exact ⟨ret_b HT.out.symm, HF2.out.trans hf.out⟩
        · go_wp2_with fail
          refine (HG.out _).mono ?_
          rintro e w1 ⟨rfl, rfl⟩
          go_wp2_with fail
          refine (HNX.out _).mono ?_
          rintro e w2 ⟨vv, rfl, hns, f2⟩
          have HF2 := Lib.hid (HF0.out.trans f2)
          have HB2 := Lib.hid (HBP.out.kept f2 (fun h => h))
          obtain ⟨Ax, cx, evv, hrx⟩ := hns
          subst evv
          have HNS := Lib.hid hrx
          clear f2 hrx
          go_wp2
          go_loopw [13] (fun i wr => ∃ j : Nat, j ≤ ns.length ∧ i = .int .i64 j ∧ Hid (behTo p.code.length (needM p) ns j b = false) ∧ Hid (Fr w2 wr)) (fun i _ => ns.length - (intOf i).toNat)
          case atStart => exact ⟨0, Nat.zero_le _, rfl, by show _ = _; unfold behTo; simp, Kept.refl _ w2⟩
          case round =>
            obtain ⟨j, hj, rfl, hbt, hf⟩ := hrel
            have hB := HB2.out.kept hf.out (fun h => h)
            have c1 := hB.cell 1
            have zb := hB.lt
            simp only [List.getElem?_toArray, List.getElem?_cons_succ, List.getElem?_cons_zero] at c1
            by_cases hjl : j < ns.length
            · have hx : ns[j]? = some ns[j] := List.getElem?_eq_getElem hjl
              obtain ⟨bx, ox, rfl, _, hcx⟩ := (HNS.out.kept hf.out (fun _ _ h => h)).2 (by omega)
              have n0 := hcx j (.int .i64 ns[j]) (by rw [List.getElem?_map, hx]; rfl)
              have hpos := HPOS.out _ (List.getElem_mem hjl)
              have hj0 : (0 : Int) ≤ (j : Int) := Int.natCast_nonneg _
              have hj1 : (j : Int) < (ns.length : Int) := by omega
              have HX := Lib.hid hx
              clear hcx hx hB
              generalize ns[j] = nn at *
              obtain ⟨m, rfl⟩ : ∃ m : Nat, nn = (m : Int) := ⟨nn.toNat, by omega⟩
              by_cases hml : m < p.code.length
              · obtain ⟨bg, og, cg, u, hv, _, hlg, hcell, hbo⟩ := ((HMD.out.kept HF2.out (fun _ _ h => h)).kept hf.out (fun _ _ h => h)).row (k := m) (row := (List.range p.wide.length).map (needB p.code m)) (matL_at (M := needB p.code) hml)
                obtain ⟨bh2, oh2, ch2, hu, _, hlh, hcb⟩ := hbo.at_ (k := b) (x := needB p.code m b) (by simp [List.getElem?_range hb])
                rw [show ((List.range p.wide.length).map (needB p.code m)).length = p.wide.length by simp] at hu
                subst hu
                simp only [Value.slice.injEq] at hv
                obtain ⟨hv1, _, hv3⟩ := hv
                subst hv1
                have hml' : (m : Int) < (p.code.length : Int) := by omega
                have hm0 : (0 : Int) ≤ (m : Int) := Int.natCast_nonneg _
                have hb0 : (0 : Int) ≤ (b : Int) := Int.natCast_nonneg _
                have hb1 : (b : Int) < (p.wide.length : Int) := by omega
                have hxl : decide ((m : Int) < (p.code.length : Int)) = true := decide_eq_true hml'
                clear hv3 hbo
                cases hnb : needB p.code m b with
                | true =>
                  have HT : Hid (res = true) := by
                    show _ = _
                    rw [HV.out, ← HBN.out]
                    exact behTo_yes HX.out (by simpa using hml) (by rw [show ((m : Int)).toNat = m by simp, needM_at hml hb]; exact hnb)
                  rw [hnb] at hcb
                  clear hnb
                  go_wp2
                  go_quiet (fail)
                  go_wp2
                  go_ret
                  exact ⟨ret_b HT.out.symm, (HF2.out.trans hf.out).drewN nq⟩
                | false =>
                  have HN := Lib.hid (show behTo p.code.length (needM p) ns (j + 1) b = false from by
                    rw [behTo_s HX.out, hbt.out, show ((m : Int)).toNat = m by simp, needM_at hml hb, hnb]; simp)
                  rw [hnb] at hcb
                  clear hnb
                  go_wp2
                  go_quiet (fail)
                  go_wp2
                  go_roundw
                  case rel => exact ⟨j + 1, by omega, by go_num, HN, Lib.hid (hf.out.drewN nq)⟩
                  case measure => simp [intOf]; omega
              · have HN := Lib.hid (show behTo p.code.length (needM p) ns (j + 1) b = false from by
                  rw [behTo_s HX.out, hbt.out, show ((m : Int)).toNat = m by simp, decide_eq_false hml]; simp)
                have hml' : ¬ (m : Int) < (p.code.length : Int) := by omega
                have hxl : decide ((m : Int) < (p.code.length : Int)) = false := decide_eq_false hml'
                go_wp2
                go_quiet (fail)
                go_wp2
                go_roundw
                case rel => exact ⟨j + 1, by omega, by go_num, HN, Lib.hid (hf.out.drewN nq)⟩
                case measure => simp [intOf]; omega
            · obtain rfl : j = ns.length := by omega
              have HT : Hid (res = false) := by show _ = _; rw [HV.out, ← HBN.out]; exact hbt.out
              go_wp2
              go_ret
              exact ⟨ret_b HT.out.symm, HF2.out.trans hf.out⟩
    · have HV := Lib.hid (HNO.out (by simp [hda]))
      have ed' : (d != (a : Int)) = true := by simpa using hda
      rw [hg] at HG
      clear hda hg HNO HNA
      go_enter Try.func51, Try.ntmps51
      go_wp2_with fail
      refine (HG.out _).mono ?_
      rintro e w1 ⟨rfl, rfl⟩
      go_wp2
      go_ret
      exact ⟨ret_b HV.out.symm, HF0.out⟩
  · have HV := Lib.hid (HNO.out (by simp [hg]))
    rw [hg] at HG
    clear hg HNO HNA
    go_enter Try.func51, Try.ntmps51
    go_wp2_with fail
    refine (HG.out _).mono ?_
    rintro e w1 ⟨rfl, rfl⟩
    go_wp2
    go_ret
    exact ⟨ret_b HV.out.symm, HF0.out⟩
end Go.Proofs.Ytodmkjeankbieab
