/- The walk of the closure of done.Run: one instruction, in its places. -/
import Derived.Test.YtodmkjeankbieabSto2
import Derived.Test.YtodmkjeankbieabRunRun
import Derived.Deep.Cut
import Derived.Deep.CutRange
namespace Go.Proofs.Ytodmkjeankbieab
open Go.RowKit Go.Sort

/-- what the closure captures: the program's variable, the places', the store's, the machine's -/
structure DClo (w : World) (bp bl bv bm bs g B : Nat) (p : Pg) (A1 : Option Addr) (c1 : Nat) (A : Option Addr) (c : Nat) (sl : Int) (Al : Option Addr) (cl : Nat) (lv : List RwV) (s : Sto) : Prop where
  pb : Blk w bp 25 #[.slice A1 p.wide.length c1, .slice A p.code.length c]
  lb : Blk w bl 50 #[.int .i64 sl, .slice Al lv.length cl]
  vb : Blk w bv 101 #[.pointer (some ⟨bs, 0, none⟩)]
  mb : Blk w bm 83 #[.pointer (some ⟨g, 0, none⟩)]
  sb : Blk w bs 104 (stC s)
  rd : Reads w (fun b => b < B) 6 A p.code.length (p.code.flatMap In.cells)
  rl : Reads w (fun b => b < B) 8 Al lv.length (lv.flatMap RwV.cells)
  ro : ∀ x ∈ lv, x.ok w (fun b => b < B)
section
variable {w w' : World} {bp bl bv bm bs g B : Nat} {p : Pg} {A1 : Option Addr} {c1 : Nat} {A : Option Addr} {c : Nat} {sl : Int} {Al : Option Addr} {cl : Nat} {lv : List RwV} {s s' : Sto}
theorem DClo.fr_ (h : DClo w bp bl bv bm bs g B p A1 c1 A c sl Al cl lv s) (hk : Fr w w') : DClo w' bp bl bv bm bs g B p A1 c1 A c sl Al cl lv s :=
  ⟨h.pb.kept hk (fun h => h), h.lb.kept hk (fun h => h), h.vb.kept hk (fun h => h), h.mb.kept hk (fun h => h), h.sb.kept hk (fun h => h), h.rd.kept hk (fun _ _ h => h), h.rl.kept hk (fun _ _ h => h), fun x hx => (h.ro x hx).kept hk (fun _ _ h => h)⟩
theorem DClo.put (h : DClo w bp bl bv bm bs g B p A1 c1 A c sl Al cl lv s) (hk : Kept (fun b => b = bs) w w') (hb : Blk w' bs 104 (stC s')) (hbs : B ≤ bs) : DClo w' bp bl bv bm bs g B p A1 c1 A c sl Al cl lv s' :=
  ⟨h.pb.kept hk (h.pb.ne_ h.sb (by decide)), h.lb.kept hk (h.lb.ne_ h.sb (by decide)), h.vb.kept hk (h.vb.ne_ h.sb (by decide)), h.mb.kept hk (h.mb.ne_ h.sb (by decide)), hb,
    h.rd.kept hk (fun b hb e => by omega), h.rl.kept hk (fun b hb e => by omega), fun x hx => (h.ro x hx).kept hk (fun b hb e => by omega)⟩
theorem DClo.keep {r : Sh} {vo : Value} (h : DClo w bp bl bv bm bs g B p A1 c1 A c sl Al cl lv s) (hm : Mc w g B r vo) (hg : B ≤ g) (hk : Kept (McS g vo) w w') : DClo w' bp bl bv bm bs g B p A1 c1 A c sl Al cl lv s := by
  have hB : ∀ b, b < B → ¬ McS g vo b := fun b hb e => by
    rcases e with e | e
    · omega
    · have := (own_lt hm.ow e).1; omega
  exact ⟨hm.blk hk h.pb (by decide) (by decide), hm.blk hk h.lb (by decide) (by decide), hm.blk hk h.vb (by decide) (by decide), hm.blk hk h.mb (by decide) (by decide), hm.blk hk h.sb (by decide) (by decide),
    h.rd.kept hk hB, h.rl.kept hk hB, fun x hx => (h.ro x hx).kept hk hB⟩
theorem DClo.mc {r : Sh} {vo : Value} (h : DClo w bp bl bv bm bs g B p A1 c1 A c sl Al cl lv s) (hm : Mc w g B r vo) (hbs : B ≤ bs) (hk : Kept (fun b => b = bs) w w') : Mc w' g B r vo := by
  obtain ⟨_, _, hb, _⟩ := hm.ex
  exact hm.kept hk (fun e => hb.ne_ h.sb (by decide) e) (fun k hk e => own_blk_ne hm.ow h.sb (by decide) (e ▸ hk)) (fun b hb e => by omega)
end

set_option maxHeartbeats 4000000 in
set_option maxRecDepth 100000 in
theorem Done1_any (bp bl bv bm bs g B : Nat) (p : Pg) (A1 : Option Addr) (c1 : Nat) (A : Option Addr) (c : Nat) (sl : Int) (Al : Option Addr) (cl : Nat) (lv : List RwV) (s : Sto) (r : Sh) (vo : Value) (w : World)
    (hC : DClo w bp bl bv bm bs g B p A1 c1 A c sl Al cl lv s) (hS : StOk s) (hM : Mc w g B r vo) (hg : B ≤ g) (hbs : B ≤ bs) (hpc : r.pc < p.code.length) (hlv : lv.length = p.code.length) (hcl : p.code.length ≤ 40)
    (hk : known (inAt p.code r.pc).op = true) (hn : (inAt p.code r.pc).n < 4294967296) (hc0 : 0 ≤ (inAt p.code r.pc).c) (y : RwV) (hy : lv[r.pc]? = some y) (hh : RwHas y.r)
    (h5 : (inAt p.code r.pc).op = 5 → getS (movesS s y.r.before) y.r.a < 4294967296 ∧ getS (movesS s y.r.before) y.r.b < 4294967296)
    (hs : r.steps ≤ 100000) (ho : r.out.length ≤ 100000) (hi : ∀ n ∈ r.ins, 0 ≤ n ∧ n < 4294967296) :
    Calls Try.prog 55 #[.int .i64 (r.pc : Int), .pointer (some ⟨bp, 0, none⟩), .pointer (some ⟨bl, 0, none⟩), .pointer (some ⟨bv, 0, none⟩), .pointer (some ⟨bm, 0, none⟩)] w fun e w' => e = .returned (.tuple #[]) ∧
      (∃ vo', Mc w' g B (rawStep r (inAt p.code r.pc) (getS (movesS s y.r.before) y.r.a)) vo') ∧
      DClo w' bp bl bv bm bs g B p A1 c1 A c sl Al cl lv (movesS (if gvs (inAt p.code r.pc).op then putS (movesS s y.r.before) y.r.d (giveV (inAt p.code r.pc) (getS (movesS s y.r.before) y.r.a) (getS (movesS s y.r.before) y.r.b) (r.ins.headD 0)) else movesS s y.r.before) y.r.after) ∧ Kept (RunS bs g vo) w w' := by
  have hx : p.code[r.pc]? = some (inAt p.code r.pc) := by rw [inAt_get hpc]; exact List.getElem?_eq_getElem hpc
  obtain ⟨b, off, rfl, hbB, d0, d1, d2, d3, d4, d5⟩ := hC.rd.ins hx
  obtain ⟨b2, off2, rfl, hbB2, k0, k1, k2, k3, k4, k5, k6, k7⟩ := hC.rl.rw hy
  obtain ⟨hyd, hya, hyb, rbf, raf⟩ := hC.ro y (List.mem_of_getElem? hy)
  clear hx hy
  generalize inAt p.code r.pc = i at *
  obtain ⟨op, d, a, b1, cc, n⟩ := i
  obtain ⟨⟨⟨dk, dn⟩, ⟨ak, an⟩, ⟨bk, bn⟩, bef, aft⟩, vb, va⟩ := y
  simp only at *
  obtain ⟨hhd, hha, hhb, hhf, hht, hlf, hlt⟩ := hh
  simp only at hhd hha hhb hhf hht hlf hlt
  obtain ⟨Ab, cb, rfl, _⟩ := id rbf
  obtain ⟨Aa, ca, rfl, _⟩ := id raf
  have p0 := hC.pb.cell 1
  have l0 := hC.lb.cell 1
  have v0 := hC.vb.cell 0
  simp only [List.getElem?_toArray, List.getElem?_cons_succ, List.getElem?_cons_zero] at p0 l0 v0
  have zb := cell_lt d0
  have zb2 := cell_lt k0
  have zp := hC.pb.lt
  have zl := hC.lb.lt
  have zv := hC.vb.lt
  have hp0 : (0 : Int) ≤ (r.pc : Int) := Int.natCast_nonneg _
  have hp1 : (r.pc : Int) < (p.code.length : Int) := by omega
  have hp2 : (r.pc : Int) < (lv.length : Int) := by omega
  have HC := Lib.hid hC
  have HM := Lib.hid hM
  have H5 := Lib.hid h5
  have HK := Lib.hid hk
  have HI := Lib.hid hi
  have HS := Lib.hid hS
  have HBF := Lib.hid rbf
  have HAF := Lib.hid raf
  have HHD := Lib.hid hhd
  have HHA := Lib.hid hha
  have HHB := Lib.hid hhb
  have HHF := Lib.hid hhf
  have HHT := Lib.hid hht
  have HS1 := Lib.hid (hS.moves hhf)
  clear hC hM h5 hk hi hS rbf raf hhd hha hhb hhf hht hyd hya hyb
  have hga := HS1.out.get ⟨ak, an⟩
  have hgb := HS1.out.get ⟨bk, bn⟩
  have HD := Lib.hid (fun w (hm : Mc w g B r vo) => Do_any g B r vo ⟨op, d, a, b1, cc, n⟩ (getS (movesS s bef) ⟨ak, an⟩) (getS (movesS s bef) ⟨bk, bn⟩) w hm hg HK.out hn hga hgb H5.out hs ho (by omega) (fun _ => hc0) HI.out)
  have HG := Lib.hid (fun w => Gives_any ⟨op, d, a, b1, cc, n⟩ w HK.out)
  unfold In.val at HD HG
  simp only at HD HG
  obtain ⟨pc, ins, out, steps, state⟩ := r
  simp only at *
  have hxr := head_num HI.out
  generalize ins.headD 0 = xh at *
  generalize hs1 : movesS s bef = s1 at *
  have H1 := Lib.hid hs1
  clear hs1
  go_enter Try.func55, Try.ntmps55
  go_upto_region 0 with (fail)
  go_cut [6, 7] from 9 to 18 (fun p6 p7 wx => ∃ gi gr : Nat, p6 = .pointer (some ⟨gi, 0, none⟩) ∧ p7 = .pointer (some ⟨gr, 0, none⟩) ∧ Hid (Blk wx gi 45 #[.int .i64 op, .int .i64 d, .int .i64 a, .int .i64 b1, .int .i64 cc, .int .u32 n]) ∧
    Hid (Blk wx gr 60 #[.int .i64 dk, .int .i64 dn, .int .i64 ak, .int .i64 an, .int .i64 bk, .int .i64 bn, .slice Ab bef.length cb, .slice Aa aft.length ca]) ∧ Hid (Fr w wx))
  case first =>
    go_region
    · go_wp2
      go_meet
      refine ⟨_, _, rfl, rfl, ?_, ?_, (((Kept.refl _ w).alloc _).alloc _).drew⟩
      · show Blk ((w.alloc (.cells #[.int .i64 op, .int .i64 d, .int .i64 a, .int .i64 b1, .int .i64 cc, .int .u32 n] 45)).alloc (.cells #[.int .i64 dk, .int .i64 dn, .int .i64 ak, .int .i64 an, .int .i64 bk, .int .i64 bn, .slice Ab bef.length cb, .slice Aa aft.length ca] 60)) _ _ _
        exact (Blk.new w _ _).alloc _
      · have := Blk.new (w.alloc (.cells #[.int .i64 op, .int .i64 d, .int .i64 a, .int .i64 b1, .int .i64 cc, .int .u32 n] 45)) 60 #[.int .i64 dk, .int .i64 dn, .int .i64 ak, .int .i64 an, .int .i64 bk, .int .i64 bn, .slice Ab bef.length cb, .slice Aa aft.length ca]
        show Blk ((w.alloc (.cells #[.int .i64 op, .int .i64 d, .int .i64 a, .int .i64 b1, .int .i64 cc, .int .u32 n] 45)).alloc (.cells #[.int .i64 dk, .int .i64 dn, .int .i64 ak, .int .i64 an, .int .i64 bk, .int .i64 bn, .slice Ab bef.length cb, .slice Aa aft.length ca] 60)) _ _ _
        simpa using this
    · go_wp2
      go_meet
      refine ⟨_, _, rfl, rfl, ?_, ?_, (((Kept.refl _ w).alloc _).alloc _).drew⟩
      · have := Blk.new (w.alloc (.cells #[.int .i64 dk, .int .i64 dn, .int .i64 ak, .int .i64 an, .int .i64 bk, .int .i64 bn, .slice Ab bef.length cb, .slice Aa aft.length ca] 60)) 45 #[.int .i64 op, .int .i64 d, .int .i64 a, .int .i64 b1, .int .i64 cc, .int .u32 n]
        show Blk ((w.alloc (.cells #[.int .i64 dk, .int .i64 dn, .int .i64 ak, .int .i64 an, .int .i64 bk, .int .i64 bn, .slice Ab bef.length cb, .slice Aa aft.length ca] 60)).alloc (.cells #[.int .i64 op, .int .i64 d, .int .i64 a, .int .i64 b1, .int .i64 cc, .int .u32 n] 45)) _ _ _
        simpa using this
      · show Blk ((w.alloc (.cells #[.int .i64 dk, .int .i64 dn, .int .i64 ak, .int .i64 an, .int .i64 bk, .int .i64 bn, .slice Ab bef.length cb, .slice Aa aft.length ca] 60)).alloc (.cells #[.int .i64 op, .int .i64 d, .int .i64 a, .int .i64 b1, .int .i64 cc, .int .u32 n] 45)) _ _ _
        exact (Blk.new w _ _).alloc _
  case rest =>
    obtain ⟨gi, gr, rfl, rfl, HBi, HBr, HF⟩ := hcut
    have HC1 := Lib.hid (HC.out.fr_ HF.out)
    have HM1 := Lib.hid (HM.out.fr_ HF.out)
    have HBF1 := Lib.hid (HBF.out.kept HF.out (fun _ _ h => h))
    have HAF1 := Lib.hid (HAF.out.kept HF.out (fun _ _ h => h))
    have v0 := HC1.out.vb.cell 0
    have r6 := HBr.out.cell 6
    simp only [List.getElem?_toArray, List.getElem?_cons_succ, List.getElem?_cons_zero] at v0 r6
    have zv := HC1.out.vb.lt
    have zr := HBr.out.lt
    go_wp2_with fail
    refine (dMoves_any (fun b => b < B) bs s _ bef wc HC1.out.sb HS.out HBF1.out (fun b hb e => by omega) (by omega) HHF.out).mono ?_
    rintro e w1 ⟨rfl, hb1, k1, _⟩
    rw [H1.out] at hb1
    have HC2 := Lib.hid (HC1.out.put k1 hb1 hbs)
    have HM2 := Lib.hid (HC1.out.mc HM1.out hbs k1)
    have HBi2 := Lib.hid (HBi.out.kept k1 (HBi.out.ne_ HC1.out.sb (by decide)))
    have HBr2 := Lib.hid (HBr.out.kept k1 (HBr.out.ne_ HC1.out.sb (by decide)))
    have HAF2 := Lib.hid (HAF1.out.kept k1 (fun b hb e => by omega))
    have HKp : Hid (Kept (RunS bs g vo) w w1) := (HF.out.mono (fun i _ h => h.elim)).trans (k1.mono (fun i _ h => Or.inl h))
    clear v0 r6 zv zr HC HM HC1 HM1 HBi HBr HBF HBF1 HAF HAF1 HF k1 hb1 HS HHF
    have m0 := HC2.out.mb.cell 0
    have v0 := HC2.out.vb.cell 0
    have e0 := HBi2.out.cell 0
    have e1 := HBi2.out.cell 1
    have e2 := HBi2.out.cell 2
    have e3 := HBi2.out.cell 3
    have e4 := HBi2.out.cell 4
    have e5 := HBi2.out.cell 5
    have r2 := HBr2.out.cell 2
    have r3 := HBr2.out.cell 3
    have r4 := HBr2.out.cell 4
    have r5 := HBr2.out.cell 5
    simp only [List.getElem?_toArray, List.getElem?_cons_succ, List.getElem?_cons_zero] at m0 v0 e0 e1 e2 e3 e4 e5 r2 r3 r4 r5
    have HGT := Lib.hid (fun k n w2 (hf : Fr w1 w2) (hh : Has ⟨k, n⟩) => (dGet_any bs s1 ⟨k, n⟩ w2 (HC2.out.sb.kept hf (fun h => h)) HS1.out hh).mono (fun e w' (h : _ ∧ Fr w2 w') => And.intro h.1 (hf.trans h.2)))
    unfold PlaceV.val at HGT
    simp only at HGT
    have HDW := Lib.hid (fun w2 (hf : Fr w1 w2) => HD.out w2 (HM2.out.fr_ hf))
    have HCells : Hid (∀ w2, Fr w1 w2 → _) := fun w2 (hf : Fr w1 w2) => And.intro ((HC2.out.mb.kept hf (fun h => h)).cell 0) (And.intro ((HC2.out.vb.kept hf (fun h => h)).cell 0) (And.intro (HBi2.out.kept hf (fun h => h)) (HBr2.out.kept hf (fun h => h))))
    go_wp2
    go_region_held3 (fun w' => w'.cell? ⟨bm, 0, none⟩ = some (.pointer (some ⟨g, 0, none⟩)) ∧ w'.cell? ⟨bv, 0, none⟩ = some (.pointer (some ⟨bs, 0, none⟩)) ∧ w'.cell? ⟨gi, 0, none⟩ = some (.int .i64 op) ∧ w'.cell? ⟨gi, 1, none⟩ = some (.int .i64 d) ∧ w'.cell? ⟨gi, 2, none⟩ = some (.int .i64 a) ∧
        w'.cell? ⟨gi, 3, none⟩ = some (.int .i64 b1) ∧ w'.cell? ⟨gi, 4, none⟩ = some (.int .i64 cc) ∧ w'.cell? ⟨gi, 5, none⟩ = some (.int .u32 n) ∧
        w'.cell? ⟨gr, 2, none⟩ = some (.int .i64 ak) ∧ w'.cell? ⟨gr, 3, none⟩ = some (.int .i64 an) ∧ w'.cell? ⟨gr, 4, none⟩ = some (.int .i64 bk) ∧ w'.cell? ⟨gr, 5, none⟩ = some (.int .i64 bn))
      (first
        | go_keep
        | (go_split_ands
           have hc := HCells.out _ fa
           exact ⟨hc.1, hc.2.1, hc.2.2.1.cell 0, hc.2.2.1.cell 1, hc.2.2.1.cell 2, hc.2.2.1.cell 3, hc.2.2.1.cell 4, hc.2.2.1.cell 5, hc.2.2.2.cell 2, hc.2.2.2.cell 3, hc.2.2.2.cell 4, hc.2.2.2.cell 5⟩)
        | (go_split_ands
           have hC3 := HC2.out.keep HM2.out hg hk3
           have hI3 := HM2.out.blk hk3 HBi2.out (by decide) (by decide)
           have hR3 := HM2.out.blk hk3 HBr2.out (by decide) (by decide)
           exact ⟨hC3.mb.cell 0, hC3.vb.cell 0, hI3.cell 0, hI3.cell 1, hI3.cell 2, hI3.cell 3, hI3.cell 4, hI3.cell 5, hR3.cell 2, hR3.cell 3, hR3.cell 4, hR3.cell 5⟩))
      (first
        | (go_at_call 57; refine (HGT.out _ _ _ (by first | exact (Kept.refl _ w1).drew | exact fa) (by first | exact HHA.out | exact HHB.out)).mono ?_; rintro e wa ⟨rfl, fa⟩)
        | (go_at_call 42; refine (HDW.out _ fa).mono ?_; rintro e w3 ⟨v, rfl, hv, ⟨vo3, hm3⟩, hk9⟩; have hk3 : Kept (McS g vo) w1 w3 := (fa.mono (fun i _ h => h.elim)).trans hk9))
    all_goals
      rename_i hHeld
      obtain ⟨-, -, e0, e1, e2, e3, e4, e5, -, -, -, -⟩ := hHeld
      have hBB : ∀ b, b < B → ¬ McS g vo b := fun b hb e => by
        rcases e with e | e
        · omega
        · have := (own_lt HM2.out.ow e).1; omega
      have HC3 := Lib.hid (HC2.out.keep HM2.out hg hk3)
      have HI3 := Lib.hid (HM2.out.blk hk3 HBi2.out (by decide) (by decide))
      have HR3 := Lib.hid (HM2.out.blk hk3 HBr2.out (by decide) (by decide))
      have HAF3 := Lib.hid (HAF2.out.kept hk3 hBB)
      have HM3 := Lib.hid hm3
      have HV := Lib.hid hv
      have HK3 := Lib.hid (HKp.out.trans (hk3.mono (fun i _ h => (Or.inr h : RunS bs g vo i))))
      have z3 := HI3.out.lt
      clear hm3 hv hk3 hk9 fa hBB HDW HCells HGT HC2 HM2 HBi2 HBr2 HAF2 HKp HD m0 v0 r2 r3 r4 r5
      have HVR := Lib.hid (fun hgv => giveV_num (i := ⟨op, d, a, b1, cc, n⟩) HK.out hgv hga hgb H5.out hn hxr)
      cases hgv : gvs op with
      | false =>
        rw [hgv] at HG
        clear HV HVR
        go_wp2_with fail
        refine (HG.out _).mono ?_
        rintro e w4 ⟨rfl, f4⟩
        have HC4 := Lib.hid (HC3.out.fr_ f4)
        have HM4 := Lib.hid (HM3.out.fr_ f4)
        have HR4 := Lib.hid (HR3.out.kept f4 (fun h => h))
        have HAF4 := Lib.hid (HAF3.out.kept f4 (fun _ _ h => h))
        have HK4 := Lib.hid (HK3.out.trans (f4.mono (fun i _ h => h.elim)))
        have v0 := HC4.out.vb.cell 0
        have r7 := HR4.out.cell 7
        simp only [List.getElem?_toArray, List.getElem?_cons_succ, List.getElem?_cons_zero] at v0 r7
        clear f4 HC3 HM3 HI3 HR3 HAF3 HK3 e0 e1 e2 e3 e4 e5 z3
        go_wp2_with fail
        refine (dMoves_any (fun b => b < B) bs s1 _ aft w4 HC4.out.sb HS1.out HAF4.out (fun b hb e => by omega) (by omega) HHT.out).mono ?_
        rintro e w5 ⟨rfl, hb5, k5, _⟩
        have HN := Lib.hid (And.intro (show (∃ vo', Mc w5 g B _ vo') from ⟨vo3, HC4.out.mc HM4.out hbs k5⟩) (And.intro (HC4.out.put k5 hb5 hbs) (HK4.out.trans (k5.mono (fun i _ h => (Or.inl h : RunS bs g vo i))))))
        clear hb5 k5 HC4 HM4 HR4 HAF4 HK4 v0 r7
        go_wp2
        all_goals
          go_end0
          exact ⟨rfl, HN.out.1, HN.out.2.1, HN.out.2.2⟩
      | true =>
        have hV := HV.out hgv
        have hVR := HVR.out hgv
        rw [hgv] at HG
        rw [← hV] at hVR
        have HVE := Lib.hid hV
        clear HV HVR hV
        go_wp2_with fail
        refine (HG.out _).mono ?_
        rintro e w4 ⟨rfl, f4⟩
        have HC4 := Lib.hid (HC3.out.fr_ f4)
        have HM4 := Lib.hid (HM3.out.fr_ f4)
        have HR4 := Lib.hid (HR3.out.kept f4 (fun h => h))
        have HAF4 := Lib.hid (HAF3.out.kept f4 (fun _ _ h => h))
        have HK4 := Lib.hid (HK3.out.trans (f4.mono (fun i _ h => h.elim)))
        have v0 := HC4.out.vb.cell 0
        have r0 := HR4.out.cell 0
        have r1 := HR4.out.cell 1
        simp only [List.getElem?_toArray, List.getElem?_cons_succ, List.getElem?_cons_zero] at v0 r0 r1
        clear f4 HC3 HM3 HI3 HR3 HAF3 HK3 e0 e1 e2 e3 e4 e5 z3
        go_wp2_with fail
        refine (dPut_any bs s1 ⟨dk, dn⟩ v w4 HC4.out.sb HHD.out hVR).mono ?_
        rintro e w5 ⟨rfl, hb5, k5⟩
        have HC5 := Lib.hid (HC4.out.put k5 hb5 hbs)
        have HM5 := Lib.hid (HC4.out.mc HM4.out hbs k5)
        have HR5 := Lib.hid (HR4.out.kept k5 (HR4.out.ne_ HC4.out.sb (by decide)))
        have HAF5 := Lib.hid (HAF4.out.kept k5 (fun b hb e => by omega))
        have HK5 := Lib.hid (HK4.out.trans (k5.mono (fun i _ h => (Or.inl h : RunS bs g vo i))))
        have v0 := HC5.out.vb.cell 0
        have r7 := HR5.out.cell 7
        simp only [List.getElem?_toArray, List.getElem?_cons_succ, List.getElem?_cons_zero] at v0 r7
        clear hb5 k5 HC4 HM4 HR4 HAF4 HK4
        go_wp2_with fail
        refine (dMoves_any (fun b => b < B) bs (putS s1 ⟨dk, dn⟩ v) _ aft w5 HC5.out.sb (HS1.out.put _ hVR) HAF5.out (fun b hb e => by omega) (by omega) HHT.out).mono ?_
        rintro e w6 ⟨rfl, hb6, k6, _⟩
        have HN := Lib.hid (And.intro (show (∃ vo', Mc w6 g B _ vo') from ⟨vo3, HC5.out.mc HM5.out hbs k6⟩) (And.intro (HC5.out.put k6 hb6 hbs) (HK5.out.trans (k6.mono (fun i _ h => (Or.inl h : RunS bs g vo i))))))
        clear hb6 k6 HC5 HM5 HR5 HAF5 HK5 v0 r7
        go_wp2
        go_end0
        refine ⟨rfl, HN.out.1, ?_, HN.out.2.2⟩
        rw [← HVE.out]
        exact HN.out.2.1
end Go.Proofs.Ytodmkjeankbieab
