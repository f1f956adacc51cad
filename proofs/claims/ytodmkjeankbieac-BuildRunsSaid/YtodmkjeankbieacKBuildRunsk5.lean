/- Done1, Place2: texts of this claim, packed into one file. -/
import Derived.Test.YtodmkjeankbieacKBuildRunsk4
import Derived.Test.YtodmkjeankbieacKBuildRunsk3
import Derived.Test.YtodmkjeankbieacKBuildRunsk0
import Derived.Deep.Cut
import Derived.Deep.CutRange
/- The walk of the closure of done.Run: one instruction, in its places. -/
namespace Go.Proofs.Ytodmkjeankbieac
open Go.RowKit Go.Sort

/-- what the closure captures: the program's variable, the places', the store's, the machine's -/
structure DClo (w : World) (bp bl bv bm bs g B : Nat) (p : Pg) (A1 : Option Addr) (c1 : Nat) (A : Option Addr) (c : Nat) (sl : Int) (Al : Option Addr) (cl : Nat) (lv : List RwV) (s : Sto) : Prop where
  pb : Blk w bp 25 #[.slice A1 p.wide.length c1, .slice A p.code.length c]
  lb : Blk w bl 31 #[.int .i64 sl, .slice Al lv.length cl]
  vb : Blk w bv 70 #[.pointer (some ⟨bs, 0, none⟩)]
  mb : Blk w bm 60 #[.pointer (some ⟨g, 0, none⟩)]
  sb : Blk w bs 73 (stC s)
  rd : Reads w (fun b => b < B) 6 A p.code.length (p.code.flatMap In.cells)
  rl : Reads w (fun b => b < B) 8 Al lv.length (lv.flatMap RwV.cells)
  ro : ∀ x ∈ lv, x.ok w (fun b => b < B)
section
variable {w w' : World} {bp bl bv bm bs g B : Nat} {p : Pg} {A1 : Option Addr} {c1 : Nat} {A : Option Addr} {c : Nat} {sl : Int} {Al : Option Addr} {cl : Nat} {lv : List RwV} {s s' : Sto}
theorem DClo.fr_ (h : DClo w bp bl bv bm bs g B p A1 c1 A c sl Al cl lv s) (hk : Fr w w') : DClo w' bp bl bv bm bs g B p A1 c1 A c sl Al cl lv s :=
  ⟨h.pb.kept hk (fun h => h), h.lb.kept hk (fun h => h), h.vb.kept hk (fun h => h), h.mb.kept hk (fun h => h), h.sb.kept hk (fun h => h), h.rd.kept hk (fun _ _ h => h), h.rl.kept hk (fun _ _ h => h), fun x hx => (h.ro x hx).kept hk (fun _ _ h => h)⟩
theorem DClo.put (h : DClo w bp bl bv bm bs g B p A1 c1 A c sl Al cl lv s) (hk : Kept (fun b => b = bs) w w') (hb : Blk w' bs 73 (stC s')) (hbs : B ≤ bs) : DClo w' bp bl bv bm bs g B p A1 c1 A c sl Al cl lv s' :=
  ⟨h.pb.kept hk (h.pb.ne_ h.sb (by decide)), h.lb.kept hk (h.lb.ne_ h.sb (by decide)), h.vb.kept hk (h.vb.ne_ h.sb (by decide)), h.mb.kept hk (h.mb.ne_ h.sb (by decide)), hb,
    h.rd.kept hk (fun b hb e => by omega), h.rl.kept hk (fun b hb e => by omega), fun x hx => (h.ro x hx).kept hk (fun b hb e => by omega)⟩
theorem DClo.keep {r : Sh} {vo : Value} (h : DClo w bp bl bv bm bs g B p A1 c1 A c sl Al cl lv s) (hm : Mc w g B r vo) (hg : B ≤ g) (hk : Kept (McS g vo) w w') : DClo w' bp bl bv bm bs g B p A1 c1 A c sl Al cl lv s := by
  have hB : ∀ b, b < B → ¬ McS g vo b := fun b hb e => by
    rcases e with e | e
    · omega
    · have := (own_lt hm.ow e).1; omega
  exact ⟨hm.blk hk h.pb (by decide) (by decide), hm.blk hk h.lb (by decide) (by decide), hm.blk hk h.vb (by decide) (by decide), hm.blk hk h.mb (by decide) (by decide), hm.blk hk h.sb (by decide) (by decide),
    h.rd.kept hk hB, h.rl.kept hk hB, fun x hx => (h.ro x hx).kept hk hB⟩
theorem DClo.mc {r : Sh} {vo : Value} (h : DClo w bp bl bv bm bs g B p A1 c1 A c sl Al cl lv s) (hm : Mc w g B r vo) (hbs : B ≤ bs) (hk : Kept (fun b => b = bs) w w') : Mc w' g B r vo := by
  obtain ⟨_, _, hb, _⟩ := hm.ex
  exact hm.kept hk (fun e => hb.ne_ h.sb (by decide) e) (fun k hk e => own_blk_ne hm.ow h.sb (by decide) (e ▸ hk)) (fun b hb e => by omega)
end

set_option maxHeartbeats 4000000 in
set_option maxRecDepth 100000 in
theorem Done1_any (bp bl bv bm bs g B : Nat) (p : Pg) (A1 : Option Addr) (c1 : Nat) (A : Option Addr) (c : Nat) (sl : Int) (Al : Option Addr) (cl : Nat) (lv : List RwV) (s : Sto) (r : Sh) (vo : Value) (w : World)
    (hC : DClo w bp bl bv bm bs g B p A1 c1 A c sl Al cl lv s) (hS : StOk s) (hM : Mc w g B r vo) (hg : B ≤ g) (hbs : B ≤ bs) (hpc : r.pc < p.code.length) (hlv : lv.length = p.code.length) (hcl : p.code.length ≤ 40)
    (hk : known (inAt p.code r.pc).op = true) (hn : (inAt p.code r.pc).n < 4294967296) (hc0 : 0 ≤ (inAt p.code r.pc).c) (y : RwV) (hy : lv[r.pc]? = some y) (hh : RwHas y.r)
    (h5 : (inAt p.code r.pc).op = 5 → getS (movesS s y.r.before) y.r.a < 4294967296 ∧ getS (movesS s y.r.before) y.r.b < 4294967296)
    (hs : r.steps ≤ 100000) (ho : r.out.length ≤ 100000) (hi : ∀ n ∈ r.ins, 0 ≤ n ∧ n < 4294967296) :
    Calls Try.prog 21 #[.int .i64 (r.pc : Int), .pointer (some ⟨bp, 0, none⟩), .pointer (some ⟨bl, 0, none⟩), .pointer (some ⟨bv, 0, none⟩), .pointer (some ⟨bm, 0, none⟩)] w fun e w' => e = .returned (.tuple #[]) ∧
      (∃ vo', Mc w' g B (rawStep r (inAt p.code r.pc) (getS (movesS s y.r.before) y.r.a)) vo') ∧
      DClo w' bp bl bv bm bs g B p A1 c1 A c sl Al cl lv (movesS (if gvs (inAt p.code r.pc).op then putS (movesS s y.r.before) y.r.d (giveV (inAt p.code r.pc) (getS (movesS s y.r.before) y.r.a) (getS (movesS s y.r.before) y.r.b) (r.ins.headD 0)) else movesS s y.r.before) y.r.after) ∧ Kept (RunS bs g vo) w w' := by
  have hx : p.code[r.pc]? = some (inAt p.code r.pc) := by rw [inAt_get hpc]; exact List.getElem?_eq_getElem hpc
  obtain ⟨b, off, rfl, hbB, d0, d1, d2, d3, d4, d5⟩ := hC.rd.ins hx
  obtain ⟨b2, off2, rfl, hbB2, k0, k1, k2, k3, k4, k5, k6, k7⟩ := hC.rl.rw hy
  obtain ⟨hyd, hya, hyb, rbf, raf⟩ := hC.ro y (List.mem_of_getElem? hy)
  clear hx hy
  generalize inAt p.code r.pc = i at *
  obtain ⟨op, d, a, b1, cc, n⟩ := i
  obtain ⟨⟨⟨dk, dn⟩, ⟨ak, an⟩, ⟨bk, bn⟩, bef, aft⟩, vb, va⟩ := y
  simp only at *
  obtain ⟨hhd, hha, hhb, hhf, hht, hlf, hlt⟩ := hh
  simp only at hhd hha hhb hhf hht hlf hlt
  obtain ⟨Ab, cb, rfl, _⟩ := id rbf
  obtain ⟨Aa, ca, rfl, _⟩ := id raf
  have p0 := hC.pb.cell 1
  have l0 := hC.lb.cell 1
  have v0 := hC.vb.cell 0
  simp only [List.getElem?_toArray, List.getElem?_cons_succ, List.getElem?_cons_zero] at p0 l0 v0
  have zb := cell_lt d0
  have zb2 := cell_lt k0
  have zp := hC.pb.lt
  have zl := hC.lb.lt
  have zv := hC.vb.lt
  have hp0 : (0 : Int) ≤ (r.pc : Int) := Int.natCast_nonneg _
  have hp1 : (r.pc : Int) < (p.code.length : Int) := by omega
  have hp2 : (r.pc : Int) < (lv.length : Int) := by omega
  have HC := Lib.hid hC
  have HM := Lib.hid hM
  have H5 := Lib.hid h5
  have HK := Lib.hid hk
  have HI := Lib.hid hi
  have HS := Lib.hid hS
  have HBF := Lib.hid rbf
  have HAF := Lib.hid raf
  have HHD := Lib.hid hhd
  have HHA := Lib.hid hha
  have HHB := Lib.hid hhb
  have HHF := Lib.hid hhf
  have HHT := Lib.hid hht
  have HS1 := Lib.hid (hS.moves hhf)
  clear hC hM h5 hk hi hS rbf raf hhd hha hhb hhf hht hyd hya hyb
  have hga := HS1.out.get ⟨ak, an⟩
  have hgb := HS1.out.get ⟨bk, bn⟩
  have HD := Lib.hid (fun w (hm : Mc w g B r vo) => Do_any g B r vo ⟨op, d, a, b1, cc, n⟩ (getS (movesS s bef) ⟨ak, an⟩) (getS (movesS s bef) ⟨bk, bn⟩) w hm hg HK.out hn hga hgb H5.out hs ho (by omega) (fun _ => hc0) HI.out)
  have HG := Lib.hid (fun w => Gives_any ⟨op, d, a, b1, cc, n⟩ w HK.out)
  unfold In.val at HD HG
  simp only at HD HG
  obtain ⟨pc, ins, out, steps, state⟩ := r
  simp only at *
  have hxr := head_num HI.out
  generalize ins.headD 0 = xh at *
  generalize hs1 : movesS s bef = s1 at *
  have H1 := Lib.hid hs1
  clear hs1
  go_enter Try.func21, Try.ntmps21
  go_upto_region 0 with (fail)
  go_cut [6, 7] from 9 to 18 (fun p6 p7 wx => ∃ gi gr : Nat, p6 = .pointer (some ⟨gi, 0, none⟩) ∧ p7 = .pointer (some ⟨gr, 0, none⟩) ∧ Hid (Blk wx gi 66 #[.int .i64 op, .int .i64 d, .int .i64 a, .int .i64 b1, .int .i64 cc, .int .u32 n]) ∧
    Hid (Blk wx gr 78 #[.int .i64 dk, .int .i64 dn, .int .i64 ak, .int .i64 an, .int .i64 bk, .int .i64 bn, .slice Ab bef.length cb, .slice Aa aft.length ca]) ∧ Hid (Fr w wx))
  case first =>
    go_region
    · go_wp2
      go_meet
      refine ⟨_, _, rfl, rfl, ?_, ?_, (((Kept.refl _ w).alloc _).alloc _).drew⟩
      · show Blk ((w.alloc (.cells #[.int .i64 op, .int .i64 d, .int .i64 a, .int .i64 b1, .int .i64 cc, .int .u32 n] 66)).alloc (.cells #[.int .i64 dk, .int .i64 dn, .int .i64 ak, .int .i64 an, .int .i64 bk, .int .i64 bn, .slice Ab bef.length cb, .slice Aa aft.length ca] 78)) _ _ _
        exact (Blk.new w _ _).alloc _
      · have := Blk.new (w.alloc (.cells #[.int .i64 op, .int .i64 d, .int .i64 a, .int .i64 b1, .int .i64 cc, .int .u32 n] 66)) 78 #[.int .i64 dk, .int .i64 dn, .int .i64 ak, .int .i64 an, .int .i64 bk, .int .i64 bn, .slice Ab bef.length cb, .slice Aa aft.length ca]
        show Blk ((w.alloc (.cells #[.int .i64 op, .int .i64 d, .int .i64 a, .int .i64 b1, .int .i64 cc, .int .u32 n] 66)).alloc (.cells #[.int .i64 dk, .int .i64 dn, .int .i64 ak, .int .i64 an, .int .i64 bk, .int .i64 bn, .slice Ab bef.length cb, .slice Aa aft.length ca] 78)) _ _ _
        simpa using this
    · go_wp2
      go_meet
      refine ⟨_, _, rfl, rfl, ?_, ?_, (((Kept.refl _ w).alloc _).alloc _).drew⟩
      · have := Blk.new (w.alloc (.cells #[.int .i64 dk, .int .i64 dn, .int .i64 ak, .int .i64 an, .int .i64 bk, .int .i64 bn, .slice Ab bef.length cb, .slice Aa aft.length ca] 78)) 66 #[.int .i64 op, .int .i64 d, .int .i64 a, .int .i64 b1, .int .i64 cc, .int .u32 n]
        show Blk ((w.alloc (.cells #[.int .i64 dk, .int .i64 dn, .int .i64 ak, .int .i64 an, .int .i64 bk, .int .i64 bn, .slice Ab bef.length cb, .slice Aa aft.length ca] 78)).alloc (.cells #[.int .i64 op, .int .i64 d, .int .i64 a, .int .i64 b1, .int .i64 cc, .int .u32 n] 66)) _ _ _
        simpa using this
      · show Blk ((w.alloc (.cells #[.int .i64 dk, .int .i64 dn, .int .i64 ak, .int .i64 an, .int .i64 bk, .int .i64 bn, .slice Ab bef.length cb, .slice Aa aft.length ca] 78)).alloc (.cells #[.int .i64 op, .int .i64 d, .int .i64 a, .int .i64 b1, .int .i64 cc, .int .u32 n] 66)) _ _ _
        exact (Blk.new w _ _).alloc _
  case rest =>
    obtain ⟨gi, gr, rfl, rfl, HBi, HBr, HF⟩ := hcut
    have HC1 := Lib.hid (HC.out.fr_ HF.out)
    have HM1 := Lib.hid (HM.out.fr_ HF.out)
    have HBF1 := Lib.hid (HBF.out.kept HF.out (fun _ _ h => h))
    have HAF1 := Lib.hid (HAF.out.kept HF.out (fun _ _ h => h))
    have v0 := HC1.out.vb.cell 0
    have r6 := HBr.out.cell 6
    simp only [List.getElem?_toArray, List.getElem?_cons_succ, List.getElem?_cons_zero] at v0 r6
    have zv := HC1.out.vb.lt
    have zr := HBr.out.lt
    go_wp2_with fail
    refine (dMoves_any (fun b => b < B) bs s _ bef wc HC1.out.sb HS.out HBF1.out (fun b hb e => by omega) (by omega) HHF.out).mono ?_
    rintro e w1 ⟨rfl, hb1, k1, _⟩
    rw [H1.out] at hb1
    have HC2 := Lib.hid (HC1.out.put k1 hb1 hbs)
    have HM2 := Lib.hid (HC1.out.mc HM1.out hbs k1)
    have HBi2 := Lib.hid (HBi.out.kept k1 (HBi.out.ne_ HC1.out.sb (by decide)))
    have HBr2 := Lib.hid (HBr.out.kept k1 (HBr.out.ne_ HC1.out.sb (by decide)))
    have HAF2 := Lib.hid (HAF1.out.kept k1 (fun b hb e => by omega))
    have HKp : Hid (Kept (RunS bs g vo) w w1) := (HF.out.mono (fun i _ h => h.elim)).trans (k1.mono (fun i _ h => Or.inl h))
    clear v0 r6 zv zr HC HM HC1 HM1 HBi HBr HBF HBF1 HAF HAF1 HF k1 hb1 HS HHF
    have m0 := HC2.out.mb.cell 0
    have v0 := HC2.out.vb.cell 0
    have e0 := HBi2.out.cell 0
    have e1 := HBi2.out.cell 1
    have e2 := HBi2.out.cell 2
    have e3 := HBi2.out.cell 3
    have e4 := HBi2.out.cell 4
    have e5 := HBi2.out.cell 5
    have r2 := HBr2.out.cell 2
    have r3 := HBr2.out.cell 3
    have r4 := HBr2.out.cell 4
    have r5 := HBr2.out.cell 5
    simp only [List.getElem?_toArray, List.getElem?_cons_succ, List.getElem?_cons_zero] at m0 v0 e0 e1 e2 e3 e4 e5 r2 r3 r4 r5
    have HGT := Lib.hid (fun k n w2 (hf : Fr w1 w2) (hh : Has ⟨k, n⟩) => (dGet_any bs s1 ⟨k, n⟩ w2 (HC2.out.sb.kept hf (fun h => h)) HS1.out hh).mono (fun e w' (h : _ ∧ Fr w2 w') => And.intro h.1 (hf.trans h.2)))
    unfold PlaceV.val at HGT
    simp only at HGT
    have HDW := Lib.hid (fun w2 (hf : Fr w1 w2) => HD.out w2 (HM2.out.fr_ hf))
    have HCells : Hid (∀ w2, Fr w1 w2 → _) := fun w2 (hf : Fr w1 w2) => And.intro ((HC2.out.mb.kept hf (fun h => h)).cell 0) (And.intro ((HC2.out.vb.kept hf (fun h => h)).cell 0) (And.intro (HBi2.out.kept hf (fun h => h)) (HBr2.out.kept hf (fun h => h))))
    go_wp2
    go_region_held3 (fun w' => w'.cell? ⟨bm, 0, none⟩ = some (.pointer (some ⟨g, 0, none⟩)) ∧ w'.cell? ⟨bv, 0, none⟩ = some (.pointer (some ⟨bs, 0, none⟩)) ∧ w'.cell? ⟨gi, 0, none⟩ = some (.int .i64 op) ∧ w'.cell? ⟨gi, 1, none⟩ = some (.int .i64 d) ∧ w'.cell? ⟨gi, 2, none⟩ = some (.int .i64 a) ∧
        w'.cell? ⟨gi, 3, none⟩ = some (.int .i64 b1) ∧ w'.cell? ⟨gi, 4, none⟩ = some (.int .i64 cc) ∧ w'.cell? ⟨gi, 5, none⟩ = some (.int .u32 n) ∧
        w'.cell? ⟨gr, 2, none⟩ = some (.int .i64 ak) ∧ w'.cell? ⟨gr, 3, none⟩ = some (.int .i64 an) ∧ w'.cell? ⟨gr, 4, none⟩ = some (.int .i64 bk) ∧ w'.cell? ⟨gr, 5, none⟩ = some (.int .i64 bn))
      (first
        | go_keep
        | (go_split_ands
           have hc := HCells.out _ fa
           exact ⟨hc.1, hc.2.1, hc.2.2.1.cell 0, hc.2.2.1.cell 1, hc.2.2.1.cell 2, hc.2.2.1.cell 3, hc.2.2.1.cell 4, hc.2.2.1.cell 5, hc.2.2.2.cell 2, hc.2.2.2.cell 3, hc.2.2.2.cell 4, hc.2.2.2.cell 5⟩)
        | (go_split_ands
           have hC3 := HC2.out.keep HM2.out hg hk3
           have hI3 := HM2.out.blk hk3 HBi2.out (by decide) (by decide)
           have hR3 := HM2.out.blk hk3 HBr2.out (by decide) (by decide)
           exact ⟨hC3.mb.cell 0, hC3.vb.cell 0, hI3.cell 0, hI3.cell 1, hI3.cell 2, hI3.cell 3, hI3.cell 4, hI3.cell 5, hR3.cell 2, hR3.cell 3, hR3.cell 4, hR3.cell 5⟩))
      (first
        | (go_at_call 23; refine (HGT.out _ _ _ (by first | exact (Kept.refl _ w1).drew | exact fa) (by first | exact HHA.out | exact HHB.out)).mono ?_; rintro e wa ⟨rfl, fa⟩)
        | (go_at_call 18; refine (HDW.out _ fa).mono ?_; rintro e w3 ⟨v, rfl, hv, ⟨vo3, hm3⟩, hk9⟩; have hk3 : Kept (McS g vo) w1 w3 := (fa.mono (fun i _ h => h.elim)).trans hk9))
    all_goals
      rename_i hHeld
      obtain ⟨-, -, e0, e1, e2, e3, e4, e5, -, -, -, -⟩ := hHeld
      have hBB : ∀ b, b < B → ¬ McS g vo b := fun b hb e => by
        rcases e with e | e
        · omega
        · have := (own_lt HM2.out.ow e).1; omega
      have HC3 := Lib.hid (HC2.out.keep HM2.out hg hk3)
      have HI3 := Lib.hid (HM2.out.blk hk3 HBi2.out (by decide) (by decide))
      have HR3 := Lib.hid (HM2.out.blk hk3 HBr2.out (by decide) (by decide))
      have HAF3 := Lib.hid (HAF2.out.kept hk3 hBB)
      have HM3 := Lib.hid hm3
      have HV := Lib.hid hv
      have HK3 := Lib.hid (HKp.out.trans (hk3.mono (fun i _ h => (Or.inr h : RunS bs g vo i))))
      have z3 := HI3.out.lt
      clear hm3 hv hk3 hk9 fa hBB HDW HCells HGT HC2 HM2 HBi2 HBr2 HAF2 HKp HD m0 v0 r2 r3 r4 r5
      have HVR := Lib.hid (fun hgv => giveV_num (i := ⟨op, d, a, b1, cc, n⟩) HK.out hgv hga hgb H5.out hn hxr)
      cases hgv : gvs op with
      | false =>
        rw [hgv] at HG
        clear HV HVR
        go_wp2_with fail
        refine (HG.out _).mono ?_
        rintro e w4 ⟨rfl, f4⟩
        have HC4 := Lib.hid (HC3.out.fr_ f4)
        have HM4 := Lib.hid (HM3.out.fr_ f4)
        have HR4 := Lib.hid (HR3.out.kept f4 (fun h => h))
        have HAF4 := Lib.hid (HAF3.out.kept f4 (fun _ _ h => h))
        have HK4 := Lib.hid (HK3.out.trans (f4.mono (fun i _ h => h.elim)))
        have v0 := HC4.out.vb.cell 0
        have r7 := HR4.out.cell 7
        simp only [List.getElem?_toArray, List.getElem?_cons_succ, List.getElem?_cons_zero] at v0 r7
        clear f4 HC3 HM3 HI3 HR3 HAF3 HK3 e0 e1 e2 e3 e4 e5 z3
        go_wp2_with fail
        refine (dMoves_any (fun b => b < B) bs s1 _ aft w4 HC4.out.sb HS1.out HAF4.out (fun b hb e => by omega) (by omega) HHT.out).mono ?_
        rintro e w5 ⟨rfl, hb5, k5, _⟩
        have HN := Lib.hid (And.intro (show (∃ vo', Mc w5 g B _ vo') from ⟨vo3, HC4.out.mc HM4.out hbs k5⟩) (And.intro (HC4.out.put k5 hb5 hbs) (HK4.out.trans (k5.mono (fun i _ h => (Or.inl h : RunS bs g vo i))))))
        clear hb5 k5 HC4 HM4 HR4 HAF4 HK4 v0 r7
        go_wp2
        all_goals
          go_end0
          exact ⟨rfl, HN.out.1, HN.out.2.1, HN.out.2.2⟩
      | true =>
        have hV := HV.out hgv
        have hVR := HVR.out hgv
        rw [hgv] at HG
        rw [← hV] at hVR
        have HVE := Lib.hid hV
        clear HV HVR hV
        go_wp2_with fail
        refine (HG.out _).mono ?_
        rintro e w4 ⟨rfl, f4⟩
        have HC4 := Lib.hid (HC3.out.fr_ f4)
        have HM4 := Lib.hid (HM3.out.fr_ f4)
        have HR4 := Lib.hid (HR3.out.kept f4 (fun h => h))
        have HAF4 := Lib.hid (HAF3.out.kept f4 (fun _ _ h => h))
        have HK4 := Lib.hid (HK3.out.trans (f4.mono (fun i _ h => h.elim)))
        have v0 := HC4.out.vb.cell 0
        have r0 := HR4.out.cell 0
        have r1 := HR4.out.cell 1
        simp only [List.getElem?_toArray, List.getElem?_cons_succ, List.getElem?_cons_zero] at v0 r0 r1
        clear f4 HC3 HM3 HI3 HR3 HAF3 HK3 e0 e1 e2 e3 e4 e5 z3
        go_wp2_with fail
        refine (dPut_any bs s1 ⟨dk, dn⟩ v w4 HC4.out.sb HHD.out hVR).mono ?_
        rintro e w5 ⟨rfl, hb5, k5⟩
        have HC5 := Lib.hid (HC4.out.put k5 hb5 hbs)
        have HM5 := Lib.hid (HC4.out.mc HM4.out hbs k5)
        have HR5 := Lib.hid (HR4.out.kept k5 (HR4.out.ne_ HC4.out.sb (by decide)))
        have HAF5 := Lib.hid (HAF4.out.kept k5 (fun b hb e => by omega))
        have HK5 := Lib.hid (HK4.out.trans (k5.mono (fun i _ h => (Or.inl h : RunS bs g vo i))))
        have v0 := HC5.out.vb.cell 0
        have r7 := HR5.out.cell 7
        simp only [List.getElem?_toArray, List.getElem?_cons_succ, List.getElem?_cons_zero] at v0 r7
        clear hb5 k5 HC4 HM4 HR4 HAF4 HK4
        go_wp2_with fail
        refine (dMoves_any (fun b => b < B) bs (putS s1 ⟨dk, dn⟩ v) _ aft w5 HC5.out.sb (HS1.out.put _ hVR) HAF5.out (fun b hb e => by omega) (by omega) HHT.out).mono ?_
        rintro e w6 ⟨rfl, hb6, k6, _⟩
        have HN := Lib.hid (And.intro (show (∃ vo', Mc w6 g B _ vo') from ⟨vo3, HC5.out.mc HM5.out hbs k6⟩) (And.intro (HC5.out.put k6 hb6 hbs) (HK5.out.trans (k6.mono (fun i _ h => (Or.inl h : RunS bs g vo i))))))
        clear hb6 k6 HC5 HM5 HR5 HAF5 HK5 v0 r7
        go_wp2
        go_end0
        refine ⟨rfl, HN.out.1, ?_, HN.out.2.2⟩
        rw [← HVE.out]
        exact HN.out.2.1
end Go.Proofs.Ytodmkjeankbieac

/- The walks of package place: moves, row, May. -/
namespace Go.Proofs.Ytodmkjeankbieac
open Go.RowKit Go.Sort

def mvTo (sg sl : Int) (l : List Mv) (k : Nat) : Prop := (l.take k).all (mvB sg sl) = true
theorem mvTo_s {sg sl : Int} {l : List Mv} {k : Nat} {m : Mv} (h : mvTo sg sl l k) (hm : l[k]? = some m) (hf : mvB sg sl m = true) : mvTo sg sl l (k + 1) := by
  unfold mvTo at *
  rw [List.take_add_one, List.all_append, h, hm]
  simp [hf]
theorem mvTo_no {sg sl : Int} {l : List Mv} {k : Nat} {m : Mv} (hm : l[k]? = some m) (hf : mvB sg sl m = false) : mvsB sg sl l = false := by
  unfold mvsB
  rw [show l.all (mvB sg sl) = false from by rw [List.all_eq_false]; exact ⟨m, List.mem_of_getElem? hm, by rw [hf]; decide⟩]
  rfl
theorem mvTo_all {sg sl : Int} {l : List Mv} (h : mvTo sg sl l l.length) : mvsB sg sl l = decide ((l.length : Int) ≤ 6) := by
  unfold mvTo at h
  rw [List.take_length] at h
  unfold mvsB
  rw [h, Bool.true_and, decide_eq_decide]
  omega

set_option maxHeartbeats 1000000 in
set_option maxRecDepth 100000 in
theorem moves_any' (R : Nat → Prop) (v : Value) (l : List Mv) (sg sl : Int) (w : World) (h : RdMv w R v l) (h4 : 4 ≤ sg) (h16 : sg ≤ 16) :
    Calls Try.prog 59 #[tgV sg, .int .i64 sl, v] w fun e w' => e = .returned (.bool (mvsB sg sl l)) ∧ Fr w w' := by
  obtain ⟨A, c, rfl, hl, hr, ho⟩ := h
  have HR := Lib.hid hr
  unfold maxLen at hl
  clear hr ho
  unfold tgV
  have HF0 := Lib.hid (show Fr w (w.alloc (.cells #[.int .i64 sg] 27)) from (Kept.refl _ w).alloc _)
  have HB0 := Lib.hid (Blk.new w 27 #[.int .i64 sg])
  have HM := Lib.hid (fun m w => move_any sg sl m w h4 h16)
  unfold tgV at HM
  go_enter Try.func59, Try.ntmps59
  go_wp2
  go_loopw [11] (fun i wr => ∃ k : Nat, k ≤ l.length ∧ i = .int .i64 k ∧ Hid (mvTo sg sl l k) ∧ Hid (Blk wr w.heap.size 27 #[.int .i64 sg]) ∧ Hid (Fr w wr)) (fun i _ => l.length - (intOf i).toNat)
  case atStart => exact ⟨0, by omega, rfl, rfl, HB0, HF0⟩
  case round =>
    obtain ⟨k, hk, rfl, hto, hb, hf⟩ := hrel
    have t0 := hb.out.cell 0
    have z0 := hb.out.lt
    simp only [List.getElem?_toArray, List.getElem?_cons_succ, List.getElem?_cons_zero] at t0
    by_cases hlt : k < l.length
    · have hx : l[k]? = some l[k] := List.getElem?_eq_getElem hlt
      obtain ⟨b, off, rfl, _, d0, d1, d2, d3, d4, d5⟩ := (HR.out.kept hf.out (fun _ _ h => h)).mv hx
      have HX := Lib.hid hx
      have hk0 : (0 : Int) ≤ (k : Int) := Int.natCast_nonneg _
      have hk1 : (k : Int) < (l.length : Int) := by omega
      clear hx
      generalize l[k] = m at *
      have HMm := Lib.hid (HM.out m)
      have zb := cell_lt d0
      obtain ⟨⟨tk, tn⟩, ⟨fk, fn⟩, cb, n⟩ := m
      unfold Mv.value at HMm
      simp only at *
      have HFA := Lib.hid (hf.out.alloc (.cells #[.int .i64 tk, .int .i64 tn, .int .i64 fk, .int .i64 fn, .bool cb, .int .u32 n] 101))
      have HBA := Lib.hid (hb.out.alloc (.cells #[.int .i64 tk, .int .i64 tn, .int .i64 fk, .int .i64 fn, .bool cb, .int .u32 n] 101))
      cases hm : mvB sg sl ⟨⟨tk, tn⟩, ⟨fk, fn⟩, cb, n⟩ with
      | false =>
        have HV := Lib.hid (mvTo_no HX.out hm)
        rw [hm] at HMm
        clear hm
        go_wp2_with fail
        refine (HMm.out _).mono ?_
        rintro e w2 ⟨rfl, f2⟩
        have HF2 := Lib.hid (HFA.out.trans f2)
        clear f2
        go_wp2
        go_ret
        exact ⟨ret_b HV.out.symm, HF2.out⟩
      | true =>
        have HV := Lib.hid (mvTo_s hto.out HX.out hm)
        rw [hm] at HMm
        clear hm
        go_wp2_with fail
        refine (HMm.out _).mono ?_
        rintro e w2 ⟨rfl, f2⟩
        have HF2 := Lib.hid (HFA.out.trans f2)
        have HB2 := Lib.hid (HBA.out.kept f2 (fun h => h))
        clear f2
        go_wp2
        go_roundw
        case rel => exact ⟨k + 1, by omega, by go_num, HV, HB2, HF2⟩
        case measure => simp [intOf]; omega
    · obtain rfl : k = l.length := by omega
      have HV := Lib.hid (mvTo_all hto.out)
      go_wp2
      go_ret
      exact ⟨ret_b HV.out.symm, hf.out⟩

/-- a row as a value -/
def RwV.value (x : RwV) : Value := .agg #[.int .i64 x.r.d.k, .int .i64 x.r.d.n, .int .i64 x.r.a.k, .int .i64 x.r.a.n, .int .i64 x.r.b.k, .int .i64 x.r.b.n, x.vb, x.va]

structure RowMem (w wr : World) (vw vc : Value) (sg : Int) (ci cr : Array Value) : Prop where
  bp : Blk wr w.heap.size 25 #[vw, vc]
  bt : Blk wr (w.heap.size + 1) 27 #[.int .i64 sg]
  bi : Blk wr (w.heap.size + 2) 66 ci
  br : Blk wr (w.heap.size + 3) 78 cr
  fr : Fr w wr
theorem RowMem.keep {w wr w2 : World} {vw vc : Value} {sg : Int} {ci cr : Array Value} (h : RowMem w wr vw vc sg ci cr) (hk : Fr wr w2) : RowMem w w2 vw vc sg ci cr :=
  ⟨h.bp.kept hk (fun h => h), h.bt.kept hk (fun h => h), h.bi.kept hk (fun h => h), h.br.kept hk (fun h => h), h.fr.trans hk⟩

theorem plB_45 {wide : List Bool} {sg sl t : Int} {k n : Int} : plB wide sg sl 45 t ⟨k, n⟩ = ((k == 0) && (n == 0)) := by
  unfold plB kindV
  rw [Bool.eq_iff_iff]; simp
theorem plB_x {wide : List Bool} {sg sl t : Int} {l : UInt8} {k n : Int} {x : Bool} (hl : l ≠ 45) (hx : wd wide t = x) : plB wide sg sl l t ⟨k, n⟩ = ((k == if x then 2 else 1) && isB sg sl ⟨k, n⟩) := by
  unfold plB kindV
  rw [if_neg hl, hx]
  cases x <;> rw [Bool.eq_iff_iff] <;> simp
/-- what the loop over the fields of a row holds -/
def RowRel (P0 P1 P2 : Bool) (k : Int) : Prop := k = 0 ∨ (k = 1 ∧ P0 = true) ∨ (k = 2 ∧ P0 = true ∧ P1 = true) ∨ (k = 3 ∧ P0 = true ∧ P1 = true ∧ P2 = true)
def rowRest (op sg sl : Int) (before after : List Mv) : Bool := mvsB sg sl before && mvsB sg sl after && (!decide (8 ≤ op ∧ op ≤ 10) || decide (after.length = 0))
theorem rwB_split {p : Pg} {sg sl : Int} {i : In} {r : Rw} {l0 l1 l2 l3 l4 : UInt8} (hls : shape i.op = [l0, l1, l2, l3, l4]) :
    rwB p sg sl i r = ((plB p.wide sg sl l0 i.d r.d && plB p.wide sg sl l1 i.a r.a && plB p.wide sg sl l2 i.b r.b) && rowRest i.op sg sl r.before r.after) := by
  unfold rwB rowRest
  rw [hls]
  simp only [List.getD_cons_zero, List.getD_cons_succ, Bool.and_assoc]

set_option maxHeartbeats 4000000 in
set_option maxRecDepth 100000 in
theorem row_any (R R' : Nat → Prop) (v vb va : Value) (p : Pg) (sg sl : Int) (i : In) (r : Rw) (w : World) (h : RdPg w R v p) (hb : RdMv w R' vb r.before) (ha : RdMv w R' va r.after) (h4 : 4 ≤ sg) (h16 : sg ≤ 16) (hI : insB p i = true) (hl0 : 1 ≤ p.wide.length) :
    Calls Try.prog 43 #[v, tgV sg, .int .i64 sl, i.val, RwV.value ⟨r, vb, va⟩] w fun e w' => e = .returned (.bool (rwB p sg sl i r)) ∧ Fr w w' := by
  obtain ⟨vw, vc, rfl, ⟨A, c, rfl, hl, hr⟩, ⟨A', c', rfl, hl', hr', ho'⟩⟩ := h
  have HR := Lib.hid hr
  have HB := Lib.hid hb
  have HA := Lib.hid ha
  unfold maxLen at hl hl'
  clear hr hr' ho' hb ha
  have hok := insOk hI
  have hk := hok.kn
  obtain ⟨⟨ha0, ha1⟩, ⟨hb0, hb1⟩, ⟨hd0, hd1⟩, hc0⟩ := ins_fields hI hl0
  obtain ⟨l0, l1, l2, l3, l4, hls⟩ := shape_letters hk
  have hS := Lib.hid (fun w => Shape_any i.op w)
  rw [hk, show shapeS i.op = ⟨#[l0, l1, l2, l3, l4]⟩ by unfold shapeS; rw [hls]] at hS
  have HSP := Lib.hid (rwB_split (p := p) (sg := sg) (sl := sl) (r := r) hls)
  have HIS := Lib.hid (fun a w => is_any sg sl a w h4 h16)
  unfold tgV PlaceV.val at HIS
  obtain ⟨x0, ix0⟩ : ∃ x, p.wide[i.d.toNat]? = some x := ⟨_, List.getElem?_eq_getElem (by omega)⟩
  obtain ⟨x1, ix1⟩ : ∃ x, p.wide[i.a.toNat]? = some x := ⟨_, List.getElem?_eq_getElem (by omega)⟩
  obtain ⟨x2, ix2⟩ : ∃ x, p.wide[i.b.toNat]? = some x := ⟨_, List.getElem?_eq_getElem (by omega)⟩
  have HWD := Lib.hid (And.intro (wd_get ix0) (And.intro (wd_get ix1) (wd_get ix2)))
  have HCELL := Lib.hid (fun (w2 : World) (hf : Fr w w2) => (HR.out.kept hf (fun _ _ h => h)).2 (by omega))
  clear hok hk hls hI
  obtain ⟨op, d, a, b, cc, n⟩ := i
  obtain ⟨⟨dk, dn⟩, ⟨ak, an⟩, ⟨bk, bn⟩, before, after⟩ := r
  unfold In.val RwV.value tgV
  simp only at *
  have HMB := Lib.hid (fun (w2 : World) (hf : Fr w w2) => moves_any' R' vb before sg sl w2 (HB.out.kept hf (fun _ _ h => h)) h4 h16)
  have HMA := Lib.hid (fun (w2 : World) (hf : Fr w w2) => moves_any' R' va after sg sl w2 (HA.out.kept hf (fun _ _ h => h)) h4 h16)
  unfold tgV at HMB HMA
  obtain ⟨Ab, cb, rfl, _⟩ := id HB.out
  obtain ⟨Aa, ca, rfl, hla, _⟩ := id HA.out
  unfold maxLen at hla
  have HM0 : Hid (RowMem w ((((w.alloc (.cells #[.slice A p.wide.length c, .slice A' p.code.length c'] 25)).alloc (.cells #[.int .i64 sg] 27)).alloc (.cells #[.int .i64 op, .int .i64 d, .int .i64 a, .int .i64 b, .int .i64 cc, .int .u32 n] 66)).alloc
      (.cells #[.int .i64 dk, .int .i64 dn, .int .i64 ak, .int .i64 an, .int .i64 bk, .int .i64 bn, .slice Ab before.length cb, .slice Aa after.length ca] 78))
      (.slice A p.wide.length c) (.slice A' p.code.length c') sg #[.int .i64 op, .int .i64 d, .int .i64 a, .int .i64 b, .int .i64 cc, .int .u32 n] #[.int .i64 dk, .int .i64 dn, .int .i64 ak, .int .i64 an, .int .i64 bk, .int .i64 bn, .slice Ab before.length cb, .slice Aa after.length ca]) := by
    refine ⟨(((Blk.new w _ _).alloc _).alloc _).alloc _, ?_, ?_, ?_, ((((Kept.refl _ w).alloc _).alloc _).alloc _).alloc _⟩
    · have := ((Blk.new (w.alloc (.cells #[.slice A p.wide.length c, .slice A' p.code.length c'] 25)) 27 #[.int .i64 sg]).alloc (.cells #[.int .i64 op, .int .i64 d, .int .i64 a, .int .i64 b, .int .i64 cc, .int .u32 n] 66)).alloc
        (.cells #[.int .i64 dk, .int .i64 dn, .int .i64 ak, .int .i64 an, .int .i64 bk, .int .i64 bn, .slice Ab before.length cb, .slice Aa after.length ca] 78)
      simpa using this
    · have := (Blk.new ((w.alloc (.cells #[.slice A p.wide.length c, .slice A' p.code.length c'] 25)).alloc (.cells #[.int .i64 sg] 27)) 66 #[.int .i64 op, .int .i64 d, .int .i64 a, .int .i64 b, .int .i64 cc, .int .u32 n]).alloc
        (.cells #[.int .i64 dk, .int .i64 dn, .int .i64 ak, .int .i64 an, .int .i64 bk, .int .i64 bn, .slice Ab before.length cb, .slice Aa after.length ca] 78)
      simpa using this
    · have := Blk.new (((w.alloc (.cells #[.slice A p.wide.length c, .slice A' p.code.length c'] 25)).alloc (.cells #[.int .i64 sg] 27)).alloc (.cells #[.int .i64 op, .int .i64 d, .int .i64 a, .int .i64 b, .int .i64 cc, .int .u32 n] 66)) 78
        #[.int .i64 dk, .int .i64 dn, .int .i64 ak, .int .i64 an, .int .i64 bk, .int .i64 bn, .slice Ab before.length cb, .slice Aa after.length ca]
      simpa using this
  go_enter Try.func43, Try.ntmps43
  go_wp2_with (go_at_call 42; refine (hS.out _).mono ?_; rintro e w' ⟨rfl, rfl⟩)
  go_loopw [30] (fun i wr => ∃ k : Int, i = .int .i64 k ∧ Hid (RowRel (plB p.wide sg sl l0 d ⟨dk, dn⟩) (plB p.wide sg sl l1 a ⟨ak, an⟩) (plB p.wide sg sl l2 b ⟨bk, bn⟩) k) ∧
    Hid (RowMem w wr (.slice A p.wide.length c) (.slice A' p.code.length c') sg #[.int .i64 op, .int .i64 d, .int .i64 a, .int .i64 b, .int .i64 cc, .int .u32 n] #[.int .i64 dk, .int .i64 dn, .int .i64 ak, .int .i64 an, .int .i64 bk, .int .i64 bn, .slice Ab before.length cb, .slice Aa after.length ca])) (fun i _ => 3 - (intOf i).toNat)
  case atStart => exact ⟨0, rfl, Or.inl rfl, HM0⟩
  case round =>
    obtain ⟨k, rfl, hrel, hm⟩ := hrel
    have p0 := hm.out.bp.cell 0
    have t0 := hm.out.bt.cell 0
    have i0 := hm.out.bi.cell 0
    have i1 := hm.out.bi.cell 1
    have i2 := hm.out.bi.cell 2
    have i3 := hm.out.bi.cell 3
    have zp := hm.out.bp.lt
    have zt := hm.out.bt.lt
    have zi := hm.out.bi.lt
    simp only [List.getElem?_toArray, List.getElem?_cons_succ, List.getElem?_cons_zero] at p0 t0 i0 i1 i2 i3
    obtain ⟨bw, ow, hAe, _, hcw⟩ := HCELL.out wr hm.out.fr
    subst hAe
    rcases hrel.out with rfl | ⟨rfl, q0⟩ | ⟨rfl, q0, q1⟩ | ⟨rfl, q0, q1, q2⟩
    · have hpi : ∀ w, (Instr.index 132 (.agg #[.int .i64 dk, .int .i64 dn, .int .i64 ak, .int .i64 an, .int .i64 bk, .int .i64 bn]) (.int .i64 0)).run Try.prog w = .ok (.agg #[.int .i64 dk, .int .i64 dn]) w := fun _ => by kernel_rfl
      have hpj : ∀ w, (Instr.index 104 (.agg #[.int .i64 d, .int .i64 a, .int .i64 b]) (.int .i64 0)).run Try.prog w = .ok (.int .i64 d) w := fun _ => by kernel_rfl
      have hkA : Fr wr (wr.alloc (.cells #[.int .i64 dk, .int .i64 dn] 75)) := (Kept.refl _ wr).alloc _
      have HMA1 := Lib.hid (hm.out.keep hkA)
      have HNX := Lib.hid (fun (hp : plB p.wide sg sl l0 d ⟨dk, dn⟩ = true) => (show RowRel (plB p.wide sg sl l0 d ⟨dk, dn⟩) (plB p.wide sg sl l1 a ⟨ak, an⟩) (plB p.wide sg sl l2 b ⟨bk, bn⟩) 1 from Or.inr (Or.inl ⟨rfl, hp⟩)))
      clear hrel HMB HMA hkA
      by_cases h45 : l0 = 45
      · have b45 : ((((⟨#[l0, l1, l2, l3, l4]⟩ : ByteArray)[0]'(by show 0 < 5; decide)).toNat : Int) == 45) = true := by
          show ((l0.toNat : Int) == 45) = true
          rw [h45]; rfl
        have H45 := Lib.hid h45
        have HP := Lib.hid (plB_45 (wide := p.wide) (sg := sg) (sl := sl) (t := d) (k := dk) (n := dn))
        clear h45
        by_cases hz : dk = 0 ∧ dn = 0
        · have hp : plB p.wide sg sl l0 d ⟨dk, dn⟩ = true := by rw [H45.out, HP.out, hz.1, hz.2]; rfl
          have hnext := Lib.hid (HNX.out hp)
          obtain ⟨e1, e2⟩ := hz
          subst e1; subst e2
          clear hp
          go_wp2
          go_roundw
          case rel => exact ⟨1, rfl, hnext, HMA1⟩
          case measure => simp [intOf]
        · have hp : Hid (plB p.wide sg sl l0 d ⟨dk, dn⟩ = false) := by
            show _ = _
            rw [H45.out, HP.out, Bool.and_eq_false_iff]
            by_cases e : dk = 0
            · exact Or.inr (by simpa using fun e2 => hz ⟨e, e2⟩)
            · exact Or.inl (by simpa using e)
          by_cases e : dk = 0
          · have e2 : (dn != 0) = true := by simpa using fun e2 => hz ⟨e, e2⟩
            subst e
            clear hz
            go_wp2
            all_goals go_ret
            all_goals refine ⟨ret_b ?_, HMA1.out.fr⟩
            all_goals rw [HSP.out, hp.out]
            all_goals simp
          · have e2 : (dk != 0) = true := by simpa using e
            clear hz e
            go_wp2
            all_goals go_ret
            all_goals refine ⟨ret_b ?_, HMA1.out.fr⟩
            all_goals rw [HSP.out, hp.out]
            all_goals simp
      · have e45 : ((((⟨#[l0, l1, l2, l3, l4]⟩ : ByteArray)[0]'(by show 0 < 5; decide)).toNat : Int) == 45) = false := by
          show ((l0.toNat : Int) == 45) = false
          rw [beq_eq_false_iff_ne]
          intro hc
          exact h45 (UInt8.toNat_inj.1 (by simpa using Int.ofNat_inj.1 hc))
        have cw := hcw d.toNat (.bool x0) (by rw [List.getElem?_map, ix0]; rfl)
        have zw := cell_lt cw
        have HPX := Lib.hid (plB_x (sg := sg) (sl := sl) (k := dk) (n := dn) h45 HWD.out.1)
        clear h45
        cases x0 with
        | true =>
          by_cases hkk : dk = 2
          · subst hkk
            have HII := Lib.hid (fun w => HIS.out ⟨2, dn⟩ w)
            simp only at HII
            cases hi : isB sg sl ⟨2, dn⟩ with
            | true =>
              have hp : plB p.wide sg sl l0 d ⟨2, dn⟩ = true := by rw [HPX.out, hi]; rfl
              have hnext := Lib.hid (HNX.out hp)
              rw [hi] at HII
              clear hp hi HPX
              go_wp2
              go_quiet (fail)
              go_wp2_with fail
              refine (HII.out _).mono ?_
              rintro e w2 ⟨rfl, f2⟩
              have HM2 := Lib.hid ((hm.out.keep ((Kept.refl (fun _ => False) wr).alloc (.cells #[.int .i64 2, .int .i64 dn] 75) |>.drewN nq)).keep f2)
              clear f2
              go_wp2
              go_roundw
              case rel => exact ⟨1, rfl, hnext, HM2⟩
              case measure => simp [intOf]
            | false =>
              have hp : Hid (plB p.wide sg sl l0 d ⟨2, dn⟩ = false) := by show _ = _; rw [HPX.out, hi]; rfl
              rw [hi] at HII
              clear hi HPX
              go_wp2
              go_quiet (fail)
              go_wp2_with fail
              refine (HII.out _).mono ?_
              rintro e w2 ⟨rfl, f2⟩
              have HM2 := Lib.hid ((hm.out.keep ((Kept.refl (fun _ => False) wr).alloc (.cells #[.int .i64 2, .int .i64 dn] 75) |>.drewN nq)).keep f2)
              clear f2
              go_wp2
              go_ret
              refine ⟨ret_b ?_, HM2.out.fr⟩
              rw [HSP.out, hp.out]
              simp
          · have hk' : (dk != 2) = true := by simpa using hkk
            have hp : Hid (plB p.wide sg sl l0 d ⟨dk, dn⟩ = false) := by
              show _ = _
              rw [HPX.out]
              simp [hkk]
            clear HPX hkk
            go_wp2
            go_quiet (fail)
            go_wp2
            go_ret
            refine ⟨ret_b ?_, HMA1.out.fr.drewN nq⟩
            rw [HSP.out, hp.out]
            simp
        | false =>
          by_cases hkk : dk = 1
          · subst hkk
            have HII := Lib.hid (fun w => HIS.out ⟨1, dn⟩ w)
            simp only at HII
            cases hi : isB sg sl ⟨1, dn⟩ with
            | true =>
              have hp : plB p.wide sg sl l0 d ⟨1, dn⟩ = true := by rw [HPX.out, hi]; rfl
              have hnext := Lib.hid (HNX.out hp)
              rw [hi] at HII
              clear hp hi HPX
              go_wp2
              go_quiet (fail)
              go_wp2_with fail
              refine (HII.out _).mono ?_
              rintro e w2 ⟨rfl, f2⟩
              have HM2 := Lib.hid ((hm.out.keep ((Kept.refl (fun _ => False) wr).alloc (.cells #[.int .i64 1, .int .i64 dn] 75) |>.drewN nq)).keep f2)
              clear f2
              go_wp2
              go_roundw
              case rel => exact ⟨1, rfl, hnext, HM2⟩
              case measure => simp [intOf]
            | false =>
              have hp : Hid (plB p.wide sg sl l0 d ⟨1, dn⟩ = false) := by show _ = _; rw [HPX.out, hi]; rfl
              rw [hi] at HII
              clear hi HPX
              go_wp2
              go_quiet (fail)
              go_wp2_with fail
              refine (HII.out _).mono ?_
              rintro e w2 ⟨rfl, f2⟩
              have HM2 := Lib.hid ((hm.out.keep ((Kept.refl (fun _ => False) wr).alloc (.cells #[.int .i64 1, .int .i64 dn] 75) |>.drewN nq)).keep f2)
              clear f2
              go_wp2
              go_ret
              refine ⟨ret_b ?_, HM2.out.fr⟩
              rw [HSP.out, hp.out]
              simp
          · have hk' : (dk != 1) = true := by simpa using hkk
            have hp : Hid (plB p.wide sg sl l0 d ⟨dk, dn⟩ = false) := by
              show _ = _
              rw [HPX.out]
              simp [hkk]
            clear HPX hkk
            go_wp2
            go_quiet (fail)
            go_wp2
            go_ret
            refine ⟨ret_b ?_, HMA1.out.fr.drewN nq⟩
            rw [HSP.out, hp.out]
            simp
    · have hpi : ∀ w, (Instr.index 132 (.agg #[.int .i64 dk, .int .i64 dn, .int .i64 ak, .int .i64 an, .int .i64 bk, .int .i64 bn]) (.int .i64 1)).run Try.prog w = .ok (.agg #[.int .i64 ak, .int .i64 an]) w := fun _ => by kernel_rfl
      have hpj : ∀ w, (Instr.index 104 (.agg #[.int .i64 d, .int .i64 a, .int .i64 b]) (.int .i64 1)).run Try.prog w = .ok (.int .i64 a) w := fun _ => by kernel_rfl
      have hkA : Fr wr (wr.alloc (.cells #[.int .i64 ak, .int .i64 an] 75)) := (Kept.refl _ wr).alloc _
      have HMA1 := Lib.hid (hm.out.keep hkA)
      have HNX := Lib.hid (fun (hp : plB p.wide sg sl l1 a ⟨ak, an⟩ = true) => (show RowRel (plB p.wide sg sl l0 d ⟨dk, dn⟩) (plB p.wide sg sl l1 a ⟨ak, an⟩) (plB p.wide sg sl l2 b ⟨bk, bn⟩) 2 from Or.inr (Or.inr (Or.inl ⟨rfl, q0, hp⟩))))
      clear hrel HMB HMA hkA
      by_cases h45 : l1 = 45
      · have b45 : ((((⟨#[l0, l1, l2, l3, l4]⟩ : ByteArray)[1]'(by show 1 < 5; decide)).toNat : Int) == 45) = true := by
          show ((l1.toNat : Int) == 45) = true
          rw [h45]; rfl
        have H45 := Lib.hid h45
        have HP := Lib.hid (plB_45 (wide := p.wide) (sg := sg) (sl := sl) (t := a) (k := ak) (n := an))
        clear h45
        by_cases hz : ak = 0 ∧ an = 0
        · have hp : plB p.wide sg sl l1 a ⟨ak, an⟩ = true := by rw [H45.out, HP.out, hz.1, hz.2]; rfl
          have hnext := Lib.hid (HNX.out hp)
          obtain ⟨e1, e2⟩ := hz
          subst e1; subst e2
          clear hp
          go_wp2
          go_roundw
          case rel => exact ⟨2, rfl, hnext, HMA1⟩
          case measure => simp [intOf]
        · have hp : Hid (plB p.wide sg sl l1 a ⟨ak, an⟩ = false) := by
            show _ = _
            rw [H45.out, HP.out, Bool.and_eq_false_iff]
            by_cases e : ak = 0
            · exact Or.inr (by simpa using fun e2 => hz ⟨e, e2⟩)
            · exact Or.inl (by simpa using e)
          by_cases e : ak = 0
          · have e2 : (an != 0) = true := by simpa using fun e2 => hz ⟨e, e2⟩
            subst e
            clear hz
            go_wp2
            all_goals go_ret
            all_goals refine ⟨ret_b ?_, HMA1.out.fr⟩
            all_goals rw [HSP.out, hp.out]
            all_goals simp
          · have e2 : (ak != 0) = true := by simpa using e
            clear hz e
            go_wp2
            all_goals go_ret
            all_goals refine ⟨ret_b ?_, HMA1.out.fr⟩
            all_goals rw [HSP.out, hp.out]
            all_goals simp
      · have e45 : ((((⟨#[l0, l1, l2, l3, l4]⟩ : ByteArray)[1]'(by show 1 < 5; decide)).toNat : Int) == 45) = false := by
          show ((l1.toNat : Int) == 45) = false
          rw [beq_eq_false_iff_ne]
          intro hc
          exact h45 (UInt8.toNat_inj.1 (by simpa using Int.ofNat_inj.1 hc))
        have cw := hcw a.toNat (.bool x1) (by rw [List.getElem?_map, ix1]; rfl)
        have zw := cell_lt cw
        have HPX := Lib.hid (plB_x (sg := sg) (sl := sl) (k := ak) (n := an) h45 HWD.out.2.1)
        clear h45
        cases x1 with
        | true =>
          by_cases hkk : ak = 2
          · subst hkk
            have HII := Lib.hid (fun w => HIS.out ⟨2, an⟩ w)
            simp only at HII
            cases hi : isB sg sl ⟨2, an⟩ with
            | true =>
              have hp : plB p.wide sg sl l1 a ⟨2, an⟩ = true := by rw [HPX.out, hi]; rfl
              have hnext := Lib.hid (HNX.out hp)
              rw [hi] at HII
              clear hp hi HPX
              go_wp2
              go_quiet (fail)
              go_wp2_with fail
              refine (HII.out _).mono ?_
              rintro e w2 ⟨rfl, f2⟩
              have HM2 := Lib.hid ((hm.out.keep ((Kept.refl (fun _ => False) wr).alloc (.cells #[.int .i64 2, .int .i64 an] 75) |>.drewN nq)).keep f2)
              clear f2
              go_wp2
              go_roundw
              case rel => exact ⟨2, rfl, hnext, HM2⟩
              case measure => simp [intOf]
            | false =>
              have hp : Hid (plB p.wide sg sl l1 a ⟨2, an⟩ = false) := by show _ = _; rw [HPX.out, hi]; rfl
              rw [hi] at HII
              clear hi HPX
              go_wp2
              go_quiet (fail)
              go_wp2_with fail
              refine (HII.out _).mono ?_
              rintro e w2 ⟨rfl, f2⟩
              have HM2 := Lib.hid ((hm.out.keep ((Kept.refl (fun _ => False) wr).alloc (.cells #[.int .i64 2, .int .i64 an] 75) |>.drewN nq)).keep f2)
              clear f2
              go_wp2
              go_ret
              refine ⟨ret_b ?_, HM2.out.fr⟩
              rw [HSP.out, hp.out]
              simp
          · have hk' : (ak != 2) = true := by simpa using hkk
            have hp : Hid (plB p.wide sg sl l1 a ⟨ak, an⟩ = false) := by
              show _ = _
              rw [HPX.out]
              simp [hkk]
            clear HPX hkk
            go_wp2
            go_quiet (fail)
            go_wp2
            go_ret
            refine ⟨ret_b ?_, HMA1.out.fr.drewN nq⟩
            rw [HSP.out, hp.out]
            simp
        | false =>
          by_cases hkk : ak = 1
          · subst hkk
            have HII := Lib.hid (fun w => HIS.out ⟨1, an⟩ w)
            simp only at HII
            cases hi : isB sg sl ⟨1, an⟩ with
            | true =>
              have hp : plB p.wide sg sl l1 a ⟨1, an⟩ = true := by rw [HPX.out, hi]; rfl
              have hnext := Lib.hid (HNX.out hp)
              rw [hi] at HII
              clear hp hi HPX
              go_wp2
              go_quiet (fail)
              go_wp2_with fail
              refine (HII.out _).mono ?_
              rintro e w2 ⟨rfl, f2⟩
              have HM2 := Lib.hid ((hm.out.keep ((Kept.refl (fun _ => False) wr).alloc (.cells #[.int .i64 1, .int .i64 an] 75) |>.drewN nq)).keep f2)
              clear f2
              go_wp2
              go_roundw
              case rel => exact ⟨2, rfl, hnext, HM2⟩
              case measure => simp [intOf]
            | false =>
              have hp : Hid (plB p.wide sg sl l1 a ⟨1, an⟩ = false) := by show _ = _; rw [HPX.out, hi]; rfl
              rw [hi] at HII
              clear hi HPX
              go_wp2
              go_quiet (fail)
              go_wp2_with fail
              refine (HII.out _).mono ?_
              rintro e w2 ⟨rfl, f2⟩
              have HM2 := Lib.hid ((hm.out.keep ((Kept.refl (fun _ => False) wr).alloc (.cells #[.int .i64 1, .int .i64 an] 75) |>.drewN nq)).keep f2)
              clear f2
              go_wp2
              go_ret
              refine ⟨ret_b ?_, HM2.out.fr⟩
              rw [HSP.out, hp.out]
              simp
          · have hk' : (ak != 1) = true := by simpa using hkk
            have hp : Hid (plB p.wide sg sl l1 a ⟨ak, an⟩ = false) := by
              show _ = _
              rw [HPX.out]
              simp [hkk]
            clear HPX hkk
            go_wp2
            go_quiet (fail)
            go_wp2
            go_ret
            refine ⟨ret_b ?_, HMA1.out.fr.drewN nq⟩
            rw [HSP.out, hp.out]
            simp
    · have hpi : ∀ w, (Instr.index 132 (.agg #[.int .i64 dk, .int .i64 dn, .int .i64 ak, .int .i64 an, .int .i64 bk, .int .i64 bn]) (.int .i64 2)).run Try.prog w = .ok (.agg #[.int .i64 bk, .int .i64 bn]) w := fun _ => by kernel_rfl
      have hpj : ∀ w, (Instr.index 104 (.agg #[.int .i64 d, .int .i64 a, .int .i64 b]) (.int .i64 2)).run Try.prog w = .ok (.int .i64 b) w := fun _ => by kernel_rfl
      have hkA : Fr wr (wr.alloc (.cells #[.int .i64 bk, .int .i64 bn] 75)) := (Kept.refl _ wr).alloc _
      have HMA1 := Lib.hid (hm.out.keep hkA)
      have HNX := Lib.hid (fun (hp : plB p.wide sg sl l2 b ⟨bk, bn⟩ = true) => (show RowRel (plB p.wide sg sl l0 d ⟨dk, dn⟩) (plB p.wide sg sl l1 a ⟨ak, an⟩) (plB p.wide sg sl l2 b ⟨bk, bn⟩) 3 from Or.inr (Or.inr (Or.inr ⟨rfl, q0, q1, hp⟩))))
      clear hrel HMB HMA hkA
      by_cases h45 : l2 = 45
      · have b45 : ((((⟨#[l0, l1, l2, l3, l4]⟩ : ByteArray)[2]'(by show 2 < 5; decide)).toNat : Int) == 45) = true := by
          show ((l2.toNat : Int) == 45) = true
          rw [h45]; rfl
        have H45 := Lib.hid h45
        have HP := Lib.hid (plB_45 (wide := p.wide) (sg := sg) (sl := sl) (t := b) (k := bk) (n := bn))
        clear h45
        by_cases hz : bk = 0 ∧ bn = 0
        · have hp : plB p.wide sg sl l2 b ⟨bk, bn⟩ = true := by rw [H45.out, HP.out, hz.1, hz.2]; rfl
          have hnext := Lib.hid (HNX.out hp)
          obtain ⟨e1, e2⟩ := hz
          subst e1; subst e2
          clear hp
          go_wp2
          go_roundw
          case rel => exact ⟨3, rfl, hnext, HMA1⟩
          case measure => simp [intOf]
        · have hp : Hid (plB p.wide sg sl l2 b ⟨bk, bn⟩ = false) := by
            show _ = _
            rw [H45.out, HP.out, Bool.and_eq_false_iff]
            by_cases e : bk = 0
            · exact Or.inr (by simpa using fun e2 => hz ⟨e, e2⟩)
            · exact Or.inl (by simpa using e)
          by_cases e : bk = 0
          · have e2 : (bn != 0) = true := by simpa using fun e2 => hz ⟨e, e2⟩
            subst e
            clear hz
            go_wp2
            all_goals go_ret
            all_goals refine ⟨ret_b ?_, HMA1.out.fr⟩
            all_goals rw [HSP.out, hp.out]
            all_goals simp
          · have e2 : (bk != 0) = true := by simpa using e
            clear hz e
            go_wp2
            all_goals go_ret
            all_goals refine ⟨ret_b ?_, HMA1.out.fr⟩
            all_goals rw [HSP.out, hp.out]
            all_goals simp
      · have e45 : ((((⟨#[l0, l1, l2, l3, l4]⟩ : ByteArray)[2]'(by show 2 < 5; decide)).toNat : Int) == 45) = false := by
          show ((l2.toNat : Int) == 45) = false
          rw [beq_eq_false_iff_ne]
          intro hc
          exact h45 (UInt8.toNat_inj.1 (by simpa using Int.ofNat_inj.1 hc))
        have cw := hcw b.toNat (.bool x2) (by rw [List.getElem?_map, ix2]; rfl)
        have zw := cell_lt cw
        have HPX := Lib.hid (plB_x (sg := sg) (sl := sl) (k := bk) (n := bn) h45 HWD.out.2.2)
        clear h45
        cases x2 with
        | true =>
          by_cases hkk : bk = 2
          · subst hkk
            have HII := Lib.hid (fun w => HIS.out ⟨2, bn⟩ w)
            simp only at HII
            cases hi : isB sg sl ⟨2, bn⟩ with
            | true =>
              have hp : plB p.wide sg sl l2 b ⟨2, bn⟩ = true := by rw [HPX.out, hi]; rfl
              have hnext := Lib.hid (HNX.out hp)
              rw [hi] at HII
              clear hp hi HPX
              go_wp2
              go_quiet (fail)
              go_wp2_with fail
              refine (HII.out _).mono ?_
              rintro e w2 ⟨rfl, f2⟩
              have HM2 := Lib.hid ((hm.out.keep ((Kept.refl (fun _ => False) wr).alloc (.cells #[.int .i64 2, .int .i64 bn] 75) |>.drewN nq)).keep f2)
              clear f2
              go_wp2
              go_roundw
              case rel => exact ⟨3, rfl, hnext, HM2⟩
              case measure => simp [intOf]
            | false =>
              have hp : Hid (plB p.wide sg sl l2 b ⟨2, bn⟩ = false) := by show _ = _; rw [HPX.out, hi]; rfl
              rw [hi] at HII
              clear hi HPX
              go_wp2
              go_quiet (fail)
              go_wp2_with fail
              refine (HII.out _).mono ?_
              rintro e w2 ⟨rfl, f2⟩
              have HM2 := Lib.hid ((hm.out.keep ((Kept.refl (fun _ => False) wr).alloc (.cells #[.int .i64 2, .int .i64 bn] 75) |>.drewN nq)).keep f2)
              clear f2
              go_wp2
              go_ret
              refine ⟨ret_b ?_, HM2.out.fr⟩
              rw [HSP.out, hp.out]
              simp
          · have hk' : (bk != 2) = true := by simpa using hkk
            have hp : Hid (plB p.wide sg sl l2 b ⟨bk, bn⟩ = false) := by
              show _ = _
              rw [HPX.out]
              simp [hkk]
            clear HPX hkk
            go_wp2
            go_quiet (fail)
            go_wp2
            go_ret
            refine ⟨ret_b ?_, HMA1.out.fr.drewN nq⟩
            rw [HSP.out, hp.out]
            simp
        | false =>
          by_cases hkk : bk = 1
          · subst hkk
            have HII := Lib.hid (fun w => HIS.out ⟨1, bn⟩ w)
            simp only at HII
            cases hi : isB sg sl ⟨1, bn⟩ with
            | true =>
              have hp : plB p.wide sg sl l2 b ⟨1, bn⟩ = true := by rw [HPX.out, hi]; rfl
              have hnext := Lib.hid (HNX.out hp)
              rw [hi] at HII
              clear hp hi HPX
              go_wp2
              go_quiet (fail)
              go_wp2_with fail
              refine (HII.out _).mono ?_
              rintro e w2 ⟨rfl, f2⟩
              have HM2 := Lib.hid ((hm.out.keep ((Kept.refl (fun _ => False) wr).alloc (.cells #[.int .i64 1, .int .i64 bn] 75) |>.drewN nq)).keep f2)
              clear f2
              go_wp2
              go_roundw
              case rel => exact ⟨3, rfl, hnext, HM2⟩
              case measure => simp [intOf]
            | false =>
              have hp : Hid (plB p.wide sg sl l2 b ⟨1, bn⟩ = false) := by show _ = _; rw [HPX.out, hi]; rfl
              rw [hi] at HII
              clear hi HPX
              go_wp2
              go_quiet (fail)
              go_wp2_with fail
              refine (HII.out _).mono ?_
              rintro e w2 ⟨rfl, f2⟩
              have HM2 := Lib.hid ((hm.out.keep ((Kept.refl (fun _ => False) wr).alloc (.cells #[.int .i64 1, .int .i64 bn] 75) |>.drewN nq)).keep f2)
              clear f2
              go_wp2
              go_ret
              refine ⟨ret_b ?_, HM2.out.fr⟩
              rw [HSP.out, hp.out]
              simp
          · have hk' : (bk != 1) = true := by simpa using hkk
            have hp : Hid (plB p.wide sg sl l2 b ⟨bk, bn⟩ = false) := by
              show _ = _
              rw [HPX.out]
              simp [hkk]
            clear HPX hkk
            go_wp2
            go_quiet (fail)
            go_wp2
            go_ret
            refine ⟨ret_b ?_, HMA1.out.fr.drewN nq⟩
            rw [HSP.out, hp.out]
            simp
    · have HV : Hid (rwB p sg sl ⟨op, d, a, b, cc, n⟩ ⟨⟨dk, dn⟩, ⟨ak, an⟩, ⟨bk, bn⟩, before, after⟩ = rowRest op sg sl before after) := by
        show _ = _
        rw [HSP.out, q0, q1, q2]
        rfl
      clear HSP hrel q0 q1 q2 HIS
      have r6 := hm.out.br.cell 6
      have r7 := hm.out.br.cell 7
      have zr := hm.out.br.lt
      simp only [List.getElem?_toArray, List.getElem?_cons_succ, List.getElem?_cons_zero] at r6 r7
      rcases (by omega : op < 8 ∨ (8 ≤ op ∧ op ≤ 10) ∨ (8 ≤ op ∧ 10 < op)) with h8 | ⟨h8, h10⟩ | ⟨h8, h10⟩
      ·
        have HV2 : Hid (rowRest op sg sl before after = (mvsB sg sl before && mvsB sg sl after)) := by
          show _ = _
          unfold rowRest
          rw [decide_eq_false (by omega)]
          simp
        cases hB : mvsB sg sl before with
        | false =>
          rw [hB] at HMB HV2
          clear hB
          go_wp2_with fail
          refine (HMB.out _ hm.out.fr).mono ?_
          rintro e w2 ⟨rfl, f2⟩
          have HF2 := Lib.hid (hm.out.fr.trans f2)
          clear f2
          go_wp2
          go_ret
          refine ⟨ret_b ?_, HF2.out⟩
          rw [HV.out, HV2.out]
          simp
        | true =>
          rw [hB] at HMB HV2
          clear hB
          go_wp2_with fail
          refine (HMB.out _ hm.out.fr).mono ?_
          rintro e w2 ⟨rfl, f2⟩
          have HM2 := Lib.hid (hm.out.keep f2)
          have t0 := HM2.out.bt.cell 0
          have r7 := HM2.out.br.cell 7
          have zt := HM2.out.bt.lt
          have zr := HM2.out.br.lt
          simp only [List.getElem?_toArray, List.getElem?_cons_succ, List.getElem?_cons_zero] at t0 r7
          clear f2
          cases hA : mvsB sg sl after with
          | false =>
            rw [hA] at HMA HV2
            clear hA
            go_wp2_with fail
            refine (HMA.out _ HM2.out.fr).mono ?_
            rintro e w3 ⟨rfl, f3⟩
            have HF3 := Lib.hid (HM2.out.fr.trans f3)
            clear f3
            go_wp2
            go_ret
            refine ⟨ret_b ?_, HF3.out⟩
            rw [HV.out, HV2.out]
            simp
          | true =>
            rw [hA] at HMA HV2
            clear hA
            go_wp2_with fail
            refine (HMA.out _ HM2.out.fr).mono ?_
            rintro e w3 ⟨rfl, f3⟩
            have HM3 := Lib.hid (HM2.out.keep f3)
            have r7 := HM3.out.br.cell 7
            have zr := HM3.out.br.lt
            simp only [List.getElem?_toArray, List.getElem?_cons_succ, List.getElem?_cons_zero] at r7
            clear f3
            go_wp2
            go_ret
            refine ⟨ret_b ?_, HM3.out.fr⟩
            rw [HV.out, HV2.out, Bool.eq_iff_iff]
            simp
      ·
        have HV2 : Hid (rowRest op sg sl before after = (mvsB sg sl before && mvsB sg sl after && decide (after.length = 0))) := by
          show _ = _
          unfold rowRest
          rw [decide_eq_true (by omega)]
          simp
        cases hB : mvsB sg sl before with
        | false =>
          rw [hB] at HMB HV2
          clear hB
          go_wp2_with fail
          refine (HMB.out _ hm.out.fr).mono ?_
          rintro e w2 ⟨rfl, f2⟩
          have HF2 := Lib.hid (hm.out.fr.trans f2)
          clear f2
          go_wp2
          go_ret
          refine ⟨ret_b ?_, HF2.out⟩
          rw [HV.out, HV2.out]
          simp
        | true =>
          rw [hB] at HMB HV2
          clear hB
          go_wp2_with fail
          refine (HMB.out _ hm.out.fr).mono ?_
          rintro e w2 ⟨rfl, f2⟩
          have HM2 := Lib.hid (hm.out.keep f2)
          have t0 := HM2.out.bt.cell 0
          have r7 := HM2.out.br.cell 7
          have zt := HM2.out.bt.lt
          have zr := HM2.out.br.lt
          simp only [List.getElem?_toArray, List.getElem?_cons_succ, List.getElem?_cons_zero] at t0 r7
          clear f2
          cases hA : mvsB sg sl after with
          | false =>
            rw [hA] at HMA HV2
            clear hA
            go_wp2_with fail
            refine (HMA.out _ HM2.out.fr).mono ?_
            rintro e w3 ⟨rfl, f3⟩
            have HF3 := Lib.hid (HM2.out.fr.trans f3)
            clear f3
            go_wp2
            go_ret
            refine ⟨ret_b ?_, HF3.out⟩
            rw [HV.out, HV2.out]
            simp
          | true =>
            rw [hA] at HMA HV2
            clear hA
            go_wp2_with fail
            refine (HMA.out _ HM2.out.fr).mono ?_
            rintro e w3 ⟨rfl, f3⟩
            have HM3 := Lib.hid (HM2.out.keep f3)
            have r7 := HM3.out.br.cell 7
            have zr := HM3.out.br.lt
            simp only [List.getElem?_toArray, List.getElem?_cons_succ, List.getElem?_cons_zero] at r7
            clear f3
            go_wp2
            go_ret
            refine ⟨ret_b ?_, HM3.out.fr⟩
            rw [HV.out, HV2.out, Bool.eq_iff_iff]
            simp
      ·
        have HV2 : Hid (rowRest op sg sl before after = (mvsB sg sl before && mvsB sg sl after)) := by
          show _ = _
          unfold rowRest
          rw [decide_eq_false (by omega)]
          simp
        cases hB : mvsB sg sl before with
        | false =>
          rw [hB] at HMB HV2
          clear hB
          go_wp2_with fail
          refine (HMB.out _ hm.out.fr).mono ?_
          rintro e w2 ⟨rfl, f2⟩
          have HF2 := Lib.hid (hm.out.fr.trans f2)
          clear f2
          go_wp2
          go_ret
          refine ⟨ret_b ?_, HF2.out⟩
          rw [HV.out, HV2.out]
          simp
        | true =>
          rw [hB] at HMB HV2
          clear hB
          go_wp2_with fail
          refine (HMB.out _ hm.out.fr).mono ?_
          rintro e w2 ⟨rfl, f2⟩
          have HM2 := Lib.hid (hm.out.keep f2)
          have t0 := HM2.out.bt.cell 0
          have r7 := HM2.out.br.cell 7
          have zt := HM2.out.bt.lt
          have zr := HM2.out.br.lt
          simp only [List.getElem?_toArray, List.getElem?_cons_succ, List.getElem?_cons_zero] at t0 r7
          clear f2
          cases hA : mvsB sg sl after with
          | false =>
            rw [hA] at HMA HV2
            clear hA
            go_wp2_with fail
            refine (HMA.out _ HM2.out.fr).mono ?_
            rintro e w3 ⟨rfl, f3⟩
            have HF3 := Lib.hid (HM2.out.fr.trans f3)
            clear f3
            go_wp2
            go_ret
            refine ⟨ret_b ?_, HF3.out⟩
            rw [HV.out, HV2.out]
            simp
          | true =>
            rw [hA] at HMA HV2
            clear hA
            go_wp2_with fail
            refine (HMA.out _ HM2.out.fr).mono ?_
            rintro e w3 ⟨rfl, f3⟩
            have HM3 := Lib.hid (HM2.out.keep f3)
            have r7 := HM3.out.br.cell 7
            have zr := HM3.out.br.lt
            simp only [List.getElem?_toArray, List.getElem?_cons_succ, List.getElem?_cons_zero] at r7
            clear f3
            go_wp2
            go_ret
            refine ⟨ret_b ?_, HM3.out.fr⟩
            rw [HV.out, HV2.out, Bool.eq_iff_iff]
            simp
end Go.Proofs.Ytodmkjeankbieac
