/- The walk of live.Behind. -/
import Derived.Test.YtodmkjeankbieabBools
import Derived.Test.YtodmkjeankbieabLivePlain
import Derived.Test.YtodmkjeankbieabSoundPlain
namespace Go.Proofs.Ytodmkjeankbieab
open Go.RowKit Go.Sort

/-- a matrix as a function -/
def mfn (M : List (List Bool)) (k t : Nat) : Bool := (M.getD k []).getD t false
/-- as many rows as instructions, as long as there are temporaries -/
structure MatOk (p : Pg) (M : List (List Bool)) : Prop where
  len : M.length = p.code.length
  row : ∀ (k : Nat) (r : List Bool), M[k]? = some r → r.length = p.wide.length
theorem mfn_at {M : List (List Bool)} {k t : Nat} {r : List Bool} {x : Bool} (h : M[k]? = some r) (hx : r[t]? = some x) : mfn M k t = x := by
  unfold mfn
  rw [List.getD_eq_getElem?_getD, List.getD_eq_getElem?_getD, h]
  simp [hx]

/-- where it goes on among the first j of a list -/
def behTo (len : Nat) (M : List (List Bool)) (ns : List Int) (j t : Nat) : Bool := ((ns.take j).map Int.toNat).any fun m => decide (m < len) && mfn M m t
theorem behTo_s {len : Nat} {M : List (List Bool)} {ns : List Int} {j t : Nat} {n : Int} (h : ns[j]? = some n) : behTo len M ns (j + 1) t = (behTo len M ns j t || (decide (n.toNat < len) && mfn M n.toNat t)) := by
  unfold behTo
  rw [List.take_add_one, h]
  simp
theorem behTo_all {code : List In} {M : List (List Bool)} {k t : Nat} : behTo code.length M (nexts (inAt code k) k) (nexts (inAt code k) k).length t = behindM code (mfn M) k t := by
  unfold behTo behindM nx
  rw [List.take_length, List.any_filter]

theorem nexts_pos {p : Pg} {i : In} (hi : InsOk p i) {k : Nat} {n : Int} (h : n ∈ nexts i k) : 0 ≤ n := by
  unfold nexts at h
  split at h
  · simp at h; subst h; exact (hi.c (Or.inl ‹_›)).1
  · split at h
    · simp at h
    · split at h
      · simp at h
        rcases h with rfl | rfl
        · omega
        · exact (hi.c (Or.inr ‹_›)).1
      · simp at h; omega
theorem nexts_le {p : Pg} {i : In} (hi : InsOk p i) {k : Nat} {n : Int} (hk : k < p.code.length) (h : n ∈ nexts i k) : n ≤ p.code.length := by
  unfold nexts at h
  split at h
  · simp at h; subst h; have := (hi.c (Or.inl ‹_›)).2; omega
  · split at h
    · simp at h
    · split at h
      · simp at h
        rcases h with rfl | rfl
        · omega
        · have := (hi.c (Or.inr ‹_›)).2; omega
      · simp at h; omega

theorem nexts_len (i : In) (k : Int) : (nexts i k).length ≤ 2 := by
  unfold nexts
  split
  · simp
  · split
    · simp
    · split <;> simp
/-- inside a row: the first t of it have been looked at -/
def behIn (len : Nat) (M : List (List Bool)) (ns : List Int) (j x t s : Nat) : Bool := behTo len M ns j s || (decide (s < t) && mfn M x s)
theorem behIn_0 {len : Nat} {M : List (List Bool)} {ns : List Int} {j x s : Nat} : behTo len M ns j s = behIn len M ns j x 0 s := by unfold behIn; simp
theorem behIn_s {len : Nat} {M : List (List Bool)} {ns : List Int} {j x t s : Nat} {y : Bool} (hy : mfn M x t = y) : (if s = t then (behIn len M ns j x t t || y) else behIn len M ns j x t s) = behIn len M ns j x (t + 1) s := by
  unfold behIn
  by_cases h : s = t
  · subst h; rw [if_pos rfl, hy]; simp
  · rw [if_neg h]
    have : decide (s < t) = decide (s < t + 1) := by rw [decide_eq_decide]; omega
    rw [this]
theorem behIn_end {len : Nat} {M : List (List Bool)} {ns : List Int} {j x W s : Nat} (hs : s < W) (hx : x < len) : behIn len M ns j x W s = (behTo len M ns j s || (decide (x < len) && mfn M x s)) := by
  unfold behIn; simp [hs, hx]

structure BeMem (w wr : World) (vw vc : Value) (vn : Value) (ns : List Int) (W : Nat) (f : Nat → Bool) : Prop where
  bp : Blk wr w.heap.size 25 #[vw, vc]
  ob : Blk wr (w.heap.size + 1) 4 (mkB W f)
  ns : RdI wr (fun b => w.heap.size + 2 ≤ b) vn ns
  fr : Fr w wr
theorem BeMem.congr {w wr : World} {vw vc vn : Value} {ns : List Int} {W : Nat} {f g : Nat → Bool} (h : BeMem w wr vw vc vn ns W f) (hfg : ∀ t, t < W → f t = g t) : BeMem w wr vw vc vn ns W g :=
  ⟨h.bp, by rw [← mkB_congr hfg]; exact h.ob, h.ns, h.fr⟩
theorem BeMem.set {w wr : World} {vw vc vn : Value} {ns : List Int} {W : Nat} {f : Nat → Bool} (h : BeMem w wr vw vc vn ns W f) (t : Nat) (x : Bool) : BeMem w (wr.setCell ⟨w.heap.size + 1, t, none⟩ (.bool x)) vw vc vn ns W (fun s => if s = t then x else f s) := by
  have hk : Kept (fun b => b = w.heap.size + 1) wr (wr.setCell ⟨w.heap.size + 1, t, none⟩ (.bool x)) := (Kept.refl (fun b => b = w.heap.size + 1) wr).setCell (p := ⟨w.heap.size + 1, t, none⟩) (fun _ => rfl) _
  exact ⟨h.bp.far (by show w.heap.size ≠ w.heap.size + 1; omega) _, h.ob.bset t x, h.ns.kept hk (fun b hb e => by omega), h.fr.then hk (fun i hi e => by omega)⟩
theorem BeMem.cp {w wr : World} {vw vc vn : Value} {ns : List Int} {W : Nat} {f : Nat → Bool} (h : BeMem w wr vw vc vn ns W f) : wr.cell? ⟨w.heap.size, 0, none⟩ = some vw ∧ wr.cell? ⟨w.heap.size, 1, none⟩ = some vc := by
  have c0 := h.bp.cell 0
  have c1 := h.bp.cell 1
  simp only [List.getElem?_toArray, List.getElem?_cons_succ, List.getElem?_cons_zero] at c0 c1
  exact ⟨c0, c1⟩

set_option maxHeartbeats 2000000 in
set_option maxRecDepth 100000 in
theorem Behind_any (R R' : Nat → Prop) (v vn : Value) (p : Pg) (M : List (List Bool)) (k : Nat) (w : World) (h : RdPg w R v p) (hM : RdM w R' vn M) (hok : MatOk p M) (hmay : mayB p = true) (hk : k < p.code.length) :
    Calls Try.prog 48 #[v, vn, .int .i64 (k : Int)] w fun e w' => ∃ g, e = .returned (.slice (some ⟨g, 0, none⟩) p.wide.length p.wide.length) ∧ w.heap.size ≤ g ∧ Blk w' g 4 (mkB p.wide.length (behindM p.code (mfn M) k)) ∧ Fr w w' := by
  obtain ⟨l1, l2, l3, l4⟩ := mayB_len hmay
  have hi := insOk (mayB_ins hmay (inAt_mem hk))
  have HI := Lib.hid hi
  have H := Lib.hid h
  have HM := Lib.hid hM
  have HOK := Lib.hid hok
  have hML := Lib.hid hok.len
  obtain ⟨vw, vc, rfl, ⟨A, c, rfl, hl, hr⟩, ⟨A', c', rfl, hl', hr', ho'⟩⟩ := h
  obtain ⟨An, cn, rfl⟩ := hM.val
  have hx : p.code[k]? = some (inAt p.code k) := by rw [inAt_get hk]; exact List.getElem?_eq_getElem hk
  obtain ⟨b, off, rfl, _, d0, d1, d2, d3, d4, d5⟩ := (pg_code H.out).ins hx
  have hb := cell_lt d0
  have hmk := run_make_bools p.wide.length (by omega)
  have hNX := Lib.hid (fun (w : World) => Nexts_any (inAt p.code k) k w (by omega) (by omega))
  have HIA := Lib.hid (show inAt p.code k = inAt p.code k from rfl)
  rw [hML.out] at HM
  clear hr hr' ho' hx hi hok hM hl hl'
  generalize hii : inAt p.code k = i at d0 d1 d2 d3 d4 d5 hNX HI
  have Hii := Lib.hid hii
  clear hii
  obtain ⟨op, d, a, bb, cc, n⟩ := i
  unfold In.val at hNX
  simp only at d0 d1 d2 d3 d4 d5 hNX
  have hk0 : (0 : Int) ≤ (k : Int) := Int.natCast_nonneg _
  rw [hML.out]
  go_enter Try.func48, Try.ntmps48
  go_wp2_with fail
  refine (hNX.out _).mono ?_
  rintro e w1 ⟨v1, rfl, hn1, f1⟩
  have hpos := Lib.hid (fun x (hx : x ∈ nexts (⟨op, d, a, bb, cc, n⟩ : In) k) => nexts_pos HI.out hx)
  have hall := Lib.hid (fun t => behTo_all (code := p.code) (M := M) (k := k) (t := t))
  rw [Hii.out] at hall
  have hmem := Lib.hid (show BeMem w w1 (.slice A p.wide.length c) (.slice (some ⟨b, off, none⟩) p.code.length c') v1 (nexts ⟨op, d, a, bb, cc, n⟩ k) p.wide.length (behTo p.code.length M (nexts ⟨op, d, a, bb, cc, n⟩ k) 0) from by
    refine ⟨((Blk.new w _ _).alloc _).kept f1 (fun h => h), ?_, ?_, ((((Kept.refl _ w).alloc _).alloc _).trans f1)⟩
    · have := (Blk.new (w.alloc (.cells #[Value.slice A p.wide.length c, Value.slice (some ⟨b, off, none⟩) p.code.length c'] 25)) 4 (mkB p.wide.length fun _ => false)).kept f1 (fun h => h)
      rw [show (behTo p.code.length M (nexts ⟨op, d, a, bb, cc, n⟩ k) 0) = fun _ => false from by funext t; simp [behTo]]
      simpa using this
    · simpa using hn1)
  have hnl := nexts_len ⟨op, d, a, bb, cc, n⟩ (k : Int)
  clear hn1 f1 hNX hmk d0 d1 d2 d3 d4 d5 HIA
  generalize nexts (⟨op, d, a, bb, cc, n⟩ : In) (k : Int) = ns at *
  obtain ⟨A1, c1, rfl⟩ := hmem.out.ns.val
  go_wp2
  go_loopw [24] (fun i wr => ∃ j : Nat, j ≤ ns.length ∧ i = .int .i64 j ∧ Hid (BeMem w wr (.slice A p.wide.length c) (.slice (some ⟨b, off, none⟩) p.code.length c') (.slice A1 ns.length c1) ns p.wide.length (behTo p.code.length M ns j))) (fun i _ => ns.length - (intOf i).toNat)
  case atStart => exact ⟨0, Nat.zero_le _, rfl, hmem⟩
  case round =>
    obtain ⟨j, hj, rfl, hm⟩ := hrel
    clear hmem
    obtain ⟨p0, p1⟩ := hm.out.cp
    have hz := hm.out.ob.lt
    by_cases hlt : j < ns.length
    · have hx : ns[j]? = some ns[j] := List.getElem?_eq_getElem hlt
      obtain ⟨b3, o3, c3, hv, hR3, hb3, e0⟩ := hm.out.ns.at_ hx
      simp only [Value.slice.injEq] at hv
      obtain ⟨rfl, _, rfl⟩ := hv
      have hx0 := hpos.out _ (List.getElem_mem hlt)
      have HS := Lib.hid (fun t => behTo_s (len := p.code.length) (M := M) (t := t) hx)
      clear hx
      generalize ns[j] = x at *
      by_cases hxl : x < p.code.length
      · obtain ⟨r, hr⟩ : ∃ r, M[x.toNat]? = some r := ⟨_, List.getElem?_eq_getElem (by rw [hML.out]; omega)⟩
        have hrl := Lib.hid (HOK.out.row _ _ hr)
        obtain ⟨b4, o4, c4, u, hv, _, hb4, r0', hru⟩ := HM.out.row hr
        have r0 := (hm.out.fr.cell hb4).trans r0'
        have hb5 := cell_lt r0
        clear r0'
        simp only [Value.slice.injEq] at hv
        obtain ⟨rfl, _, rfl⟩ := hv
        obtain ⟨Ar, cr, rfl⟩ := hru.val
        have HR := Lib.hid hr
        clear hr
        rw [hrl.out] at r0 hru
        have HRU := Lib.hid hru
        clear hru
        have HS2 := Lib.hid (fun s (hs : s < p.wide.length) => (behIn_end (len := p.code.length) (M := M) (ns := ns) (j := j) (x := x.toNat) hs (by omega)).trans (HS.out s).symm)
        have HI0 := Lib.hid (hm.out.congr (g := behIn p.code.length M ns j x.toNat 0) (fun t _ => behIn_0))
        clear hm
        go_wp2
        obtain ⟨wo, rfl⟩ : ∃ wo : World, wo = wr := ⟨_, rfl⟩
        go_loopw [38] (fun i wr2 => ∃ t : Nat, t ≤ p.wide.length ∧ i = .int .i64 t ∧ Hid (BeMem w wr2 (.slice A p.wide.length c) (.slice (some ⟨b, off, none⟩) p.code.length c') (.slice (some ⟨b3, o3, none⟩) ns.length c1) ns p.wide.length (behIn p.code.length M ns j x.toNat t))) (fun i _ => p.wide.length - (intOf i).toNat)
        case atStart => exact ⟨0, Nat.zero_le _, rfl, HI0⟩
        case round =>
          obtain ⟨t, ht, rfl, hm⟩ := hrel
          clear HI0
          have hz2 := hm.out.ob.lt
          by_cases htl : t < p.wide.length
          · have hx : r[t]? = some (r[t]'(by rw [hrl.out]; exact htl)) := List.getElem?_eq_getElem _
            obtain ⟨b6, o6, c6, hv, _, hb6, e6⟩ := (HRU.out.kept hm.out.fr (fun _ _ h => h)).at_ hx
            simp only [Value.slice.injEq] at hv
            obtain ⟨rfl, _, rfl⟩ := hv
            have hy := mfn_at HR.out hx
            have q0 := hm.out.ob.bcell htl
            have y0 := hm.out.ob.frozen t
            have HN := Lib.hid ((hm.out.set t (behIn p.code.length M ns j x.toNat t t || r[t]'(by rw [hrl.out]; exact htl))).congr (fun s _ => behIn_s hy))
            clear hx hy
            generalize (r[t]'(by rw [hrl.out]; exact htl)) = y at *
            generalize behIn p.code.length M ns j x.toNat t t = z at *
            cases z <;> cases y
            all_goals
              go_wp2
              go_roundw
              case rel => exact ⟨t + 1, by omega, by go_num, HN⟩
              case measure => simp [intOf]; omega
          · obtain rfl : t = p.wide.length := by omega
            have HN := Lib.hid (hm.out.congr (g := behTo p.code.length M ns (j + 1)) (fun s hs => HS2.out s hs))
            go_wp2
            go_roundw
            case rel => exact ⟨j + 1, by omega, by go_num, HN⟩
            case measure => simp [intOf]; omega
      · have HN := Lib.hid (hm.out.congr (g := behTo p.code.length M ns (j + 1)) (fun t _ => by rw [HS.out t, decide_eq_false (by omega)]; simp))
        go_wp2
        go_roundw
        case rel => exact ⟨j + 1, by omega, by go_num, HN⟩
        case measure => simp [intOf]; omega
    · obtain rfl : j = ns.length := by omega
      have HN := Lib.hid (hm.out.congr (g := behindM p.code (mfn M) k) (fun t _ => hall.out t))
      go_wp2
      go_ret
      exact ⟨_, rfl, by omega, HN.out.ob, HN.out.fr⟩
end Go.Proofs.Ytodmkjeankbieab
