/- The walks of code.Get: a reader of bytes, what is left of them and whether it is bad. -/
import Derived.Test.YtodmkjeankbieaaCodeRef2
import Derived.Deep.RegionWith
import Derived.Deep.RegionHeld3
namespace Go.Proofs.Ytodmkjeankbieaa
open Go.RowKit Go.Sort

/-- block g is a reader that has 'rest' before it -/
structure Rdr (w : World) (g B : Nat) (rest : List Int) (bad : Bool) : Prop where
  ex : ∃ A c, Blk w g 76 #[.slice A rest.length c, .bool bad] ∧ rest.length ≤ c ∧ c ≤ maxLen ∧ Reads w (fun b => b < B) 1 A rest.length (byteVals rest)
  by_ : ∀ x ∈ rest, 0 ≤ x ∧ x ≤ 255

/-- where a slice goes on behind its first element -/
def gcutA (b off c : Nat) : Option Addr := some (if c = 1 then ⟨b, off, none⟩ else ⟨b, off + 1, none⟩)

theorem gcut_reads {w : World} {R : Nat → Prop} {b off n c : Nat} {x : Value} {xs : List Value} (h : Reads w R 1 (some ⟨b, off, none⟩) (n + 1) (x :: xs)) (hc : n + 1 ≤ c) : Reads w R 1 (gcutA b off c) n xs := by
  refine ⟨by have := h.1; simp at this; omega, fun hn => ?_⟩
  obtain ⟨b', off', hA, hR, hcell⟩ := h.2 (by omega)
  simp only [Option.some.injEq, Addr.mk.injEq, and_true] at hA
  obtain ⟨rfl, rfl⟩ := hA
  refine ⟨b, off + 1, by simp [gcutA]; omega, hR, fun j u hu => ?_⟩
  have := hcell (j + 1) u (by simpa using hu)
  rw [Nat.add_assoc, Nat.add_comm 1 j]
  exact this

theorem get_some (g B : Nat) (x : Int) (rest : List Int) (bad : Bool) (w : World) (h : Rdr w g B (x :: rest) bad) (hg : B ≤ g) :
    Calls Try.prog 39 #[.pointer (some ⟨g, 0, none⟩)] w fun e w' => e = .returned (.int .i64 x) ∧ Rdr w' g B rest bad ∧ Kept (fun b => b = g) w w' := by
  obtain ⟨⟨A, c, hB, hl, hc, hr⟩, hby⟩ := h
  simp only [List.length_cons] at hB hl hr
  obtain ⟨b, off, rfl, hR, hcell⟩ := hr.2 (by simp)
  have c0 := hcell 0 (.int .u8 x) rfl
  rw [Nat.add_zero] at c0
  have hx := hby x (by simp)
  have q0 := hB.cell 0
  have q1 := hB.cell 1
  have z0 := hB.frozen 0
  simp only [List.getElem?_toArray, List.getElem?_cons_succ, List.getElem?_cons_zero] at q0 q1
  have hcut := gcut_reads hr hl
  have hbg : b ≠ g := by have : b < B := hR; omega
  have hB2 := hB.set_ 0 (.slice (gcutA b off c) rest.length (c - 1))
  have hk : Kept (fun b => b = g) w (w.setCell ⟨g, 0, none⟩ (.slice (gcutA b off c) rest.length (c - 1))) := (Kept.refl (fun b => b = g) w).setCell (p := ⟨g, 0, none⟩) (fun _ => rfl) _
  have hfin : Rdr (w.setCell ⟨g, 0, none⟩ (.slice (gcutA b off c) rest.length (c - 1))) g B rest bad :=
    ⟨⟨gcutA b off c, c - 1, by simpa using hB2, by omega, by omega, hcut.kept hk (fun b hb e => by omega)⟩, fun y hy => hby y (List.mem_cons_of_mem _ hy)⟩
  have hsl : ∀ w', (Instr.slice 35 (.slice (some ⟨b, off, none⟩) (rest.length + 1) c) (some (.int .i64 1)) none none).run Try.prog w' = .ok (.slice (gcutA b off c) rest.length (c - 1)) w' := by
    intro w'
    go_simp
    rw [if_pos (by omega)]
    unfold gcutA
    by_cases hc1 : c = 1
    · rw [if_pos hc1, if_pos hc1]
    · rw [if_neg hc1, if_neg hc1]
  have HF := Lib.hid hfin
  have HK := Lib.hid hk
  clear hfin hk hB2 hcut hr hcell hB
  go_enter Try.func39, Try.ntmps39
  go_wp2
  go_ret
  exact ⟨rfl, HF.out, HK.out⟩

theorem get_none (g B : Nat) (bad : Bool) (w : World) (h : Rdr w g B [] bad) :
    Calls Try.prog 39 #[.pointer (some ⟨g, 0, none⟩)] w fun e w' => e = .returned (.int .i64 0) ∧ Rdr w' g B [] true ∧ Kept (fun b => b = g) w w' := by
  obtain ⟨⟨A, c, hB, hl, hc, hr⟩, hby⟩ := h
  have q0 := hB.cell 0
  have q1 := hB.cell 1
  have z1 := hB.frozen 1
  simp only [List.getElem?_toArray, List.getElem?_cons_succ, List.getElem?_cons_zero, List.length_nil] at q0 q1
  have hB2 := hB.set_ 1 (.bool true)
  have hk : Kept (fun b => b = g) w (w.setCell ⟨g, 1, none⟩ (.bool true)) := (Kept.refl (fun b => b = g) w).setCell (p := ⟨g, 1, none⟩) (fun _ => rfl) _
  have hfin : Rdr (w.setCell ⟨g, 1, none⟩ (.bool true)) g B [] true :=
    ⟨⟨A, c, by simpa using hB2, by simp, hc, Reads.none_⟩, by simp⟩
  have HF := Lib.hid hfin
  have HK := Lib.hid hk
  clear hfin hk hB2 hr hB
  go_enter Try.func39, Try.ntmps39
  go_wp2
  go_ret
  exact ⟨rfl, HF.out, HK.out⟩

/-! ### reading, as a function of what is left and whether it is bad -/
abbrev RS := List Int × Bool
def rget : RS → Int × RS
  | ([], _) => (0, ([], true))
  | (x :: r, b) => (x, (r, b))

theorem get_any (g B : Nat) (s : RS) (w : World) (h : Rdr w g B s.1 s.2) (hg : B ≤ g) :
    Calls Try.prog 39 #[.pointer (some ⟨g, 0, none⟩)] w fun e w' => e = .returned (.int .i64 (rget s).1) ∧ Rdr w' g B (rget s).2.1 (rget s).2.2 ∧ Kept (fun b => b = g) w w' := by
  obtain ⟨l, b⟩ := s
  cases l with
  | nil => exact get_none g B b w h
  | cons x r => exact get_some g B x r b w h hg

theorem Rdr.kept {w w' : World} {g B : Nat} {rest : List Int} {bad : Bool} {S : Nat → Prop} (h : Rdr w g B rest bad) (hk : Kept S w w') (hg : ¬ S g) (hs : ∀ b, b < B → ¬ S b) : Rdr w' g B rest bad := by
  obtain ⟨⟨A, c, hB, hl, hc, hr⟩, hby⟩ := h
  exact ⟨⟨A, c, hB.kept hk hg, hl, hc, hr.kept hk hs⟩, hby⟩
theorem Rdr.alloc {w : World} {g B : Nat} {rest : List Int} {bad : Bool} (h : Rdr w g B rest bad) (o : Obj) : Rdr (w.alloc o) g B rest bad :=
  h.kept ((Kept.refl (fun _ => False) w).alloc o) (fun h => h) (fun _ _ h => h)
theorem Rdr.drew {w : World} {g B : Nat} {rest : List Int} {bad : Bool} (h : Rdr w g B rest bad) : Rdr w.drew g B rest bad :=
  h.kept ((Kept.refl (fun _ => False) w).drew) (fun h => h) (fun _ _ h => h)
theorem Rdr.lt {w : World} {g B : Nat} {rest : List Int} {bad : Bool} (h : Rdr w g B rest bad) : g < w.heap.size := by
  obtain ⟨⟨_, _, hB, _⟩, _⟩ := h
  exact hB.lt
theorem Rdr.set {w : World} {g B b i : Nat} {rest : List Int} {bad : Bool} {u : Value} (h : Rdr w g B rest bad) (hb : b ≠ g) (hB : B ≤ b) : Rdr (w.setCell ⟨b, i, none⟩ u) g B rest bad :=
  h.kept ((Kept.refl (fun k => k = b) w).setCell (p := ⟨b, i, none⟩) (fun _ => rfl) u) (fun e => hb e.symm) (fun k hk e => by omega)

theorem Rdr.setBad {w : World} {g B : Nat} {rest : List Int} {bad : Bool} (h : Rdr w g B rest bad) (hg : B ≤ g) (b2 : Bool) : Rdr (w.setCell ⟨g, 1, none⟩ (.bool b2)) g B rest b2 := by
  obtain ⟨⟨A, c, hB, hl, hc, hr⟩, hby⟩ := h
  exact ⟨⟨A, c, by simpa using hB.set_ 1 (.bool b2), hl, hc, hr.kept ((Kept.refl (fun b => b = g) w).setCell (p := ⟨g, 1, none⟩) (fun _ => rfl) _) (fun b hb e => by omega)⟩, hby⟩

def rplace (s : RS) : PlaceV × RS := (⟨(rget s).1, (rget (rget s).2).1⟩, (rget (rget s).2).2)

theorem place_any (g B : Nat) (s : RS) (w : World) (h : Rdr w g B s.1 s.2) (hg : B ≤ g) :
    Calls Try.prog 40 #[.pointer (some ⟨g, 0, none⟩)] w fun e w' => e = .returned (rplace s).1.val ∧ Rdr w' g B (rplace s).2.1 (rplace s).2.2 ∧ Kept (fun b => b = g) w w' := by
  have hgw := h.lt
  have HH := Lib.hid h
  have e1 : Hid ((rplace s).1.val = .agg #[.int .i64 (rget s).1, .int .i64 (rget (rget s).2).1]) := rfl
  have e2 : Hid ((rplace s).2 = (rget (rget s).2).2) := rfl
  clear h
  go_enter Try.func40, Try.ntmps40
  go_wp2_with fail
  refine (get_any g B s _ (HH.out.alloc _) hg).mono ?_
  rintro e w1 ⟨rfl, h1, k1⟩
  have z1 := k1.size
  simp only [World.size_alloc] at z1
  have b1 := (Blk.new w _ _).kept k1 (fun e => by omega)
  go_wp2_with fail
  refine (get_any g B (rget s).2 _ h1 hg).mono ?_
  rintro e w2 ⟨rfl, h2, k2⟩
  have b2 := b1.kept k2 (fun e => by omega)
  have z2 := k2.size
  have q0 := b2.cell 0
  have q1 := b2.cell 1
  have y0 := b2.frozen 0
  have y1 := b2.frozen 1
  simp only [List.getElem?_toArray, List.getElem?_cons_succ, List.getElem?_cons_zero] at q0 q1
  generalize (rget s).1 = n1 at *
  generalize (rget (rget s).2) = s2 at *
  rcases s2 with ⟨n2, s3⟩
  simp only at *
  go_wp2
  refine bodyPost_ret (v := .agg #[.int .i64 n1, .int .i64 n2]) ?_ rfl ?_
  · simp [results, Try.results40, go_sem, q0, q1]
  · refine ⟨by rw [e1.out], ?_, ?_⟩
    · rw [e2.out]
      exact (h2.set (by omega) (by omega)).set (by omega) (by omega)
    · have k3 : Kept (fun b => b = g) w w2 := (((Kept.refl _ w).alloc _).trans k1).trans k2
      exact (k3.setCell (fun e => by simp at e) _).setCell (fun e => by simp at e) _
/-! ### moves -/
def rnum : Nat → Nat → RS → Nat × RS
  | 0, n, s => (n, s)
  | k + 1, n, s => rnum k (n * 256 % 4294967296 + (rget s).1.toNat) (rget s).2
def rmove (s : RS) : Mv × RS :=
  let p := rplace s
  let q := rplace p.2
  let i := rget q.2
  let x := rnum 4 0 (i.2.1, i.2.2 || decide (1 < i.1))
  (⟨p.1, q.1, decide (i.1 = 1), x.1⟩, x.2)
def rloop : Nat → RS → List Mv × RS
  | 0, s => ([], s)
  | n + 1, s => if s.2 then ([], s) else ((rmove s).1 :: (rloop n (rmove s).2).1, (rloop n (rmove s).2).2)
def rmoves (s : RS) : List Mv × RS := rloop (rget s).1.toNat (rget s).2

theorem rmove_eq (s : RS) : rmove s = (⟨(rplace s).1, (rplace (rplace s).2).1, decide ((rget (rplace (rplace s).2).2).1 = 1),
    (rnum 4 0 ((rget (rplace (rplace s).2).2).2.1, (rget (rplace (rplace s).2).2).2.2 || decide (1 < (rget (rplace (rplace s).2).2).1))).1⟩,
    (rnum 4 0 ((rget (rplace (rplace s).2).2).2.1, (rget (rplace (rplace s).2).2).2.2 || decide (1 < (rget (rplace (rplace s).2).2).1))).2) := rfl
theorem or_u32 (n : Nat) (x : Int) (h0 : 0 ≤ x) (h1 : x ≤ 255) : bits .or .u32 ((n : Int) * 256 % 4294967296) x = ((n * 256 % 4294967296 + x.toNat : Nat) : Int) := by
  obtain ⟨y, rfl⟩ := Int.eq_ofNat_of_zero_le h0
  have e : (n : Int) * 256 % 4294967296 = ((n * 256 % 4294967296 : Nat) : Int) := by omega
  rw [e]
  have := bits_join .u32 32 (by decide) (fun n h h' => by rw [IntKind.wrap_u32]; exact Int.emod_eq_of_lt h (by simpa using h')) 8 (x := ((n * 256 % 4294967296 : Nat) : Int)) (y := (y : Int))
  have h2 : (2 : Int) ^ 8 = 256 := by decide
  have h3 : (2 : Int) ^ 32 = 4294967296 := by decide
  rw [h2, h3] at this
  rw [this (by omega) (by omega) (by omega) (by omega) (by omega) (by omega)]
  simp
theorem rnum_step {j n : Nat} {s : RS} {X : Nat × RS} (hj : j < 4) (h : rnum (4 - j) n s = X) : rnum (4 - (j + 1)) (n * 256 % 4294967296 + (rget s).1.toNat) (rget s).2 = X := by
  rw [← h, show 4 - j = (4 - (j + 1)) + 1 by omega]
  rfl
theorem rloop_step {N k k0 : Nat} {s0 : RS} {rest : List Int} {l : List Mv} {RM : Mv × RS} (hRM : RM = rmove (rest, false)) (hk0 : k0 = k + 1) (h : rloop N s0 = (l ++ (rloop k0 (rest, false)).1, (rloop k0 (rest, false)).2)) :
    rloop N s0 = ((l ++ [RM.1]) ++ (rloop k RM.2).1, (rloop k RM.2).2) := by
  rw [h, hRM, hk0]
  simp [rloop]

theorem slMove : SlTy Try.prog 70 99 6 40 := SlTy.mk' (z := .agg #[.int .i64 0, .int .i64 0, .int .i64 0, .int .i64 0, .bool false, .int .u32 0]) Try.underlying70 (by kernel_rfl) rfl (by decide)

theorem rget_by {s : RS} (h : ∀ x ∈ s.1, 0 ≤ x ∧ x ≤ 255) : 0 ≤ (rget s).1 ∧ (rget s).1 ≤ 255 ∧ ∀ x ∈ (rget s).2.1, 0 ≤ x ∧ x ≤ 255 := by
  obtain ⟨l, b⟩ := s
  cases l with
  | nil => exact ⟨by simp [rget], by simp [rget], by simp [rget]⟩
  | cons x r => exact ⟨(h x (by simp)).1, (h x (by simp)).2, fun y hy => h y (List.mem_cons_of_mem _ hy)⟩

/-- the row of moves that have been read -/
def MvOwn (w : World) (base : Nat) (v : Value) (l : List Mv) : Prop := w.ownsRow base 99 6 v l.length (l.flatMap Mv.cells)

theorem MvOwn.kept {w w' : World} {base : Nat} {v : Value} {l : List Mv} {S : Nat → Prop} (h : MvOwn w base v l) (hk : Kept S w w') (hs : ∀ b, v.ownBlock = some b → ¬ S b) : MvOwn w' base v l := own_kept h hk hs

theorem mvOwn_snoc {w : World} {base : Nat} {v : Value} {l : List Mv} {m : Mv} {n : Nat} (h : w.ownsRow base 99 6 v (l.length + 1) (l.flatMap Mv.cells ++ #[Value.int .i64 m.to.k, .int .i64 m.to.n, .int .i64 m.fr.k, .int .i64 m.fr.n, .bool m.c, .int .u32 (n : Int)].toList)) (hn : n = m.n) : MvOwn w base v (l ++ [m]) := by
  subst hn
  unfold MvOwn
  rw [List.flatMap_append, List.length_append]
  simpa [Mv.cells] using h

structure RmInv (w wr : World) (g B : Nat) (s0 : RS) (N n : Nat) (v : Value) : Prop where
  ex : ∃ (l : List Mv) (s : RS), Rdr wr g B s.1 s.2 ∧ MvOwn wr w.heap.size v l ∧ rloop N s0 = (l ++ (rloop n s).1, (rloop n s).2) ∧ l.length + n ≤ 255
  kept : Kept (fun b => b = g) w wr

set_option maxHeartbeats 2000000 in
set_option maxRecDepth 100000 in
theorem moves_any (g B : Nat) (s : RS) (w : World) (h : Rdr w g B s.1 s.2) (hg : B ≤ g) :
    Calls Try.prog 41 #[.pointer (some ⟨g, 0, none⟩)] w fun e w' => ∃ v, e = .returned v ∧ MvOwn w' w.heap.size v (rmoves s).1 ∧ Rdr w' g B (rmoves s).2.1 (rmoves s).2.2 ∧ Kept (fun b => b = g) w w' := by
  have hby := rget_by h.by_
  have hg0 := h.lt
  go_enter Try.func41, Try.ntmps41
  go_wp2_with fail
  refine (get_any g B s _ h hg).mono ?_
  rintro e w1 ⟨rfl, h1, k1⟩
  have z1 := k1.size
  have e0 : Hid (rmoves s = rloop (rget s).1.toNat (rget s).2) := rfl
  clear h
  generalize rget s = rs at *
  rcases rs with ⟨n0, s1⟩
  simp only at *
  obtain ⟨N, rfl⟩ := Int.eq_ofNat_of_zero_le hby.1
  go_wp2
  go_loopw [3, 4] (fun v n wr => ∃ k : Nat, n = .int .i64 k ∧ RmInv w wr g B s1 N k v) (fun _ n _ => (intOf n).toNat)
  case atStart =>
    refine ⟨N, rfl, ⟨[], s1, h1, World.ownsRow_nil _ _ _ _, by simp, by simp; omega⟩, k1⟩
  case round =>
    obtain ⟨k, rfl, ⟨l, s2, hrd, hown, hsp, hle⟩, hk⟩ := hrel
    rcases s2 with ⟨rest, bad⟩
    obtain ⟨A2, c2, hB, _⟩ := hrd.ex
    have q1 := hB.cell 1
    simp only [List.getElem?_toArray, List.getElem?_cons_succ, List.getElem?_cons_zero] at q1
    by_cases hk0 : k = 0
    · subst hk0
      have hsp2 : rloop N s1 = (l, (rest, bad)) := by rw [hsp]; simp [rloop]
      have HF := Lib.hid hsp2
      clear hsp hsp2
      go_wp2
      go_ret
      refine ⟨u3, rfl, ?_, ?_, hk⟩
      · rw [e0.out, Int.toNat_natCast, HF.out]; exact hown
      · rw [e0.out, Int.toNat_natCast, HF.out]; exact hrd
    · cases bad
      · have hkd : decide ((k : Int) > 0) = true := by simp; omega
        have hz := hk.size
        have hgl := hrd.lt
        go_wp2_with fail
        clear hB q1
        refine (place_any g B (rest, false) _ hrd hg).mono ?_
        rintro e wa ⟨rfl, ha, ka⟩
        obtain ⟨k1, hkk⟩ : ∃ k1, k = k1 + 1 := ⟨k - 1, by omega⟩
        obtain ⟨RM, hRM⟩ : ∃ RM, RM = rmove (rest, false) := ⟨_, rfl⟩
        have hsp1 := Lib.hid (rloop_step hRM hkk hsp)
        rw [rmove_eq] at hRM
        have HS := Lib.hid hRM
        have HK := Lib.hid hkk
        clear hsp hrd hRM hkk
        generalize rplace (rest, false) = p1 at *
        rcases p1 with ⟨⟨pk, pn⟩, sa⟩
        simp only [PlaceV.val] at *
        have za := ka.size
        go_wp2_with fail
        refine (place_any g B sa _ (ha.alloc _) hg).mono ?_
        rintro e wb ⟨rfl, hb, kb⟩
        have zb := kb.size
        simp only [World.size_alloc] at zb
        have mb := (Blk.new wa _ _).kept kb (fun e => by omega)
        generalize rplace sa = p2 at *
        rcases p2 with ⟨⟨qk, qn⟩, sb⟩
        simp only [PlaceV.val] at *
        have q0 := mb.cell 2
        have q1 := mb.cell 3
        have y0 := mb.frozen 2
        have y1 := mb.frozen 3
        simp only [List.getElem?_toArray, List.getElem?_cons_succ, List.getElem?_cons_zero] at q0 q1
        go_wp2_with fail
        refine (get_any g B sb _ ((hb.set (by omega) (by omega)).set (by omega) (by omega)) hg).mono ?_
        rintro e wc ⟨rfl, hc, kc⟩
        have mc := ((mb.set_ 2 (.int .i64 qk)).set_ 3 (.int .i64 qn)).kept kc (fun e => by omega)
        have zc := kc.size
        have hbc := rget_by hb.by_
        generalize rget sb = rs at *
        rcases rs with ⟨is, ⟨rc, bc⟩⟩
        simp only at *
        obtain ⟨A3, c3, hB3, _⟩ := hc.ex
        have qb := hB3.cell 1
        have yb := hB3.frozen 1
        have yc := mc.frozen 4
        have qc := mc.cell 4
        simp only [List.getElem?_toArray, List.getElem?_cons_succ, List.getElem?_cons_zero, List.setIfInBounds_toArray, List.set_cons_succ, List.set_cons_zero] at qb qc
        clear hB3
        have mc2 : Blk wc wa.heap.size 99 #[.int .i64 pk, .int .i64 pn, .int .i64 qk, .int .i64 qn, .bool false, .int .u32 0] := by simpa using mc
        clear mc mb q0 q1 y0 y1 z1 h1
        obtain ⟨b2, cv, hb2, hcv, hway⟩ : ∃ b2 cv : Bool, b2 = (bc || decide (1 < is)) ∧ cv = decide (is = 1) ∧ ((bc = true ∧ b2 = true ∧ cv = true ∧ (is == 1) = true) ∨ (bc = true ∧ b2 = true ∧ cv = false ∧ (is == 1) = false) ∨
            (bc = false ∧ b2 = true ∧ cv = false ∧ (is == 1) = false ∧ decide (1 < is) = true) ∨ (bc = false ∧ b2 = false ∧ cv = true ∧ (is == 1) = true ∧ decide (1 < is) = false) ∨ (bc = false ∧ b2 = false ∧ cv = false ∧ (is == 1) = false ∧ decide (1 < is) = false)) := by
          refine ⟨_, _, rfl, rfl, ?_⟩
          have g0 : decide (is = 1) = (is == 1) := rfl
          cases bc
          · rcases (show 1 < is ∨ is = 1 ∨ is = 0 by omega) with g1 | g1 | g1
            · exact .inr (.inr (.inl ⟨rfl, by simp; omega, by simp; omega, by simp; omega, by simp; omega⟩))
            · exact .inr (.inr (.inr (.inl ⟨rfl, by simp; omega, by simp; omega, by simp; omega, by simp; omega⟩)))
            · exact .inr (.inr (.inr (.inr ⟨rfl, by simp; omega, by simp; omega, by simp; omega, by simp; omega⟩)))
          · by_cases g1 : is = 1
            · exact .inl ⟨rfl, rfl, by simp; omega, by simp; omega⟩
            · exact .inr (.inl ⟨rfl, rfl, by simp; omega, by simp; omega⟩)
        have HS2 := HS.out
        rw [← hb2, ← hcv] at HS2
        have hd := (hc.setBad hg b2).set (b := wa.heap.size) (i := 4) (u := .bool cv) (by omega) (by omega)
        have md := (mc2.far (p := ⟨g, 1, none⟩) (by simp; omega) (.bool b2)).set_ 4 (.bool cv)
        simp only [List.set_cons_succ, List.set_cons_zero, List.setIfInBounds_toArray] at md
        have HR := Lib.hid HS2
        have HD := Lib.hid hd
        have HM := Lib.hid md
        have kd : Kept (fun b => b = g) w ((wc.setCell ⟨g, 1, none⟩ (.bool b2)).setCell ⟨wa.heap.size, 4, none⟩ (.bool cv)) := by
          have kx := ((((hk.trans ka).alloc (.cells #[.int .i64 pk, .int .i64 pn, .int .i64 0, .int .i64 0, .bool false, .int .u32 0] 99)).trans kb).setCell (p := ⟨wa.heap.size, 2, none⟩) (fun e => by simp at e; omega) (.int .i64 qk)).setCell (p := ⟨wa.heap.size, 3, none⟩) (fun e => by simp at e; omega) (.int .i64 qn)
          exact ((kx.trans kc).setCell (p := ⟨g, 1, none⟩) (fun _ => rfl) _).setCell (p := ⟨wa.heap.size, 4, none⟩) (fun e => by simp at e; omega) _
        have od : MvOwn ((wc.setCell ⟨g, 1, none⟩ (.bool b2)).setCell ⟨wa.heap.size, 4, none⟩ (.bool cv)) w.heap.size u3 l := by
          have ho0 := fun b (hb : u3.ownBlock = some b) => own_lt hown hb
          have o1 : MvOwn wb w.heap.size u3 l := MvOwn.kept (S := fun b => b = g) hown ((ka.alloc _).trans kb) (fun b hb e => by have := (ho0 b hb).1; have := hk.size; omega)
          have k3 : ∀ b, u3.ownBlock = some b → ¬ (b = wa.heap.size) := fun b hb e => by have := (ho0 b hb).2; have := ka.size; omega
          have o2 := (o1.kept ((Kept.refl (fun b => b = wa.heap.size) wb).setCell (p := ⟨wa.heap.size, 2, none⟩) (fun _ => rfl) (.int .i64 qk)) k3).kept ((Kept.refl (fun b => b = wa.heap.size) _).setCell (p := ⟨wa.heap.size, 3, none⟩) (fun _ => rfl) (.int .i64 qn)) k3
          have o3 := o2.kept kc (fun b hb e => by have := (ho0 b hb).1; have := hk.size; omega)
          exact (o3.kept ((Kept.refl (fun b => b = g) wc).setCell (p := ⟨g, 1, none⟩) (fun _ => rfl) (.bool b2)) (fun b hb e => by have := (ho0 b hb).1; have := hk.size; omega)).kept ((Kept.refl (fun b => b = wa.heap.size) _).setCell (p := ⟨wa.heap.size, 4, none⟩) (fun _ => rfl) (.bool cv)) k3
        have ho0 := fun b (hb : u3.ownBlock = some b) => own_lt hown hb
        have HO := Lib.hid ho0
        clear ho0
        have KD := Lib.hid kd
        have OD := Lib.hid od
        clear HS2 HS hd md hb2 hcv hc kd od ka kb kc hown hk ha hb
        have hwsz : wa.heap.size < wc.heap.size := by simp [World.setCell] at zc; omega
        rcases hway with ⟨rfl, rfl, rfl, g1⟩ | ⟨rfl, rfl, rfl, g1⟩ | ⟨rfl, rfl, rfl, g1, g2⟩ | ⟨rfl, rfl, rfl, g1, g2⟩ | ⟨rfl, rfl, rfl, g1, g2⟩
        all_goals
          go_wp2_with fail
          go_loopw [42] (fun i wr' => ∃ (j nj : Nat) (sj : RS), j ≤ 4 ∧ i = .int .i64 j ∧ Rdr wr' g B sj.1 sj.2 ∧ Blk wr' wa.heap.size 99 #[.int .i64 RM.1.to.k, .int .i64 RM.1.to.n, .int .i64 RM.1.fr.k, .int .i64 RM.1.fr.n, .bool RM.1.c, .int .u32 nj] ∧
            Hid (rnum (4 - j) nj sj = (RM.1.n, RM.2)) ∧ nj < 4294967296 ∧ Kept (fun b => b = g) w wr' ∧ MvOwn wr' w.heap.size u3 l ∧ wa.heap.size < wr'.heap.size) (fun i _ => 4 - (intOf i).toNat)
          case atStart =>
            refine ⟨0, 0, (rc, _), by omega, rfl, HD.out, ?_, ?_, by omega, KD.out, OD.out, ?_⟩
            · rw [HR.out]; exact HM.out
            · rw [HR.out]; exact Eq.refl _
            · simp [World.setCell]; exact hwsz
          case round =>
            obtain ⟨j, nj, sj, hj, rfl, hrd, hbm, hrn, hnj, hkj, hoj, hzj⟩ := hrel
            have q5 := hbm.cell 5
            have y5 := hbm.frozen 5
            simp only [List.getElem?_toArray, List.getElem?_cons_succ, List.getElem?_cons_zero] at q5
            obtain ⟨wo, rfl⟩ : ∃ wo : World, wo = wr := ⟨_, rfl⟩
            by_cases hj4 : j < 4
            · go_wp2_with fail
              have hrd2 : Rdr wo.drew g B sj.1 sj.2 := hrd.drew
              have hbm2 : Blk wo.drew wa.heap.size 99 #[.int .i64 RM.1.to.k, .int .i64 RM.1.to.n, .int .i64 RM.1.fr.k, .int .i64 RM.1.fr.n, .bool RM.1.c, .int .u32 nj] := hbm
              have hge := (rget_by hrd.by_)
              have hor := or_u32 nj (rget sj).1 hge.1 hge.2.1
              have hrn2 := rnum_step hj4 hrn.out
              have hnlt : nj * 256 % 4294967296 + (rget sj).1.toNat < 4294967296 := by omega
              generalize nj * 256 % 4294967296 + (rget sj).1.toNat = nn at *
              have HR2 := Lib.hid hrn2
              clear hrn2
              have HC := Lib.hid (get_any g B sj _ hrd2 hg)
              clear hrd2
              go_region_with (go_at_call 39; refine HC.out.mono ?_; rintro e we ⟨rfl, he, ke⟩; have be := hbm2.kept ke (fun e => by omega); have qe := be.cell 5; have ye := be.frozen 5; simp only [List.getElem?_toArray, List.getElem?_cons_succ, List.getElem?_cons_zero] at qe)
              all_goals
                have hsz := ke.size
                have b5 := be.set_ 5 (.int .u32 (nn : Int))
                simp only [List.set_cons_succ, List.set_cons_zero, List.setIfInBounds_toArray] at b5
                have H5 := Lib.hid b5
                clear b5
                go_wp2
                go_roundw
                case rel =>
                  rw [hor]
                  have ko := (Kept.refl (fun _ => False) wo).drew
                  refine ⟨j + 1, nn, (rget sj).2, by omega, by go_num, he.set (by omega) (by omega), H5.out, HR2.out, hnlt, ?_, ?_, ?_⟩
                  · exact ((hkj.trans (Kept.of_fr ko)).trans ke).setCell (fun e => by simp at e; omega) _
                  · exact (hoj.kept (((Kept.refl (fun b => b = g) wo).drew).trans ke) (fun b hb e => by have := (HO.out b hb).1; omega)).kept ((Kept.refl (fun b => b = wa.heap.size) we).setCell (p := ⟨wa.heap.size, 5, none⟩) (fun _ => rfl) _) (fun b hb e => by have := (HO.out b hb).2; omega)
                  · simp [World.setCell]; have : wo.drew.heap.size = wo.heap.size := rfl; omega
                case measure => simp [intOf]; omega
            · obtain rfl : j = 4 := by omega
              have e4 : nj = RM.1.n ∧ sj = RM.2 := by
                have := hrn.out
                simp only [Nat.sub_self, rnum, Prod.mk.injEq] at this
                exact this
              obtain ⟨e5, e6⟩ := e4
              have E5 := Lib.hid e5
              have E6 := Lib.hid e6
              clear e5 e6
              have p0 := hbm.cell 0
              have p1 := hbm.cell 1
              have p2 := hbm.cell 2
              have p3 := hbm.cell 3
              have p4 := hbm.cell 4
              simp only [List.getElem?_toArray, List.getElem?_cons_succ, List.getElem?_cons_zero] at p0 p1 p2 p3 p4
              go_wp2_with (first
                | (at_builtin
                   refine wpList_app _ rfl slMove (.tmp 53) (.tmp 55) rfl u3 _ _ rfl (World.ownsRow.alloc hoj _) (fun _ => True) _ 1 1 _ rfl (Reads.lit' (by simp) trivial rfl) ?_ ?_ ?_ ?_ ?_
                   · simp [Value.oneCell']
                   · omega
                   · unfold maxLen; omega
                   · have := hkj.size; simp; omega
                   intro v7 w7 hown7 hk7 hat7))
              go_roundw
              case rel =>
                have hz7 := hkj.size
                have hn7 : ∀ b, u3.ownBlock = some b → w.heap.size ≤ b := fun b hb => (HO.out b hb).1
                refine ⟨k1, congrArg (Value.int .i64) (by have := HK.out; omega), ⟨l ++ [RM.1], RM.2, ?_, mvOwn_snoc hown7 E5.out, hsp1.out, by have := HK.out; simp; omega⟩, ?_⟩
                · rw [← E6.out]
                  exact (hrd.alloc _).kept hk7 (fun e => by have := hn7 _ e; omega) (fun b hb e => by have := hn7 _ e; omega)
                · exact (hkj.alloc _).then hk7 (fun i hi e => by have := hn7 _ e; omega)
              case measure => simp [intOf]; omega
      · have hsp2 : rloop N s1 = (l, (rest, true)) := by
          rw [hsp]
          cases k with
          | zero => omega
          | succ k => simp [rloop]
        have HF := Lib.hid hsp2
        clear hsp hsp2
        have hkd : decide ((k : Int) > 0) = true := by simp; omega
        go_wp2
        go_ret
        refine ⟨u3, rfl, ?_, ?_, hk⟩
        · rw [e0.out, Int.toNat_natCast, HF.out]; exact hown
        · rw [e0.out, Int.toNat_natCast, HF.out]; exact hrd
end Go.Proofs.Ytodmkjeankbieaa
