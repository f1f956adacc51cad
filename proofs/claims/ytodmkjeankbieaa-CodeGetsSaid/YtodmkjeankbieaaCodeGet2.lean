/- The walk of code.Get: rows, all. -/
import Derived.Test.YtodmkjeankbieaaCodeGet
namespace Go.Proofs.Ytodmkjeankbieaa
open Go.RowKit Go.Sort

def rrow (s : RS) : Rw × RS :=
  (⟨(rplace s).1, (rplace (rplace s).2).1, (rplace (rplace (rplace s).2).2).1, (rmoves (rplace (rplace (rplace s).2).2).2).1, (rmoves (rmoves (rplace (rplace (rplace s).2).2).2).2).1⟩,
    (rmoves (rmoves (rplace (rplace (rplace s).2).2).2).2).2)
def rrows : Nat → RS → List Rw × RS
  | 0, s => ([], s)
  | n + 1, s => if s.2 then ([], s) else ((rrow s).1 :: (rrows n (rrow s).2).1, (rrows n (rrow s).2).2)
/-- what is read of bytes: places, and what is left -/
def rall (bs : List Int) : Pd × RS :=
  let a := rget (bs, false)
  let b := rget a.2
  let c := rrows b.1.toNat b.2
  (⟨a.1, c.1⟩, c.2)
def rGet (bs : List Int) : Option Pd := if (rall bs).2.2 || !(rall bs).2.1.isEmpty then none else some (rall bs).1

theorem rrows_step {N k k0 : Nat} {s0 : RS} {rest : List Int} {l : List Rw} {RM : Rw × RS} (hRM : RM = rrow (rest, false)) (hk0 : k0 = k + 1) (h : rrows N s0 = (l ++ (rrows k0 (rest, false)).1, (rrows k0 (rest, false)).2)) :
    rrows N s0 = ((l ++ [RM.1]) ++ (rrows k RM.2).1, (rrows k RM.2).2) := by
  rw [h, hRM, hk0]
  simp [rrows]

def ByL (s : RS) : Prop := ∀ x ∈ s.1, 0 ≤ x ∧ x ≤ 255
theorem rplace_ok {s : RS} (h : ByL s) : (rplace s).1.ok ∧ ByL (rplace s).2 := by
  have h1 := rget_by h
  have h2 := rget_by h1.2.2
  refine ⟨⟨?_, ?_⟩, h2.2.2⟩
  · show inI (rget s).1
    unfold inI; omega
  · show inI (rget (rget s).2).1
    unfold inI; omega
theorem rnum_ok : ∀ (k n : Nat) (s : RS), ByL s → n < 4294967296 → (rnum k n s).1 < 4294967296 ∧ ByL (rnum k n s).2
  | 0, _, _, h, hn => ⟨hn, h⟩
  | k + 1, n, s, h, _ => by
    have h1 := rget_by h
    exact rnum_ok k _ _ h1.2.2 (by omega)
theorem rmove_ok {s : RS} (h : ByL s) : (rmove s).1.ok ∧ ByL (rmove s).2 := by
  have h1 := rplace_ok h
  have h2 := rplace_ok h1.2
  have h3 := rget_by h2.2
  have h4 := rnum_ok 4 0 ((rget (rplace (rplace s).2).2).2.1, (rget (rplace (rplace s).2).2).2.2 || decide (1 < (rget (rplace (rplace s).2).2).1)) h3.2.2 (by omega)
  rw [rmove_eq]
  exact ⟨⟨h1.1, h2.1, h4.1⟩, h4.2⟩
theorem rloop_ok : ∀ (n : Nat) (s : RS), ByL s → (∀ m ∈ (rloop n s).1, m.ok) ∧ ByL (rloop n s).2
  | 0, s, h => ⟨by simp [rloop], h⟩
  | n + 1, s, h => by
    have h1 := rmove_ok h
    have h2 := rloop_ok n _ h1.2
    unfold rloop
    split
    · exact ⟨by simp, h⟩
    · exact ⟨by simp; exact ⟨h1.1, h2.1⟩, h2.2⟩
theorem rmoves_ok {s : RS} (h : ByL s) : (∀ m ∈ (rmoves s).1, m.ok) ∧ ByL (rmoves s).2 := rloop_ok _ _ (rget_by h).2.2
theorem rrow_ok {s : RS} (h : ByL s) : ((rrow s).1.d.ok ∧ (rrow s).1.a.ok ∧ (rrow s).1.b.ok ∧ (∀ m ∈ (rrow s).1.before, m.ok) ∧ (∀ m ∈ (rrow s).1.after, m.ok)) ∧ ByL (rrow s).2 := by
  have h1 := rplace_ok h
  have h2 := rplace_ok h1.2
  have h3 := rplace_ok h2.2
  have h4 := rmoves_ok h3.2
  have h5 := rmoves_ok h4.2
  exact ⟨⟨h1.1, h2.1, h3.1, h4.1, h5.1⟩, h5.2⟩

/-- two rows of the call's own whose elements are of two types do not share a block -/
theorem own_own_ne {w : World} {base e e' size size' n n' : Nat} {v v' : Value} {xs xs' : List Value} (h : w.ownsRow base e size v n xs) (h' : w.ownsRow base e' size' v' n' xs') (hne : e ≠ e') : ∀ k, v.ownBlock = some k → v'.ownBlock = some k → False := by
  intro k hk hk'
  rcases h.2 with ⟨rfl, _⟩ | ⟨g, cap, cur, rfl, _, hh, _⟩
  · simp [Value.ownBlock] at hk
  · rcases h'.2 with ⟨rfl, _⟩ | ⟨g', cap', cur', rfl, _, hh', _⟩
    · simp [Value.ownBlock] at hk'
    · have e1 : g = k := by simpa [Value.ownBlock] using hk
      have e2 : g' = k := by simpa [Value.ownBlock] using hk'
      subst e1 e2
      rw [hh] at hh'
      injection hh' with hh'
      injection hh' with _ ht
      exact hne ht

theorem slRow : SlTy Try.prog 32 72 8 96 := SlTy.mk' (z := .agg #[.int .i64 0, .int .i64 0, .int .i64 0, .int .i64 0, .int .i64 0, .int .i64 0, .slice none 0 0, .slice none 0 0]) Try.underlying32 (by kernel_rfl) rfl (by decide)

theorem own_mono {w : World} {base base' e size n : Nat} {v : Value} {xs : List Value} (h : w.ownsRow base' e size v n xs) (hb : base ≤ base') : w.ownsRow base e size v n xs := by
  refine ⟨h.1, ?_⟩
  rcases h.2 with h2 | ⟨g, cap, cur, hv, hg, r⟩
  · exact .inl h2
  · exact .inr ⟨g, cap, cur, hv, by omega, r⟩

/-- rows of the call's own, in blocks from base on and below M -/
structure RwOwn (w : World) (base M : Nat) (v : Value) (l : List RwV) : Prop where
  own : w.ownsRow base 72 8 v l.length (l.flatMap RwV.cells)
  lt : ∀ b, v.ownBlock = some b → b < M
  each : ∀ x ∈ l, (MvOwn w base x.vb x.r.before ∧ ∀ b, x.vb.ownBlock = some b → b < M) ∧ (MvOwn w base x.va x.r.after ∧ ∀ b, x.va.ownBlock = some b → b < M)
  pls : ∀ x ∈ l, x.r.d.ok ∧ x.r.a.ok ∧ x.r.b.ok ∧ (∀ m ∈ x.r.before, m.ok) ∧ (∀ m ∈ x.r.after, m.ok)

theorem RwOwn.kept {w w' : World} {base M : Nat} {v : Value} {l : List RwV} {S : Nat → Prop} (h : RwOwn w base M v l) (hk : Kept S w w') (hs : ∀ b, base ≤ b → b < M → ¬ S b) : RwOwn w' base M v l :=
  ⟨own_kept h.own hk (fun b hb => hs b (own_lt h.own hb).1 (h.lt b hb)), h.lt,
    fun x hx => ⟨⟨(h.each x hx).1.1.kept hk (fun b hb => hs b (own_lt (h.each x hx).1.1 hb).1 ((h.each x hx).1.2 b hb)), (h.each x hx).1.2⟩,
      ⟨(h.each x hx).2.1.kept hk (fun b hb => hs b (own_lt (h.each x hx).2.1 hb).1 ((h.each x hx).2.2 b hb)), (h.each x hx).2.2⟩⟩, h.pls⟩
theorem RwOwn.up {w : World} {base M M' : Nat} {v : Value} {l : List RwV} (h : RwOwn w base M v l) (hM : M ≤ M') : RwOwn w base M' v l :=
  ⟨h.own, fun b hb => by have := h.lt b hb; omega, fun x hx => ⟨⟨(h.each x hx).1.1, fun b hb => by have := (h.each x hx).1.2 b hb; omega⟩, ⟨(h.each x hx).2.1, fun b hb => by have := (h.each x hx).2.2 b hb; omega⟩⟩, h.pls⟩
theorem RwOwn.nil (w : World) (base M : Nat) : RwOwn w base M (.slice none 0 0) [] :=
  ⟨World.ownsRow_nil _ _ _ _, fun b hb => by simp [Value.ownBlock] at hb, by simp, by simp⟩

/-- one row more -/
theorem RwOwn.snoc {w w1 : World} {base M : Nat} {v v1 : Value} {l : List RwV} {x : RwV} (h : RwOwn w base M v l) (hx : MvOwn w base x.vb x.r.before ∧ MvOwn w base x.va x.r.after)
    (hp : x.r.d.ok ∧ x.r.a.ok ∧ x.r.b.ok ∧ (∀ m ∈ x.r.before, m.ok) ∧ (∀ m ∈ x.r.after, m.ok))
    (hk : Kept (fun k => v.ownBlock = some k) w w1) (hown : w1.ownsRow base 72 8 v1 (l.length + 1) (l.flatMap RwV.cells ++ x.cells)) : RwOwn w1 base w1.heap.size v1 (l ++ [x]) := by
  have ne : ∀ (u : Value) (m : List Mv), MvOwn w base u m → ∀ b, u.ownBlock = some b → ¬ v.ownBlock = some b := fun u m hu b hb hv => own_own_ne hu h.own (by decide) b hb hv
  refine ⟨?_, fun b hb => (own_lt hown hb).2, fun y hy => ?_, fun y hy => ?_⟩
  · rw [List.length_append, List.flatMap_append]
    simpa using hown
  · rcases List.mem_append.1 hy with hy | hy
    · have a1 := (h.each y hy).1.1.kept hk (ne _ _ (h.each y hy).1.1)
      have a2 := (h.each y hy).2.1.kept hk (ne _ _ (h.each y hy).2.1)
      exact ⟨⟨a1, fun b hb => (own_lt a1 hb).2⟩, ⟨a2, fun b hb => (own_lt a2 hb).2⟩⟩
    · simp only [List.mem_singleton] at hy
      subst hy
      have a1 := hx.1.kept hk (ne _ _ hx.1)
      have a2 := hx.2.kept hk (ne _ _ hx.2)
      exact ⟨⟨a1, fun b hb => (own_lt a1 hb).2⟩, ⟨a2, fun b hb => (own_lt a2 hb).2⟩⟩
  · rcases List.mem_append.1 hy with hy | hy
    · exact h.pls y hy
    · simp only [List.mem_singleton] at hy
      subst hy
      exact hp

/-- all that is kept through a round -/
structure Gt (w W : World) (lb base M : Nat) (slots : Int) (v : Value) (l : List RwV) : Prop where
  own : RwOwn W base M v l
  lbk : Blk W lb 34 #[.int .i64 slots, v]
  res : Blk W w.heap.size 34 #[.int .i64 0, .slice none 0 0]
  fr : Fr w W
theorem Gt.kept {w W W' : World} {lb base M : Nat} {slots : Int} {v : Value} {l : List RwV} {S : Nat → Prop} (h : Gt w W lb base M slots v l) (hk : Kept S W W') (h1 : ∀ b, base ≤ b → b < M → ¬ S b) (h2 : ¬ S lb) (h3 : ∀ b, b ≤ w.heap.size → ¬ S b) : Gt w W' lb base M slots v l :=
  ⟨h.own.kept hk h1, h.lbk.kept hk h2, h.res.kept hk (h3 _ (Nat.le_refl _)), h.fr.then hk (fun i hi e => h3 i (by omega) e)⟩
theorem Gt.set {w W : World} {lb base M b i : Nat} {slots : Int} {v u : Value} {l : List RwV} (h : Gt w W lb base M slots v l) (h1 : M ≤ b) (h2 : b ≠ lb) (h3 : w.heap.size < b) : Gt w (W.setCell ⟨b, i, none⟩ u) lb base M slots v l :=
  h.kept ((Kept.refl (fun k => k = b) W).setCell (p := ⟨b, i, none⟩) (fun _ => rfl) u) (fun _ _ _ e => by omega) (fun e => h2 e.symm) (fun _ _ e => by omega)
theorem Gt.alloc {w W : World} {lb base M : Nat} {slots : Int} {v : Value} {l : List RwV} (h : Gt w W lb base M slots v l) (o : Obj) : Gt w (W.alloc o) lb base M slots v l :=
  h.kept ((Kept.refl (fun _ => False) W).alloc o) (fun _ _ _ h => h) (fun h => h) (fun _ _ h => h)

structure GtInv (w wr : World) (B g rb lb base : Nat) (slots : Int) (s0 : RS) (N k : Nat) : Prop where
  ex : ∃ (l : List RwV) (s : RS) (v : Value), Rdr wr g B s.1 s.2 ∧ RwOwn wr base wr.heap.size v l ∧ Blk wr lb 34 #[.int .i64 slots, v] ∧ rrows N s0 = (l.map (·.r) ++ (rrows k s).1, (rrows k s).2) ∧ l.length + k ≤ 255
  res : Blk wr rb 34 #[.int .i64 0, .slice none 0 0]
  fr : Fr w wr
  sz : base ≤ wr.heap.size

theorem mvOwn_rd {w : World} {base : Nat} {v : Value} {l : List Mv} (h : MvOwn w base v l) (ho : ∀ m ∈ l, m.ok) : RdMv w (fun b => base ≤ b ∧ b < w.heap.size) v l := by
  obtain ⟨A, c, hv, hl, hr⟩ := own_reads h
  exact ⟨A, c, hv, hl, hr.more (fun b hb => ⟨hb.1, (own_lt h hb.2).2⟩), ho⟩
theorem RwOwn.rd {w : World} {base M : Nat} {v : Value} {l : List RwV} (h : RwOwn w base M v l) : RdRw w (fun b => base ≤ b ∧ b < w.heap.size) v l := by
  obtain ⟨A, c, hv, hl, hr⟩ := own_reads h.own
  exact ⟨A, c, hv, hl, hr.more (fun b hb => ⟨hb.1, (own_lt h.own hb.2).2⟩), fun x hx => ⟨(h.pls x hx).1, (h.pls x hx).2.1, (h.pls x hx).2.2.1, mvOwn_rd (h.each x hx).1.1 (h.pls x hx).2.2.2.1, mvOwn_rd (h.each x hx).2.1 (h.pls x hx).2.2.2.2⟩⟩

theorem rGet_none {bs : List Int} {p : Pd} {s : RS} (h : rall bs = (p, s)) (hb : s.2 = true ∨ s.1 ≠ []) : rGet bs = none := by
  unfold rGet
  rw [h]
  obtain ⟨l, b⟩ := s
  rcases hb with hb | hb
  · simp only at hb; subst hb; simp
  · cases l with
    | nil => exact absurd rfl hb
    | cons x r => simp
theorem rGet_some {bs : List Int} {p : Pd} (h : rall bs = (p, ([], false))) : rGet bs = some p := by
  unfold rGet
  rw [h]
  simp

/-- what code.Get answers -/
def GetRes (w : World) (bs : List Int) (e : Ending) (w' : World) : Prop :=
  Fr w w' ∧ ((rGet bs = none ∧ e = .returned (.tuple #[.agg #[.int .i64 0, .slice none 0 0], .int .i64 2])) ∨
    ∃ p v, rGet bs = some p ∧ e = .returned (.tuple #[v, .int .i64 0]) ∧ RdPd w' (fun b => w.heap.size ≤ b ∧ b < w'.heap.size) v p)

set_option maxHeartbeats 2000000 in
set_option maxRecDepth 100000 in
theorem Get_any (A : Option Addr) (c : Nat) (bs : List Int) (w : World) (hr : Reads w (fun b => b < w.heap.size) 1 A bs.length (byteVals bs)) (hby : ∀ x ∈ bs, 0 ≤ x ∧ x ≤ 255) (hl : bs.length ≤ c) (hc : c ≤ maxLen) :
    Calls Try.prog 22 #[.slice A bs.length c] w (GetRes w bs) := by
  have hw0 : Rdr ((w.alloc (.cells #[.int .i64 0, .slice none 0 0] 34)).alloc (.cells #[.slice A bs.length c, .bool false] 76)) (w.heap.size + 1) w.heap.size bs false := by
    refine ⟨⟨A, c, ?_, hl, hc, hr.kept (((Kept.refl (fun _ => False) w).alloc _).alloc _) (fun _ _ h => h)⟩, hby⟩
    have := Blk.new (w.alloc (.cells #[.int .i64 0, .slice none 0 0] 34)) 76 #[.slice A bs.length c, .bool false]
    simpa using this
  have hres0 : Blk ((w.alloc (.cells #[.int .i64 0, .slice none 0 0] 34)).alloc (.cells #[.slice A bs.length c, .bool false] 76)) w.heap.size 34 #[.int .i64 0, .slice none 0 0] := (Blk.new w _ _).alloc _
  have hb0 := rget_by (s := (bs, false)) hby
  have hall : Hid (rall bs = (⟨(rget (bs, false)).1, (rrows (rget (rget (bs, false)).2).1.toNat (rget (rget (bs, false)).2).2).1⟩, (rrows (rget (rget (bs, false)).2).1.toNat (rget (rget (bs, false)).2).2).2)) := rfl
  have f0 : Fr w ((w.alloc (.cells #[.int .i64 0, .slice none 0 0] 34)).alloc (.cells #[.slice A bs.length c, .bool false] 76)) := ((Kept.refl _ w).alloc _).alloc _
  have HW := Lib.hid hw0
  have HR := Lib.hid hres0
  clear hw0 hres0 hr
  go_enter Try.func22, Try.ntmps22
  go_wp2_with fail
  refine (get_any (w.heap.size + 1) w.heap.size (bs, false) _ HW.out (by omega)).mono ?_
  rintro e w1 ⟨rfl, h1, k1⟩
  have z1 := k1.size
  simp only [World.size_alloc] at z1
  have r1 := HR.out.kept k1 (fun e => by omega)
  have f1 : Fr w w1 := f0.then k1 (fun i hi e => by omega)
  clear HW HR f0
  have hb1 := rget_by hb0.2.2
  generalize rget (bs, false) = g0 at *
  rcases g0 with ⟨slots, s1⟩
  simp only at *
  go_wp2_with fail
  refine (get_any (w.heap.size + 1) w.heap.size s1 _ (h1.alloc _) (by omega)).mono ?_
  rintro e w2 ⟨rfl, h2, k2⟩
  have z2 := k2.size
  simp only [World.size_alloc] at z2
  have r2 := (r1.alloc _).kept k2 (fun e => by omega)
  have l2 := (Blk.new w1 _ _).kept k2 (fun e => by omega)
  have f2 : Fr w w2 := (f1.alloc _).then k2 (fun i hi e => by omega)
  clear h1 k1 r1 f1
  generalize rget s1 = g1 at *
  rcases g1 with ⟨n0, s2⟩
  simp only at *
  obtain ⟨N, rfl⟩ := Int.eq_ofNat_of_zero_le hb1.1
  go_wp2
  go_loopw [6] (fun n wr => ∃ k : Nat, n = .int .i64 k ∧ GtInv w wr w.heap.size (w.heap.size + 1) w.heap.size w1.heap.size (w1.heap.size + 1) slots s2 N k) (fun n _ => (intOf n).toNat)
  case atStart =>
    exact ⟨N, rfl, ⟨[], s2, .slice none 0 0, h2, RwOwn.nil _ _ _, l2, by simp, by simp; omega⟩, r2, f2, by omega⟩
  case round =>
    obtain ⟨k, rfl, ⟨l, s3, v, hrd, hown, hlb, hsp, hle⟩, hrs, hfr, hsz⟩ := hrel
    rcases s3 with ⟨rest, bad⟩
    obtain ⟨A2, c2, hB, _⟩ := id hrd.ex
    have q1 := hB.cell 1
    simp only [List.getElem?_toArray, List.getElem?_cons_succ, List.getElem?_cons_zero] at q1
    have hz := hfr.size
    have hall2 := hall.out
    rw [Int.toNat_natCast] at hall2
    by_cases hk0 : k = 0
    · subst hk0
      have hsp2 : rrows N s2 = (l.map (·.r), (rest, bad)) := by rw [hsp]; simp [rrows]
      rw [hsp2] at hall2
      have HA := Lib.hid hall2
      clear hsp hsp2 hall2 hall
      obtain ⟨Av, cv, rfl, _, _⟩ := own_reads hown.own
      have q0 := hB.cell 0
      have u0 := hlb.cell 0
      have u1 := hlb.cell 1
      have x0 := hrs.cell 0
      have x1 := hrs.cell 1
      have y0 := hrs.frozen 0
      have y1 := hrs.frozen 1
      simp only [List.getElem?_toArray, List.getElem?_cons_succ, List.getElem?_cons_zero] at q0 u0 u1 x0 x1
      cases bad
      · cases rest with
        | nil =>
          have hg := Lib.hid (rGet_some HA.out)
          clear HA
          simp only [List.length_nil] at q0
          go_wp2
          refine bodyPost_ret (v := .tuple #[.agg #[.int .i64 slots, .slice Av l.length cv], .int .i64 0]) ?_ rfl ?_
          · simp [results, Try.results22, go_sem, x0, x1]
          · have k1 := (Kept.refl (fun b => b = w.heap.size) wr).setCell (p := ⟨w.heap.size, 0, none⟩) (fun _ => rfl) (.int .i64 slots)
            have k2 := k1.setCell (p := ⟨w.heap.size, 1, none⟩) (fun _ => rfl) (.slice Av l.length cv)
            refine ⟨(hfr.setCell (fun e => by simp at e) _).setCell (fun e => by simp at e) _, .inr ⟨_, _, hg.out, rfl, ⟨_, l, rfl, ?_, (hown.kept k2 (fun b hb _ e => by omega)).rd.more (fun b hb => ⟨by omega, hb.2⟩), rfl⟩⟩⟩
            have := hb0
            simp only [inI]
            omega
        | cons y r =>
          have hg := Lib.hid (rGet_none HA.out (.inr (by simp)))
          clear HA
          have hlen : decide ((0 : Int) < ((y :: r).length : Int)) = true := by simp
          go_wp2
          refine bodyPost_ret (v := .tuple #[.agg #[.int .i64 0, .slice none 0 0], .int .i64 2]) ?_ rfl ?_
          · simp [results, Try.results22, go_sem, x0, x1]
          · exact ⟨(hfr.setCell (fun e => by simp at e) _).setCell (fun e => by simp at e) _, .inl ⟨hg.out, rfl⟩⟩
      · have hg := Lib.hid (rGet_none HA.out (.inl rfl))
        clear HA
        go_wp2
        refine bodyPost_ret (v := .tuple #[.agg #[.int .i64 0, .slice none 0 0], .int .i64 2]) ?_ rfl ?_
        · simp [results, Try.results22, go_sem, x0, x1]
        · exact ⟨(hfr.setCell (fun e => by simp at e) _).setCell (fun e => by simp at e) _, .inl ⟨hg.out, rfl⟩⟩
    · clear hall2
      cases bad
      · have hkd : decide ((k : Int) > 0) = true := by simp; omega
        go_wp2_with fail
        clear hB q1
        refine (place_any (w.heap.size + 1) w.heap.size (rest, false) _ hrd (by omega)).mono ?_
        rintro e wa ⟨rfl, ha, ka⟩
        obtain ⟨k1, hkk⟩ : ∃ k1, k = k1 + 1 := ⟨k - 1, by omega⟩
        obtain ⟨RM, hRM⟩ : ∃ RM, RM = rrow (rest, false) := ⟨_, rfl⟩
        have hsp1 := Lib.hid (rrows_step hRM hkk hsp)
        have hok := (rrow_ok (s := (rest, false)) hrd.by_).1
        rw [← hRM] at hok
        have HO := Lib.hid hok
        clear hok
        unfold rrow at hRM
        have HS := Lib.hid hRM
        have HK := Lib.hid hkk
        clear hsp hrd hRM hkk
        have Ga := (Gt.mk hown hlb hrs hfr).kept ka (fun b hb _ e => by omega) (fun e => by omega) (fun b _ e => by omega)
        have za := ka.size
        clear hown hlb hrs hfr ka
        generalize rplace (rest, false) = p1 at *
        rcases p1 with ⟨⟨pk, pn⟩, sa1⟩
        simp only [PlaceV.val] at *
        go_wp2_with fail
        refine (place_any (w.heap.size + 1) w.heap.size sa1 _ (ha.alloc _) (by omega)).mono ?_
        rintro e wb ⟨rfl, hb, kb⟩
        have Gb := (Ga.alloc (.cells #[.int .i64 pk, .int .i64 pn, .int .i64 0, .int .i64 0, .int .i64 0, .int .i64 0, .slice none 0 0, .slice none 0 0] 72)).kept kb (fun b hb _ e => by omega) (fun e => by omega) (fun b _ e => by omega)
        have xb := (Blk.new wa _ _).kept kb (fun e => by omega)
        have zb := kb.size
        simp only [World.size_alloc] at zb
        clear Ga ha kb
        generalize rplace sa1 = p2 at *
        rcases p2 with ⟨⟨ak, an⟩, sb1⟩
        simp only [PlaceV.val] at *
        have q2 := xb.cell 2
        have q3 := xb.cell 3
        have y2 := xb.frozen 2
        have y3 := xb.frozen 3
        simp only [List.getElem?_toArray, List.getElem?_cons_succ, List.getElem?_cons_zero] at q2 q3
        go_wp2_with fail
        refine (place_any (w.heap.size + 1) w.heap.size sb1 _ ((hb.set (by omega) (by omega)).set (by omega) (by omega)) (by omega)).mono ?_
        rintro e wc ⟨rfl, hc, kc⟩
        have xc := ((xb.set_ 2 (.int .i64 ak)).set_ 3 (.int .i64 an)).kept kc (fun e => by omega)
        simp only [List.set_cons_succ, List.set_cons_zero, List.setIfInBounds_toArray] at xc
        have Gc := ((Gb.set (b := wa.heap.size) (i := 2) (u := .int .i64 ak) (by omega) (by omega) (by omega)).set (b := wa.heap.size) (i := 3) (u := .int .i64 an) (by omega) (by omega) (by omega)).kept kc (fun b hb _ e => by omega) (fun e => by omega) (fun b _ e => by omega)
        have zc := kc.size
        simp [World.setCell] at zc
        clear Gb hb kc xb q2 q3 y2 y3
        generalize rplace sb1 = p3 at *
        rcases p3 with ⟨⟨bk, bn⟩, sc1⟩
        simp only [PlaceV.val] at *
        have q4 := xc.cell 4
        have q5 := xc.cell 5
        have y4 := xc.frozen 4
        have y5 := xc.frozen 5
        simp only [List.getElem?_toArray, List.getElem?_cons_succ, List.getElem?_cons_zero] at q4 q5
        go_wp2_with fail
        refine (moves_any (w.heap.size + 1) w.heap.size sc1 _ ((hc.set (by omega) (by omega)).set (by omega) (by omega)) (by omega)).mono ?_
        rintro e wd ⟨vb, rfl, ob, hd, kd⟩
        have xd := ((xc.set_ 4 (.int .i64 bk)).set_ 5 (.int .i64 bn)).kept kd (fun e => by omega)
        simp only [List.set_cons_succ, List.set_cons_zero, List.setIfInBounds_toArray] at xd
        have Gd := ((Gc.set (b := wa.heap.size) (i := 4) (u := .int .i64 bk) (by omega) (by omega) (by omega)).set (b := wa.heap.size) (i := 5) (u := .int .i64 bn) (by omega) (by omega) (by omega)).kept kd (fun b hb _ e => by omega) (fun e => by omega) (fun b _ e => by omega)
        have zd := kd.size
        simp [World.setCell] at zd ob
        clear Gc hc kd xc q4 q5 y4 y5
        generalize rmoves sc1 = m1 at *
        rcases m1 with ⟨lb1, sd1⟩
        simp only at *
        obtain ⟨Ab, cb, rfl, _, _⟩ := own_reads ob
        have q6 := xd.cell 6
        have y6 := xd.frozen 6
        simp only [List.getElem?_toArray, List.getElem?_cons_succ, List.getElem?_cons_zero] at q6
        go_wp2_with fail
        refine (moves_any (w.heap.size + 1) w.heap.size sd1 _ (hd.set (by omega) (by omega)) (by omega)).mono ?_
        rintro e we ⟨va, rfl, oa, he, ke⟩
        have xe := (xd.set_ 6 (.slice Ab lb1.length cb)).kept ke (fun e => by omega)
        simp only [List.set_cons_succ, List.set_cons_zero, List.setIfInBounds_toArray] at xe
        have Ge := (Gd.set (b := wa.heap.size) (i := 6) (u := .slice Ab lb1.length cb) (by omega) (by omega) (by omega)).kept ke (fun b hb _ e => by omega) (fun e => by omega) (fun b _ e => by omega)
        have obl := fun b hb => own_lt ob (g := b) hb
        have ob2 := (ob.kept ((Kept.refl (fun k => k = wa.heap.size) wd).setCell (p := ⟨wa.heap.size, 6, none⟩) (fun _ => rfl) (.slice Ab lb1.length cb)) (fun b hb e => by have := (obl b hb).1; omega)).kept ke (fun b hb e => by have := (obl b hb).1; omega)
        have ze := ke.size
        simp [World.setCell] at ze oa
        clear Gd hd ke xd q6 y6 ob
        generalize rmoves sd1 = m2 at *
        rcases m2 with ⟨la1, se1⟩
        simp only at *
        obtain ⟨Aa, ca, rfl, _, _⟩ := own_reads oa
        have oal := fun b hb => own_lt oa (g := b) hb
        have xf := xe.set_ 7 (.slice Aa la1.length ca)
        simp only [List.set_cons_succ, List.set_cons_zero, List.setIfInBounds_toArray] at xf
        have Gf := Ge.set (b := wa.heap.size) (i := 7) (u := .slice Aa la1.length ca) (by omega) (by omega) (by omega)
        have obf := ob2.kept ((Kept.refl (fun k => k = wa.heap.size) we).setCell (p := ⟨wa.heap.size, 7, none⟩) (fun _ => rfl) (.slice Aa la1.length ca)) (fun b hb e => by have := (obl b hb).1; omega)
        have oaf := oa.kept ((Kept.refl (fun k => k = wa.heap.size) we).setCell (p := ⟨wa.heap.size, 7, none⟩) (fun _ => rfl) (.slice Aa la1.length ca)) (fun b hb e => by have := (oal b hb).1; omega)
        have hf := he.set (b := wa.heap.size) (i := 7) (u := .slice Aa la1.length ca) (by omega) (by omega)
        have q7 := xe.cell 7
        have y7 := xe.frozen 7
        have HO1 := Lib.hid obl
        have HO2 := Lib.hid oal
        obtain ⟨Av, cv, rfl, _, _⟩ := own_reads Gf.own.own
        have q1 := Gf.lbk.cell 1
        have f0 := xf.cell 0
        have f1 := xf.cell 1
        have f2 := xf.cell 2
        have f3 := xf.cell 3
        have f4 := xf.cell 4
        have f5 := xf.cell 5
        have f6 := xf.cell 6
        have f7 := xf.cell 7
        simp only [List.getElem?_toArray, List.getElem?_cons_succ, List.getElem?_cons_zero] at q1 q7 f0 f1 f2 f3 f4 f5 f6 f7
        clear obl oal xe xf Ge he ob2 oa
        have zf : (we.setCell ⟨wa.heap.size, 7, none⟩ (.slice Aa la1.length ca)).heap.size = we.heap.size := by simp [World.setCell]
        have ZF := Lib.hid zf
        clear zf
        go_wp2_with (first
          | (at_builtin
             refine wpList_app _ rfl slRow (.tmp 43) (.tmp 45) rfl (.slice Av l.length cv) _ _ rfl (World.ownsRow.alloc Gf.own.own _) (fun _ => True) _ 1 1 _ rfl (Reads.lit' (by simp) trivial rfl) ?_ ?_ ?_ ?_ ?_
             · simp [Value.oneCell']
             · omega
             · unfold maxLen; omega
             · have := ZF.out; simp only [World.size_alloc]; omega
             intro v7 w7 hown7 hk7 hat7
             obtain ⟨A7, c7, rfl, _, _⟩ := own_reads hown7
             have G7 := Gf.alloc (.cells #[.int .i64 pk, .int .i64 pn, .int .i64 ak, .int .i64 an, .int .i64 bk, .int .i64 bn, .slice Ab lb1.length cb, .slice Aa la1.length ca] 72)
             have l7 := G7.lbk.kept hk7 (own_blk_ne G7.own.own G7.lbk (by decide))
             have p1 := l7.cell 1
             have y1 := l7.frozen 1
             simp only [List.getElem?_toArray, List.getElem?_cons_succ, List.getElem?_cons_zero] at p1))
        go_roundw
        case rel =>
          obtain rfl := HS.out
          have hn7 : ∀ b, (Value.slice Av l.length cv).ownBlock = some b → w1.heap.size + 1 ≤ b := fun b hb => (own_lt G7.own.own hb).1
          have hzz := hk7.size
          have zf := ZF.out
          simp only [World.size_alloc] at hzz
          have ox := G7.own.snoc (x := ⟨⟨⟨pk, pn⟩, ⟨ak, an⟩, ⟨bk, bn⟩, lb1, la1⟩, .slice Ab lb1.length cb, .slice Aa la1.length ca⟩) ⟨own_mono (World.ownsRow.alloc obf _) (by omega), own_mono (World.ownsRow.alloc oaf _) (by omega)⟩ HO.out hk7 hown7
          have kl := (Kept.refl (fun b => b = w1.heap.size) w7).setCell (p := ⟨w1.heap.size, 1, none⟩) (fun _ => rfl) (.slice A7 (l.length + 1) c7)
          have zl := kl.size
          refine ⟨k1, congrArg (Value.int .i64) (by have := HK.out; omega), ⟨_, se1, _, ?_, (ox.kept kl (fun b hb _ e => by omega)).up zl, ?_, ?_, by have := HK.out; simp; omega⟩, ?_, ?_, by omega⟩
          · exact ((hf.alloc _).kept hk7 (fun e => by have := hn7 _ e; omega) (fun b hb e => by have := hn7 _ e; omega)).set (by omega) (by omega)
          · have := l7.set_ 1 (.slice A7 (l.length + 1) c7)
            simpa using this
          · have := hsp1.out
            simpa using this
          · exact (G7.res.kept hk7 (fun e => by have := hn7 _ e; omega)).far (by simp; omega) _
          · exact (G7.fr.then hk7 (fun i hi e => by have := hn7 _ e; omega)).setCell (fun e => by simp at e; omega) _
        case measure => have := HK.out; simp [intOf]; omega
      · have hall2 := hall.out
        rw [Int.toNat_natCast] at hall2
        have hsp2 : rrows N s2 = (l.map (·.r), (rest, true)) := by
          rw [hsp]
          cases k with
          | zero => omega
          | succ k => simp [rrows]
        rw [hsp2] at hall2
        have hg := Lib.hid (rGet_none hall2 (.inl rfl))
        clear hsp hsp2 hall2 hall
        have hkd : decide ((k : Int) > 0) = true := by simp; omega
        have x0 := hrs.cell 0
        have x1 := hrs.cell 1
        have y0 := hrs.frozen 0
        have y1 := hrs.frozen 1
        simp only [List.getElem?_toArray, List.getElem?_cons_succ, List.getElem?_cons_zero] at x0 x1
        go_wp2
        refine bodyPost_ret (v := .tuple #[.agg #[.int .i64 0, .slice none 0 0], .int .i64 2]) ?_ rfl ?_
        · simp [results, Try.results22, go_sem, x0, x1]
        · exact ⟨(hfr.setCell (fun e => by simp at e) _).setCell (fun e => by simp at e) _, .inl ⟨hg.out, rfl⟩⟩
end Go.Proofs.Ytodmkjeankbieaa
