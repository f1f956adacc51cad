/- Queue, InsPlain, RunPlain2, BuildPlain, IdlePlain, StoPlain, HasPlain, ColorPlain, NearPlain, UniqPlain: texts of this claim, packed into one file. -/
import Derived.Test.YtodmkjeankbieabKCheckIdlek0
import Derived.ArgAppend
/- A queue: a slice of the call's own, popped ahead and appended to behind. No program in sight. -/
namespace Go.Proofs.Ytodmkjeankbieab
open Go.RowKit Go.Sort

/-- v is a slice of one-cell elements in a block of the call's own, from some cell on; it reads as l -/
def QRow (w : World) (base : Nat) (e : TypeId) (v : Value) (l : List Value) : Prop :=
  ∃ (g off cap : Nat) (cur : Array Value), v = .slice (some ⟨g, off, none⟩) l.length cap ∧ base ≤ g ∧ Blk w g e cur ∧ off + cap ≤ cur.size ∧ l.length ≤ cap ∧ cap ≤ maxLen ∧ ∀ j u, l[j]? = some u → cur[off + j]? = some u
section
variable {w w' : World} {base : Nat} {e : TypeId} {v : Value} {l : List Value}
theorem QRow.kept {S : Nat → Prop} (h : QRow w base e v l) (hk : Kept S w w') (hs : ∀ g, v.ownBlock = some g → ¬ S g) : QRow w' base e v l := by
  obtain ⟨g, off, cap, cur, rfl, hb, hB, r⟩ := h
  exact ⟨g, off, cap, cur, rfl, hb, hB.kept hk (hs g rfl), r⟩
theorem QRow.fr (h : QRow w base e v l) (hk : Fr w w') : QRow w' base e v l := h.kept hk (fun _ _ h => h)
theorem QRow.blk_ne {g : Nat} {t : TypeId} {cs : Array Value} (h : QRow w base e v l) (hg : Blk w g t cs) (hne : e ≠ t) : v.ownBlock ≠ some g := by
  obtain ⟨g', off, cap, cur, rfl, hb, hB, r⟩ := h
  intro he
  have : g' = g := by simpa [Value.ownBlock] using he
  subst this
  exact hB.ne_ hg hne rfl
theorem QRow.lt (h : QRow w base e v l) {g : Nat} (hg : v.ownBlock = some g) : base ≤ g ∧ g < w.heap.size := by
  obtain ⟨g', off, cap, cur, rfl, hb, hB, r⟩ := h
  have : g' = g := by simpa [Value.ownBlock] using hg
  subst this
  exact ⟨hb, hB.lt⟩
theorem QRow.one {g : Nat} {u : Value} (hb : base ≤ g) (hB : Blk w g e #[u]) : QRow w base e (.slice (some ⟨g, 0, none⟩) 1 1) [u] :=
  ⟨g, 0, 1, #[u], rfl, hb, hB, by simp, by simp, by decide, fun j x hj => by
    match j, hj with
    | 0, hj => simpa using hj⟩
theorem QRow.pop {x : Value} (h : QRow w base e v (x :: l)) : ∃ g off cap, v = .slice (some ⟨g, off, none⟩) (l.length + 1) cap ∧ g < w.heap.size ∧ l.length + 1 ≤ cap ∧ cap ≤ maxLen ∧ w.cell? ⟨g, off, none⟩ = some x ∧ QRow w base e (.slice (some ⟨g, off + 1, none⟩) l.length (cap - 1)) l := by
  obtain ⟨g, off, cap, cur, rfl, hb, hB, hs, hl, hm, hc⟩ := h
  simp only [List.length_cons] at hl
  refine ⟨g, off, cap, rfl, hB.lt, hl, hm, (hB.cell off).trans (hc 0 x rfl), g, off + 1, cap - 1, cur, rfl, hb, hB, by omega, by omega, by omega, fun j u hj => ?_⟩
  rw [show off + 1 + j = off + (j + 1) by omega]
  exact hc (j + 1) u (by simpa using hj)
theorem QRow.of_own {b n : Nat} {xs : List Value} (h : w.ownsRow b e 1 v n xs) (hn : 0 < n) (hb : base ≤ b) : QRow w base e v xs := by
  obtain ⟨hl, h2⟩ := h
  rcases h2 with ⟨_, h0⟩ | ⟨g, cap, cur, rfl, hg, hh, hnc, hcm, hcs, ht⟩
  · omega
  · have hl1 : xs.length = n := by omega
    refine ⟨g, 0, cap, cur, by rw [hl1], by omega, hh, by omega, by omega, hcm, fun j u hj => ?_⟩
    rw [← ht, List.getElem?_take] at hj
    split at hj
    · simpa using hj
    · cases hj
variable {P : Program}
theorem QRow.push {t : TypeId} {bytes : Nat} (hT : SlTy P t e 1 bytes) (h : QRow w base e v l) {R : Nat → Prop} {A : Option Addr} {c : Nat} {u : Value} (hr : Reads w R 1 A 1 [u]) (h1 : u.oneCell' = true)
    (hbytes : (l.length + 1) * bytes ≤ 140737488355328) (h63 : l.length + 1 ≤ maxLen) (hbase : base ≤ w.heap.size) (ty : TypeId) :
    ∃ v' w', (Builtin.append_ #[t, t] ty #[v, .slice A 1 c]).run P w = .ok v' w' ∧ QRow w' base e v' (l ++ [u]) ∧ Kept (fun k => v.ownBlock = some k) w w' ∧ (v'.ownBlock = v.ownBlock ∨ ∀ g, v'.ownBlock = some g → w.heap.size ≤ g) := by
  obtain ⟨i, z, hi, hz, hsize, hby, hzs⟩ := hT.ex
  obtain ⟨g, off, cap, cur, rfl, hb, hB, hs, hl, hm, hc⟩ := h
  obtain ⟨ba, oa, rfl, _, hca⟩ := hr.2 (by omega)
  have hnews : ∀ j x, [u][j]? = some x → w.cell? ((⟨ba, oa, none⟩ : Addr).add j) = some x := fun j x hj => by rw [add_none]; exact hca j x hj
  by_cases hroom : l.length + 1 ≤ cap
  · have hcell : (w.cell? ⟨g, off + l.length, none⟩).isSome = true := by
      rw [hB.cell, Array.getElem?_eq_getElem (by omega)]; rfl
    have hrun := run_append_room_cells (P := P) (w := w) t ty e i hT.ht hi g off l.length cap ⟨ba, oa, none⟩ 1 c [u] (by simp [hsize]) hnews (by simpa using h1) hroom
      (fun j hj => by
        have : j = 0 := by simpa using hj
        subst this; rw [hsize]; simpa using hcell)
      (fun j hj => by
        have : j = 0 := by simpa using hj
        subst this; rw [hsize]; simpa using hB.frozen (off + l.length))
    have hset : w.setCells g (off + l.length * i.size) [u] = w.setCell ⟨g, off + l.length, none⟩ u := by
      rw [hsize, Nat.mul_one]; rfl
    rw [hset] at hrun
    refine ⟨_, _, hrun, ⟨g, off, cap, _, by simp, hb, hB.set_ (off + l.length) u, by simpa using hs, by simpa using hroom, hm, fun j x hj => ?_⟩, ((Kept.refl (fun k => (Value.slice (some ⟨g, off, none⟩) l.length cap).ownBlock = some k) w).setCell (p := ⟨g, off + l.length, none⟩) (fun _ => rfl) u), Or.inl rfl⟩
    rw [Array.getElem?_setIfInBounds]
    by_cases ej : j = l.length
    · subst ej
      rw [if_pos rfl, if_pos (by omega)]
      simpa using hj
    · rw [if_neg (by omega)]
      have hjl : j < l.length := by
        have := (List.getElem?_eq_some_iff.1 hj).1
        simp at this; omega
      rw [List.getElem?_append_left hjl] at hj
      exact hc j x hj
  · obtain ⟨v', w', hrun, ho, hg⟩ := run_append_arg_grows (P := P) (w := w) t ty e i z 1 bytes hT.ht hi hz hsize hby hzs (by omega) ⟨g, off, none⟩ l.length cap l (by simp) (fun j x hj => by rw [add_none, hB.cell]; exact hc j x hj) ⟨ba, oa, none⟩ 1 c [u] (by simp) hnews (by omega) h63 hbytes
    exact ⟨v', w', hrun, QRow.of_own ho (by omega) hbase, (Kept.refl _ w).grown hg (fun k _ e => by cases e), Or.inr fun g hg => (own_lt ho hg).1⟩
theorem wp_push {o : Oper} {a : Act} {K : Act → World → Prop} {Q : Exit → Act → World → Prop} {t : TypeId} {bytes : Nat} (hT : SlTy P t e 1 bytes) (s x : Operand)
    (ho : o.op = .call { callee := .builtin .append, args := #[s, x], argTypes := #[t, t] })
    (hs : a.eval s = v) (h : QRow w base e v l) (R : Nat → Prop) (A : Option Addr) (c : Nat) (u : Value) (hx : a.eval x = .slice A 1 c) (hr : Reads w R 1 A 1 [u]) (h1 : u.oneCell' = true)
    (hbytes : (l.length + 1) * bytes ≤ 140737488355328) (h63 : l.length + 1 ≤ maxLen) (hbase : base ≤ w.heap.size)
    (hK : ∀ v' w', QRow w' base e v' (l ++ [u]) → Kept (fun k => v.ownBlock = some k) w w' → (v'.ownBlock = v.ownBlock ∨ ∀ g, v'.ownBlock = some g → w.heap.size ≤ g) → K (a.put o.dst v') w') : o.wp P a w K Q := by
  obtain ⟨v', w', hrun, h2, h3, h4⟩ := h.push hT hr h1 hbytes h63 hbase o.type
  unfold Oper.wp execOp
  simp only [ho, resolve, invoke, builtin, Sem.run_bind, Sem.run_pure, Result.andThen_ok, List.map_toArray, List.map_cons, List.map_nil, hs, hx]
  rw [hrun]
  exact hK v' w' h2 h3 h4
theorem wpList_push {ops : Array Oper} {rest : List Oper} {o : Oper} {a : Act} {Q : Exit → Act → World → Prop} (hgd : o.guard = none) {t : TypeId} {bytes : Nat} (hT : SlTy P t e 1 bytes) (s x : Operand)
    (ho : o.op = .call { callee := .builtin .append, args := #[s, x], argTypes := #[t, t] })
    (hs : a.eval s = v) (h : QRow w base e v l) (R : Nat → Prop) (A : Option Addr) (c : Nat) (u : Value) (hx : a.eval x = .slice A 1 c) (hr : Reads w R 1 A 1 [u]) (h1 : u.oneCell' = true)
    (hbytes : (l.length + 1) * bytes ≤ 140737488355328) (h63 : l.length + 1 ≤ maxLen) (hbase : base ≤ w.heap.size)
    (hK : ∀ v' w', QRow w' base e v' (l ++ [u]) → Kept (fun k => v.ownBlock = some k) w w' → (v'.ownBlock = v.ownBlock ∨ ∀ g, v'.ownBlock = some g → w.heap.size ≤ g) → wpList P ops Q rest (a.put o.dst v') w') : wpList P ops Q (o :: rest) a w :=
  wpList_plain hgd fun _ hK' => wp_push hT s x ho hs h R A c u hx hr h1 hbytes h63 hbase fun v' w' h2 h3 h4 => hK' _ _ (hK v' w' h2 h3 h4)
/-- the first is taken off; where there is no room behind it the row stays where it was -/
theorem QRow.popV {t : TypeId} {bytes : Nat} (hT : SlTy P t e 1 bytes) {x : Value} (h : QRow w base e v (x :: l)) : ∃ g off cap v', v = .slice (some ⟨g, off, none⟩) (l.length + 1) cap ∧ g < w.heap.size ∧ l.length + 1 ≤ cap ∧ cap ≤ maxLen ∧ w.cell? ⟨g, off, none⟩ = some x ∧ QRow w base e v' l ∧
    ∀ w2 : World, (Instr.slice t (.slice (some ⟨g, off, none⟩) (l.length + 1) cap) (some (.int .i64 1)) none none).run P w2 = .ok v' w2 := by
  obtain ⟨i, z, hi, hz, hsize, hby, hzs⟩ := hT.ex
  obtain ⟨g, off, cap, cur, rfl, hb, hB, hs, hl, hm, hc⟩ := h
  simp only [List.length_cons] at hl
  have hu := hT.ht
  by_cases hc1 : cap = 1
  · subst hc1
    have h0 : l.length = 0 := by omega
    have hl0 : l = [] := List.eq_nil_of_length_eq_zero h0
    subst hl0
    refine ⟨g, off, 1, .slice (some ⟨g, off, none⟩) 0 0, rfl, hB.lt, by simp, by decide, (hB.cell off).trans (hc 0 x rfl), ⟨g, off, 0, cur, rfl, hb, hB, by omega, by simp, by decide, fun j u hj => by simp at hj⟩, fun w2 => ?_⟩
    have h01 : (0 : Int) ≤ 1 ∧ (1 : Int) ≤ ((1 : Nat) : Int) := by omega
    simp [Instr.slice, Instr.sliceBounds, Instr.sliceBound, asIntOf, run_underlying hu, sizeOf, typeInfo, hi, hsize]
  · refine ⟨g, off, cap, .slice (some ⟨g, off + 1, none⟩) l.length (cap - 1), rfl, hB.lt, hl, hm, (hB.cell off).trans (hc 0 x rfl), ⟨g, off + 1, cap - 1, cur, rfl, hb, hB, by omega, by omega, by omega, fun j u hj => ?_⟩, fun w2 => ?_⟩
    · rw [show off + 1 + j = off + (j + 1) by omega]
      exact hc (j + 1) u (by simpa using hj)
    · have h01 : (1 : Int) ≤ (l.length : Int) + 1 := by omega
      simp [Instr.slice, Instr.sliceBounds, Instr.sliceBound, asIntOf, run_underlying hu, sizeOf, typeInfo, hi, hsize, h01, hc1, Addr.add]
end
end Go.Proofs.Ytodmkjeankbieab

/- An instruction's fields, of those that may be. No program in sight. -/
namespace Go.Proofs.Ytodmkjeankbieab

theorem ins_fields {p : Pg} {i : In} (h : insB p i = true) (hl : 1 ≤ p.wide.length) : (0 ≤ i.a ∧ i.a < p.wide.length) ∧ (0 ≤ i.b ∧ i.b < p.wide.length) ∧ (0 ≤ i.d ∧ i.d < p.wide.length) ∧ 0 ≤ i.c := by
  rw [insB_eq] at h
  unfold insR at h
  simp only [Bool.and_eq_true] at h
  obtain ⟨⟨⟨_, h2⟩, h3⟩, _⟩ := h
  obtain ⟨⟨h2, h5⟩, h6⟩ := h2
  have hf : ∀ (b : Bool) (n : Int), fieldR p.wide b n = true → 0 ≤ n ∧ n < p.wide.length := by
    intro b n hb
    cases b with
    | true => simpa [fieldR, inB] using hb
    | false => simp [fieldR] at hb; omega
  refine ⟨hf _ _ h5, hf _ _ h6, hf _ _ h2, ?_⟩
  split at h3
  · simp [inB] at h3; omega
  · simp at h3; omega

end Go.Proofs.Ytodmkjeankbieab

/- How a machine that tells its end late stands for a run; what a run's loop holds. No program in sight. -/
namespace Go.Proofs.Ytodmkjeankbieab

/-- where a machine stands, by its own count: that it has ended is told at the end -/
def unF (r : Sh) : Sh := ⟨r.pc, r.ins, r.out, r.steps, if r.state = 2 then 0 else r.state⟩
def rawStep (r : Sh) (i : In) (a : Int) : Sh :=
  ⟨pcV i r.pc a, if i.op = 3 then r.ins.tail else r.ins, if i.op = 4 then r.out ++ [a % 4294967296] else r.out, r.steps + 1, if i.op = 10 then 1 else r.state⟩
theorem raw_step {code : List In} {x : Sh} (h0 : x.state = 0) (a : Int) : rawStep (unF x) (inAt code x.pc) a = unF (shStep code x a) := by
  unfold rawStep unF shStep stV
  simp only [h0]
  by_cases h : (inAt code x.pc).op = 10
  · simp [h]
  · by_cases h2 : code.length ≤ pcV (inAt code x.pc) x.pc a
    · simp [h, h2]
    · simp [h, h2]

section
variable {σ : Type} {code : List In} {M : Mach σ} {x0 : Sh × σ} {n : Nat}
/-- a run's loop of at most n steps stands at x -/
structure At (code : List In) (M : Mach σ) (x0 : Sh × σ) (n : Nat) (x : Sh × σ) : Prop where
  k : x = mRun code M x.1.steps x0
  le : x.1.steps ≤ n
  st0 : x.1.state = 0 → x.1.pc < code.length
  st2 : x.1.state = 2 → code.length ≤ x.1.pc
  st : x.1.state ≤ 2
theorem At.start (s : σ) (ins : List Int) (h : 1 ≤ code.length) : At code M (sh0 ins, s) n (sh0 ins, s) :=
  ⟨rfl, Nat.zero_le _, fun _ => h, fun h => by simp [sh0] at h, by simp [sh0]⟩
theorem At.step {x : Sh × σ} (h : At code M x0 n x) (h0 : x.1.state = 0) (hs : x.1.steps < n) : At code M x0 n (mStep code M x) := by
  have e : (mStep code M x).1.steps = x.1.steps + 1 := rfl
  have e2 : ∀ a, stV code.length (inAt code x.1.pc) x.1.pc a = 0 → pcV (inAt code x.1.pc) x.1.pc a < code.length := by
    intro a; unfold stV; split
    · intro h; cases h
    · split
      · intro h; cases h
      · intro _; omega
  have e3 : ∀ a, stV code.length (inAt code x.1.pc) x.1.pc a = 2 → code.length ≤ pcV (inAt code x.1.pc) x.1.pc a := by
    intro a; unfold stV; split
    · intro h; cases h
    · split
      · intro _; assumption
      · intro h; cases h
  have e4 : ∀ a, stV code.length (inAt code x.1.pc) x.1.pc a ≤ 2 := by
    intro a; unfold stV; split
    · omega
    · split <;> omega
  refine ⟨?_, by rw [e]; omega, e2 _, e3 _, e4 _⟩
  rw [e, mRun_succ, ← h.k, if_pos h0]
theorem At.stop {x : Sh × σ} (h : At code M x0 n x) (hs : x.1.state ≠ 0 ∨ ¬ x.1.steps < n) : x = mRun code M n x0 := by
  have hn : n = x.1.steps + (n - x.1.steps) := by have := h.le; omega
  have h2 : mRun code M n x0 = mRun code M (n - x.1.steps) x := by
    conv => lhs; rw [hn, mRun_add, ← h.k]
  rw [h2]
  rcases hs with hs | hs
  · rw [mRun_stop _ hs]
  · rw [show n - x.1.steps = 0 by omega]; rfl
/-- the machine may go on just where the run does -/
theorem At.goes {x : Sh × σ} (h : At code M x0 n x) : ((unF x.1).state = 0 ∧ x.1.pc < code.length) ↔ x.1.state = 0 := by
  have := h.st; have := h.st0; have := h.st2
  unfold unF
  simp only
  constructor
  · rintro ⟨h1, h2⟩
    split at h1
    · omega
    · exact h1
  · intro h1
    exact ⟨by rw [if_neg (by omega)]; exact h1, h.st0 h1⟩
theorem At.ended {x : Sh × σ} (h : At code M x0 n x) (h1 : (unF x.1).state = 0) (h2 : code.length ≤ x.1.pc) : x.1 = ⟨x.1.pc, x.1.ins, x.1.out, x.1.steps, 2⟩ := by
  have h3 : x.1.state = 2 := by
    have := h.st0
    unfold unF at h1; simp only at h1
    split at h1
    · assumption
    · have := this h1; omega
  obtain ⟨⟨_, _, _, _, _⟩, _⟩ := x
  simp only at h3 ⊢
  rw [h3]
theorem At.same {x : Sh × σ} (h : At code M x0 n x) (h1 : (unF x.1).state ≠ 0 ∨ x.1.pc < code.length) : unF x.1 = x.1 := by
  have h3 : x.1.state ≠ 2 := by
    intro e
    have := h.st2 e
    rcases h1 with h1 | h1
    · unfold unF at h1; simp [e] at h1
    · omega
  obtain ⟨⟨_, _, _, _, _⟩, _⟩ := x
  simp only at h3
  unfold unF
  simp only
  rw [if_neg h3]
/-- bounds of what a run holds -/
theorem At.out {x : Sh × σ} (h : At code M x0 n x) (h0 : x0.1.out = []) : x.1.out.length ≤ n := by
  have := mRun_outlen (code := code) (M := M) x.1.steps x0
  rw [← h.k, h0] at this
  have := h.le
  simp at *
  omega
theorem mStep_ins (x : Sh × σ) : ∀ y ∈ (mStep code M x).1.ins, y ∈ x.1.ins := by
  unfold mStep shStep
  simp only
  split
  · intro y hy; exact List.mem_of_mem_tail hy
  · exact fun _ h => h
theorem mRun_ins (n : Nat) (x : Sh × σ) : ∀ y ∈ (mRun code M n x).1.ins, y ∈ x.1.ins := by
  induction n generalizing x with
  | zero => exact fun _ h => h
  | succ n ih =>
    rw [mRun]
    split
    · intro y hy; exact mStep_ins x y (ih _ y hy)
    · exact fun _ h => h
theorem At.ins {x : Sh × σ} (h : At code M x0 n x) : ∀ y ∈ x.1.ins, y ∈ x0.1.ins := by
  have := mRun_ins (code := code) (M := M) x.1.steps x0
  rwa [← h.k] at this
theorem mStep_insl (x : Sh × σ) : (mStep code M x).1.ins.length ≤ x.1.ins.length := by
  unfold mStep shStep
  simp only
  split <;> simp
end

/-- the temporaries of a run: numbers of their widths -/
structure Temps (p : Pg) (T : Int → Int) : Prop where
  ge : ∀ t, 0 ≤ T t
  lt : ∀ t, T t < 18446744073709551616
  nar : ∀ t, wd p.wide t = false → T t < 4294967296
theorem Temps.zero (p : Pg) : Temps p (fun _ => 0) := ⟨fun _ => by decide, fun _ => by decide, fun _ _ => by decide⟩
theorem Temps.step {p : Pg} {x : Sh × (Int → Int)} (h : Temps p x.2) (hm : mayB p = true) (hn : NumOk p) (hp : x.1.pc < p.code.length) (hi : ∀ y ∈ x.1.ins, 0 ≤ y ∧ y < 4294967296) : Temps p (mStep p.code (mTemps p) x).2 := by
  have hI := inAt_mem hp
  have hok := insOk (mayB_ins hm hI)
  show Temps p (if gvs (inAt p.code x.1.pc).op then upd x.2 (inAt p.code x.1.pc).d (giveV (inAt p.code x.1.pc) (x.2 (inAt p.code x.1.pc).a) (x.2 (inAt p.code x.1.pc).b) (x.1.ins.headD 0)) else x.2)
  by_cases hg : gvs (inAt p.code x.1.pc).op = true
  · rw [if_pos hg]
    have hx : 0 ≤ x.1.ins.headD 0 ∧ x.1.ins.headD 0 < 4294967296 := by
      cases h0 : x.1.ins with
      | nil => simp
      | cons y l => exact hi y (by rw [h0]; simp)
    obtain ⟨g1, g2⟩ := giveV_range (fun t => ⟨h.ge t, h.lt t⟩) h.nar hok (hn _ hI) hg hx
    refine ⟨fun t => ?_, fun t => ?_, fun t ht => ?_⟩
    · unfold upd; split
      · exact g1.1
      · exact h.ge t
    · unfold upd; split
      · exact g1.2
      · exact h.lt t
    · unfold upd; split
      · rename_i e; subst e; exact g2 ht
      · exact h.nar t ht
  · rw [if_neg hg]; exact h

/-- what a run shows in few steps and in more -/
theorem run_longer (p : Pg) (ins : List Int) {few more : Nat} (h : few ≤ more) :
    (runV p ins few).out <+: (runV p ins more).out ∧ ((runV p ins few).state ≠ 0 → runV p ins more = runV p ins few) ∧ (runV p ins few).steps ≤ few ∧ ((runV p ins few).state = 0 → (runV p ins few).steps = few) := by
  unfold runV
  have e := mRun_add (code := p.code) (M := mTemps p) few (more - few) (sh0 ins, fun _ => 0)
  rw [show few + (more - few) = more by omega] at e
  have h1 := mRun_steps (code := p.code) (M := mTemps p) few (sh0 ins, fun _ => 0)
  refine ⟨?_, ?_, ?_, ?_⟩
  · rw [e]; exact mRun_out _ _
  · intro h; rw [e, mRun_stop _ h]
  · have := h1.1; simpa [sh0] using this
  · intro h; have := h1.2 h; simpa [sh0] using this
end Go.Proofs.Ytodmkjeankbieab

/- The places that are made, plainly: they may be, and are taken, if registers of two that are near do not overlap. No program in sight. -/
namespace Go.Proofs.Ytodmkjeankbieab

def regAt (regs : List PlaceV) (t : Int) : PlaceV := regs.getD t.toNat ⟨0, 0⟩
/-- a register that is kept free: the first or the second one -/
def scr (wide : List Bool) (sg t j : Int) : PlaceV := if wd wide t then ⟨2, sg / 2 - 1 - j⟩ else ⟨1, sg - 2 - 2 * j⟩
def slotP (t : Int) : PlaceV := ⟨3, t⟩
/-- where a temporary is at home -/
def home (regs : List PlaceV) (t : Int) : PlaceV := if (regAt regs t).k ≠ 0 then regAt regs t else slotP t
def takeP (wide : List Bool) (sg : Int) (regs : List PlaceV) (t j : Int) : PlaceV := if (regAt regs t).k ≠ 0 then regAt regs t else scr wide sg t j
def takeM (wide : List Bool) (sg : Int) (regs : List PlaceV) (kn : Int → Option Nat) (t j : Int) : List Mv :=
  if (regAt regs t).k ≠ 0 then [] else [match kn t with | none => ⟨scr wide sg t j, slotP t, false, 0⟩ | some n => ⟨scr wide sg t j, ⟨0, 0⟩, true, n⟩]
def destP (wide : List Bool) (sg : Int) (regs : List PlaceV) (i : In) : PlaceV := if gvs i.op then takeP wide sg regs i.d 0 else ⟨0, 0⟩
def afterM (wide : List Bool) (sg : Int) (regs : List PlaceV) (i : In) : List Mv :=
  if gvs i.op = true ∧ (regAt regs i.d).k = 0 then [⟨slotP i.d, destP wide sg regs i, false, 0⟩] else []
def rowF (wide : List Bool) (sg : Int) (regs : List PlaceV) (kn : Int → Option Nat) (i : In) : Rw where
  d := destP wide sg regs i
  a := if 0 < many i.op then takeP wide sg regs i.a 0 else ⟨0, 0⟩
  b := if 1 < many i.op then takeP wide sg regs i.b 1 else ⟨0, 0⟩
  before := (if 0 < many i.op then takeM wide sg regs kn i.a 0 else []) ++ (if 1 < many i.op then takeM wide sg regs kn i.b 1 else [])
  after := afterM wide sg regs i
def rowsF (p : Pg) (sg : Int) (regs : List PlaceV) (kn : Nat → Int → Option Nat) : List Rw := (List.range p.code.length).map fun k => rowF p.wide sg regs (kn k) (inAt p.code k)
def placedF (p : Pg) (sg : Int) (regs : List PlaceV) (kn : Nat → Int → Option Nat) : Pd := ⟨p.wide.length, rowsF p sg regs kn⟩

/-- registers that temporaries may have -/
structure ColOk (p : Pg) (sg : Int) (regs : List PlaceV) : Prop where
  len : regs.length = p.wide.length
  reg : ∀ t : Nat, t < p.wide.length → (regAt regs t).k ≠ 0 → IsReg p sg 0 t (regAt regs t)
  zero : ∀ t : Nat, t < p.wide.length → (regAt regs t).k = 0 → regAt regs t = ⟨0, 0⟩
  apart : ∀ a b : Nat, a < p.wide.length → b < p.wide.length → nearB p.code a b = true → (regAt regs a).k ≠ 0 → (regAt regs b).k ≠ 0 → ovP (regAt regs a) (regAt regs b) = false

section
variable {p : Pg} {sg : Int} {regs : List PlaceV}

theorem isB_more {sg sl sg' sl' : Int} {a : PlaceV} (h : isB sg sl a = true) (h1 : sg ≤ sg') (h2 : sl ≤ sl') : isB sg' sl' a = true := by
  unfold isB at *
  have h := of_decide_eq_true h
  apply decide_eq_true
  split at h
  · rw [if_pos ‹_›]; omega
  · rw [if_neg ‹_›]
    split at h
    · rw [if_pos ‹_›]; omega
    · rw [if_neg ‹_›]
      split at h
      · rw [if_pos ‹_›]; omega
      · omega
theorem scr_reg (h4 : 4 ≤ sg) (sl t j : Int) (hj : j = 0 ∨ j = 1) : IsReg p sg sl t (scr p.wide sg t j) := by
  unfold IsReg scr isB
  cases wd p.wide t with
  | true => simp; omega
  | false => simp; omega
theorem slot_isB {sl t : Int} (h : 0 ≤ t ∧ t < sl) : isB sg sl (slotP t) = true := by
  unfold isB slotP; simp; exact h

/-- no home overlaps a register that is kept free -/
theorem home_scr (h2 : sg % 2 = 0) (hc : ColOk p (sg - 4) regs) {t : Nat} (ht : t < p.wide.length) (u j : Int) (hj : j = 0 ∨ j = 1) : ovP (home regs t) (scr p.wide sg u j) = false := by
  unfold home
  by_cases h0 : (regAt regs t).k ≠ 0
  · rw [if_pos h0]
    obtain ⟨hk, hb⟩ := hc.reg t ht h0
    generalize regAt regs t = a at *
    obtain ⟨k, n⟩ := a
    simp only at hk
    subst hk
    unfold isB at hb
    have hb := of_decide_eq_true hb
    unfold ovP scr
    cases h : wd p.wide (t : Int) <;> cases h' : wd p.wide u <;> simp [h] at hb ⊢ <;> omega
  · rw [if_neg h0]
    unfold ovP scr slotP
    cases h' : wd p.wide u <;> simp
theorem scr_scr (h2 : sg % 2 = 0) (t u : Int) : ovP (scr p.wide sg t 0) (scr p.wide sg u 1) = false := by
  unfold ovP scr
  cases wd p.wide t <;> cases wd p.wide u <;> simp <;> omega

theorem move_keep {s : FS} {m : Mv} {f : Fc} (h : s f) (ho : ovP f.pl m.to = false) (ht : f.t ≠ -1) : moveF p s m f := Or.inl ⟨h, Or.inr ho, Or.inr ht⟩
theorem move_has {s : FS} {m : Mv} {t : Int} (hc : m.c = false) (h : s (hasF m.fr t)) (hm : mayT p.wide m.to.k t = true) : moveF p s m (hasF m.to t) :=
  Or.inr (Or.inr (Or.inr ⟨hc, _, h, rfl, Or.inl ⟨rfl, hm, rfl⟩⟩))
theorem mayT_scr (t j : Int) : mayT p.wide (scr p.wide sg t j).k t = true := by
  unfold mayT scr
  cases wd p.wide t <;> simp
theorem mayT_slot (t : Int) : mayT p.wide (slotP t).k t = true := by unfold mayT slotP; simp

/-- what is known of homes -/
def Ys (p : Pg) (regs : List PlaceV) (k : Nat) : FS := fun f => ∃ t : Nat, t < p.wide.length ∧ needB p.code k t = true ∧ f = hasF (home regs t) t

theorem inAt_rows {l : Pd} {kn : Nat → Int → Option Nat} (hl : l = placedF p sg regs kn) {k : Nat} (hk : k < p.code.length) : rwAt l.rows k = rowF p.wide sg regs (kn k) (inAt p.code k) := by
  subst hl
  unfold placedF rowsF
  rw [rwAt_get (by simpa using hk)]
  simp

def noKn : Nat → Int → Option Nat := fun _ _ => none

theorem takeM_move {kn : Int → Option Nat} {t j : Int} (hn : kn t = none) {m : Mv} (h : m ∈ takeM p.wide sg regs kn t j) : m = ⟨scr p.wide sg t j, slotP t, false, 0⟩ ∧ (regAt regs t).k = 0 := by
  unfold takeM at h
  split at h
  · simp at h
  · rename_i hk
    rw [hn] at h
    simp at h
    exact ⟨h, by simpa using hk⟩

/-- through the moves ahead: homes are kept, and what is taken lies where it says -/
theorem before_ok (h2 : sg % 2 = 0) (hc : ColOk p (sg - 4) regs) {i : In} (hi : InsOk p i) {s : FS} (ha : 0 < many i.op → s (hasF (home regs i.a) i.a)) (hb : 1 < many i.op → s (hasF (home regs i.b) i.b)) :
    (∀ t : Nat, t < p.wide.length → s (hasF (home regs t) t) → movesF p s (rowF p.wide sg regs (noKn 0) i).before (hasF (home regs t) t)) ∧ tookF p s i (rowF p.wide sg regs (noKn 0) i) := by
  have keep1 : ∀ (s : FS) (u j : Int) (hj : j = 0 ∨ j = 1) (t : Nat), t < p.wide.length → s (hasF (home regs t) t) → movesF p s (takeM p.wide sg regs (noKn 0) u j) (hasF (home regs t) t) := by
    intro s u j hj t ht hs
    unfold takeM
    split
    · exact hs
    · exact move_keep hs (home_scr h2 hc ht u j hj) (by show (t : Int) ≠ -1; omega)
  have app : ∀ (s : FS) (l l' : List Mv), movesF p s (l ++ l') = movesF p (movesF p s l) l' := fun s l l' => List.foldl_append
  have toA : ∀ x, tempIn p x → ∃ t : Nat, t < p.wide.length ∧ x = (t : Int) := fun x hx => ⟨x.toNat, by have := hx.1; have := hx.2; omega, by have := hx.1; omega⟩
  have take1 : ∀ (s : FS) (u j : Int), s (hasF (home regs u) u) → movesF p s (takeM p.wide sg regs (noKn 0) u j) (hasF (takeP p.wide sg regs u j) u) := by
    intro s u j hs
    unfold takeM takeP home at *
    by_cases h0 : (regAt regs u).k ≠ 0
    · rw [if_pos h0] at hs
      rw [if_pos h0, if_pos h0]
      exact hs
    · rw [if_neg h0] at hs
      rw [if_neg h0, if_neg h0]
      exact move_has (m := ⟨scr p.wide sg u j, slotP u, false, 0⟩) rfl hs (mayT_scr u j)
  refine ⟨fun t ht hs => ?_, fun hm => ?_, fun hm => ?_⟩
  · unfold rowF
    simp only
    rw [app]
    have h1 : movesF p s (if 0 < many i.op then takeM p.wide sg regs (noKn 0) i.a 0 else []) (hasF (home regs t) t) := by
      by_cases h : 0 < many i.op
      · rw [if_pos h]; exact keep1 s _ 0 (Or.inl rfl) t ht hs
      · rw [if_neg h]; exact hs
    generalize movesF p s (if 0 < many i.op then takeM p.wide sg regs (noKn 0) i.a 0 else []) = s1 at *
    by_cases h : 1 < many i.op
    · rw [if_pos h]; exact keep1 _ _ 1 (Or.inr rfl) t ht h1
    · rw [if_neg h]; exact h1
  · unfold rowF
    simp only
    rw [if_pos hm, if_pos hm, app]
    have h1 := take1 s i.a 0 (ha hm)
    generalize movesF p s (takeM p.wide sg regs (noKn 0) i.a 0) = s1 at *
    by_cases h : 1 < many i.op
    · rw [if_pos h]
      unfold takeM
      by_cases h0 : (regAt regs i.b).k ≠ 0
      · rw [if_pos h0]; exact h1
      · rw [if_neg h0]
        refine move_keep (m := ⟨scr p.wide sg i.b 1, slotP i.b, false, 0⟩) h1 ?_ ?_
        · show ovP (takeP p.wide sg regs i.a 0) (scr p.wide sg i.b 1) = false
          unfold takeP
          by_cases h0 : (regAt regs i.a).k ≠ 0
          · rw [if_pos h0]
            obtain ⟨t, ht, e⟩ := toA _ (hi.a hm)
            have := home_scr h2 hc ht i.b 1 (Or.inr rfl)
            unfold home at this
            rw [e] at h0 ⊢
            rwa [if_pos h0] at this
          · rw [if_neg h0]; exact scr_scr h2 _ _
        · show i.a ≠ -1
          have := (hi.a hm).1; omega
    · rw [if_neg h]; exact h1
  · unfold rowF
    simp only
    rw [if_pos hm, if_pos (by omega), if_pos hm, app]
    apply take1
    obtain ⟨t, ht, e⟩ := toA _ (hi.b hm)
    have := hb hm
    rw [e] at this ⊢
    exact keep1 s _ 0 (Or.inl rfl) t ht this

theorem needB_of_takes {code : List In} {k : Nat} {t : Nat} (h : takesB (inAt code k) t = true) : needB code k t = true := by
  rw [needB_step]; unfold stepM; rw [h]; rfl
theorem needB_of_behind {code : List In} {k m t : Nat} (hm : m ∈ nx code k) (h : needB code m t = true) (hg : givesB (inAt code k) t = false) : needB code k t = true := by
  rw [needB_step]; unfold stepM behindM
  rw [hg]
  simp only [Bool.not_false, Bool.true_and, Bool.or_eq_true, List.any_eq_true]
  exact Or.inr ⟨m, hm, h⟩
theorem takes_a {i : In} {t : Nat} (h : 0 < many i.op) (e : i.a = (t : Int)) : takesB i t = true := by
  unfold takesB uses
  rw [List.contains_iff_mem, e]
  have : many i.op = 1 ∨ many i.op = 2 := by unfold many at *; split at h <;> (try split at h) <;> simp_all
  rcases this with h | h <;> rw [h] <;> simp
theorem takes_b {i : In} {t : Nat} (h : 1 < many i.op) (e : i.b = (t : Int)) : takesB i t = true := by
  unfold takesB uses
  rw [List.contains_iff_mem, e]
  have : many i.op = 2 := by unfold many at *; split at h <;> (try split at h) <;> simp_all
  rw [this]; simp

theorem home_isB (hc : ColOk p (sg - 4) regs) {t : Nat} (ht : t < p.wide.length) : isB sg (p.wide.length : Int) (home regs t) = true ∧ mayT p.wide (home regs t).k t = true := by
  unfold home
  by_cases h0 : (regAt regs t).k ≠ 0
  · rw [if_pos h0]
    obtain ⟨hk, hb⟩ := hc.reg t ht h0
    refine ⟨isB_more hb (by omega) (by omega), ?_⟩
    unfold mayT
    rw [hk]
    cases wd p.wide (t : Int) <;> simp
  · rw [if_neg h0]
    exact ⟨slot_isB (by omega), mayT_slot _⟩
theorem ovP_reg_eq {a b : PlaceV} (h : ovP a b = true) (hk : a.k = b.k) : a = b := by
  unfold ovP at h
  split at h
  · omega
  · split at h
    · omega
    · have := of_decide_eq_true h
      obtain ⟨ak, an⟩ := a
      obtain ⟨bk, bn⟩ := b
      simp only at this
      rw [this.1, this.2]
theorem home_slot {t : Nat} {d : Int} (hne : (t : Int) ≠ d) (hr : (regAt regs t).k ≠ 3) : ovP (home regs t) (slotP d) = false := by
  unfold home
  by_cases h0 : (regAt regs t).k ≠ 0
  · rw [if_pos h0]
    unfold ovP slotP
    simp [hr]
  · rw [if_neg h0]
    unfold ovP slotP
    simp [hne]

/-- what is known of homes is a solution, and what is taken is where it says -/
theorem ys_sol (hm : mayB p = true) (h4 : 4 ≤ sg) (h2 : sg % 2 = 0) (hc : ColOk p (sg - 4) regs) {l : Pd} (hl : l = placedF p sg regs noKn) :
    IsSol p sg l (Ys p regs) ∧ ∀ k, Come p.code k → tookF p (Ys p regs k) (inAt p.code k) (rwAt l.rows k) := by
  have hlen := mayB_len hm
  have toA : ∀ x, tempIn p x → ∃ t : Nat, t < p.wide.length ∧ x = (t : Int) := fun x hx => ⟨x.toNat, by have := hx.1; have := hx.2; omega, by have := hx.1; omega⟩
  have hreg3 : ∀ t : Nat, t < p.wide.length → (regAt regs t).k ≠ 3 := by
    intro t ht h3
    obtain ⟨hk, _⟩ := hc.reg t ht (by omega)
    rw [hk] at h3
    split at h3 <;> omega
  have hmid : ∀ k, Come p.code k → (∀ t : Nat, t < p.wide.length → Ys p regs k (hasF (home regs t) t) → movesF p (Ys p regs k) (rowF p.wide sg regs (noKn 0) (inAt p.code k)).before (hasF (home regs t) t)) ∧
      tookF p (Ys p regs k) (inAt p.code k) (rowF p.wide sg regs (noKn 0) (inAt p.code k)) := by
    intro k hk
    have hkl := hk.lt (by omega)
    have hi := insOk (mayB_ins hm (inAt_mem hkl))
    refine before_ok h2 hc hi (fun hg => ?_) (fun hg => ?_)
    · obtain ⟨t, ht, e⟩ := toA _ (hi.a hg)
      exact ⟨t, ht, needB_of_takes (takes_a hg e), by rw [e]⟩
    · obtain ⟨t, ht, e⟩ := toA _ (hi.b hg)
      exact ⟨t, ht, needB_of_takes (takes_b hg e), by rw [e]⟩
  refine ⟨⟨?_, ?_⟩, ?_⟩
  · rintro f ⟨t, ht, _, rfl⟩
    obtain ⟨b1, b2⟩ := home_isB (sg := sg) hc ht
    refine ⟨Or.inr (Or.inl ⟨?_, rfl, rfl, ⟨by show (0 : Int) ≤ t; omega, by show (t : Int) < _; omega⟩, b2⟩), rfl⟩
    subst hl
    exact b1
  · rintro k hk m hmk f ⟨t, ht, hnd, rfl⟩
    have hkl := hk.lt (by omega)
    have hi := insOk (mayB_ins hm (inAt_mem hkl))
    obtain ⟨q1, _⟩ := hmid k hk
    rw [inAt_rows hl hkl]
    generalize hI : inAt p.code k = i at *
    unfold thruF
    by_cases hg : gvs i.op = true
    · obtain ⟨d, hd, ed⟩ := toA _ (hi.d hg)
      by_cases htd : t = d
      · -- it is what is given
        subst htd
        have h1 : insF (movesF p (Ys p regs k) (rowF p.wide sg regs (noKn k) i).before) i (rowF p.wide sg regs (noKn k) i).d (hasF (destP p.wide sg regs i) t) := by
          unfold insF
          rw [if_pos hg, ← ed]
          exact Or.inr (Or.inr (Or.inr rfl))
        show movesF p _ (afterM p.wide sg regs i) (hasF (home regs t) t)
        unfold afterM
        by_cases h0 : (regAt regs i.d).k = 0
        · rw [if_pos ⟨hg, h0⟩]
          have e : home regs (t : Int) = slotP i.d := by unfold home; rw [← ed, if_neg (by simpa using h0)]
          rw [e]
          exact move_has (m := ⟨slotP i.d, destP p.wide sg regs i, false, 0⟩) rfl h1 (by rw [ed]; exact mayT_slot _)
        · rw [if_neg (fun h => h0 h.2)]
          have e : home regs (t : Int) = destP p.wide sg regs i := by unfold home destP takeP; rw [if_pos hg, ← ed, if_pos h0, if_pos h0]
          rw [e]
          exact h1
      · have hng : givesB i t = false := by
          unfold givesB
          rw [ed]
          simp
          intro _; omega
        have hnk : needB p.code k t = true := needB_of_behind hmk hnd (by rw [hI]; exact hng)
        have hs := q1 t ht ⟨t, ht, hnk, rfl⟩
        have hbeh : behindM p.code (needB p.code) k t = true := by
          unfold behindM
          rw [List.any_eq_true]
          exact ⟨m, hmk, hnd⟩
        have h1 : insF (movesF p (Ys p regs k) (rowF p.wide sg regs (noKn k) i).before) i (rowF p.wide sg regs (noKn k) i).d (hasF (home regs t) t) := by
          unfold insF
          rw [if_pos hg]
          show giveF _ i (destP p.wide sg regs i) _
          by_cases hov : ovP (home regs t) (destP p.wide sg regs i) = false
          · exact Or.inl ⟨hs, Or.inr hov, Or.inr (by show (t : Int) ≠ i.d; omega)⟩
          · have hov : ovP (home regs t) (destP p.wide sg regs i) = true := by simpa using hov
            unfold destP takeP at hov
            rw [if_pos hg] at hov
            by_cases h0 : (regAt regs i.d).k ≠ 0
            · rw [if_pos h0] at hov
              by_cases hrt : (regAt regs t).k ≠ 0
              · have eh : home regs (t : Int) = regAt regs t := by unfold home; rw [if_pos hrt]
                rw [eh] at hov ⊢
                by_cases hmv : i.op = 2 ∧ i.a = (t : Int)
                · -- a move of this one
                  have hk2 : (regAt regs t).k = (regAt regs i.d).k := by
                    have r1 := (hc.reg t ht hrt).1
                    have r2 := (hc.reg d hd (by rw [← ed]; exact h0)).1
                    rw [← ed] at r2
                    rw [r1, r2, hi.w2 hmv.1, hmv.2]
                  have e := ovP_reg_eq hov hk2
                  refine Or.inr (Or.inr (Or.inl ⟨hmv.1, Or.inr ?_⟩))
                  rw [e, hmv.2]
                  unfold destP takeP
                  rw [if_pos hg, if_pos h0]
                · exfalso
                  have hnear : nearB p.code t d = true := by
                    unfold nearB
                    simp only [Bool.and_eq_true, decide_eq_true_eq, Bool.or_eq_true, List.any_eq_true, List.mem_range]
                    refine ⟨htd, Or.inr ⟨k, hkl, Or.inr ?_⟩⟩
                    unfold nearAt
                    rw [hI, hbeh]
                    have hgd : givesB i d = true := by unfold givesB; rw [hg, ed]; simp
                    rw [hgd]
                    have hx : (decide (i.op = 2) && decide (i.a = (t : Int))) = false := by
                      rw [Bool.eq_false_iff]
                      intro h
                      simp at h
                      exact hmv h
                    rw [hx]; rfl
                  have := hc.apart t d ht hd hnear hrt (by rw [← ed]; exact h0)
                  rw [← ed] at this
                  rw [this] at hov
                  cases hov
              · exfalso
                have eh : home regs (t : Int) = slotP t := by unfold home; rw [if_neg hrt]
                rw [eh] at hov
                have r3 := hreg3 d hd
                rw [← ed] at r3
                unfold ovP slotP at hov
                simp at hov
                exact r3 hov.1.symm
            · rw [if_neg h0, home_scr h2 hc ht i.d 0 (Or.inl rfl)] at hov
              cases hov
        show movesF p _ (afterM p.wide sg regs i) (hasF (home regs t) t)
        unfold afterM
        split
        · exact move_keep h1 (home_slot (by omega) (hreg3 t ht)) (by show (t : Int) ≠ -1; omega)
        · exact h1
    · have hng : givesB i t = false := by unfold givesB; simp [hg]
      have hnk : needB p.code k t = true := needB_of_behind hmk hnd (by rw [hI]; exact hng)
      have hs := q1 t ht ⟨t, ht, hnk, rfl⟩
      show movesF p _ (afterM p.wide sg regs i) (hasF (home regs t) t)
      unfold afterM insF
      rw [if_neg hg, if_neg (fun h => hg h.1)]
      exact hs
  · intro k hk
    have hkl := hk.lt (by omega)
    rw [inAt_rows hl hkl]
    exact (hmid k hk).2

theorem build_taken (hm : mayB p = true) (h4 : 4 ≤ sg) (h2 : sg % 2 = 0) (hc : ColOk p (sg - 4) regs) : Taken p sg (placedF p sg regs noKn) := by
  obtain ⟨h1, h3⟩ := ys_sol hm h4 h2 hc rfl
  exact taken_of_sol h1 h3

/-! ### the places that are made may be -/
theorem takeP_reg (h4 : 4 ≤ sg) (hc : ColOk p (sg - 4) regs) {x : Int} (hx : tempIn p x) (j : Int) (hj : j = 0 ∨ j = 1) (sl : Int) (hs : 0 ≤ sl) : IsReg p sg sl x (takeP p.wide sg regs x j) := by
  unfold takeP
  by_cases h0 : (regAt regs x).k ≠ 0
  · rw [if_pos h0]
    obtain ⟨t, ht, rfl⟩ : ∃ t : Nat, t < p.wide.length ∧ x = (t : Int) := ⟨x.toNat, by have := hx.1; have := hx.2; omega, by have := hx.1; omega⟩
    obtain ⟨hk, hb⟩ := hc.reg t ht h0
    exact ⟨hk, isB_more hb (by omega) hs⟩
  · rw [if_neg h0]
    exact scr_reg h4 sl x j hj
theorem plB_reg {wide : List Bool} {sg sl : Int} {l : UInt8} {t : Int} {a : PlaceV} (hl : decide (l = 45) = false) (hr : a.k = (if wd wide t then 2 else 1) ∧ isB sg sl a = true) : plB wide sg sl l t a = true := by
  have hl := of_decide_eq_false hl
  unfold plB kindV
  rw [if_neg hl, hr.2]
  obtain ⟨h1, _⟩ := hr
  cases hw : wd wide t <;> rw [hw] at h1 <;> simp at h1 <;> simp [h1]
theorem plB_none {wide : List Bool} {sg sl : Int} {l : UInt8} {t : Int} (hl : decide (l = 45) = true) : plB wide sg sl l t ⟨0, 0⟩ = true := by
  have hl := of_decide_eq_true hl
  unfold plB kindV
  rw [if_pos hl]; simp
theorem mv_scr (h4 : 4 ≤ sg) {sl x j : Int} (hx : 0 ≤ x ∧ x < sl) (hj : j = 0 ∨ j = 1) : mvB sg sl ⟨scr p.wide sg x j, slotP x, false, 0⟩ = true := by
  have h1 := scr_reg (p := p) h4 sl x j hj
  have h3 : (scr p.wide sg x j).k ≠ 3 := by rw [h1.1]; split <;> omega
  unfold mvB
  simp only [h1.2, slot_isB hx]
  simp [slotP, h3]
theorem takeM_ok (h4 : 4 ≤ sg) {sl x j : Int} (hx : 0 ≤ x ∧ x < sl) (hj : j = 0 ∨ j = 1) : (takeM p.wide sg regs (noKn 0) x j).all (mvB sg sl) = true ∧ (takeM p.wide sg regs (noKn 0) x j).length ≤ 1 := by
  unfold takeM
  by_cases h0 : (regAt regs x).k ≠ 0
  · rw [if_pos h0]; simp
  · rw [if_neg h0]
    have := mv_scr (p := p) h4 hx hj
    simp [noKn, this]
theorem row_may (h4 : 4 ≤ sg) (hc : ColOk p (sg - 4) regs) {i : In} (hi : InsOk p i) : rwB p sg p.wide.length i (rowF p.wide sg regs (noKn 0) i) = true := by
  obtain ⟨s0, s1, s2⟩ := shape_there hi.kn
  have hsl : (0 : Int) ≤ p.wide.length := by omega
  unfold rwB
  simp only [Bool.and_eq_true]
  refine ⟨⟨⟨?_, ?_⟩, ?_⟩, ⟨?_, ?_⟩, ?_⟩
  · show plB _ _ _ _ _ (destP p.wide sg regs i) = true
    unfold destP
    by_cases hg : gvs i.op = true
    · rw [if_pos hg]
      exact plB_reg (by rw [s0, hg]; rfl) (takeP_reg h4 hc (hi.d hg) 0 (Or.inl rfl) _ hsl)
    · rw [if_neg hg]
      exact plB_none (by rw [s0]; simpa using hg)
  · show plB _ _ _ _ _ (if 0 < many i.op then takeP p.wide sg regs i.a 0 else ⟨0, 0⟩) = true
    by_cases hg : 0 < many i.op
    · rw [if_pos hg]
      exact plB_reg (by rw [s1, decide_eq_true hg]; rfl) (takeP_reg h4 hc (hi.a hg) 0 (Or.inl rfl) _ hsl)
    · rw [if_neg hg]
      exact plB_none (by rw [s1, decide_eq_false hg]; rfl)
  · show plB _ _ _ _ _ (if 1 < many i.op then takeP p.wide sg regs i.b 1 else ⟨0, 0⟩) = true
    by_cases hg : 1 < many i.op
    · rw [if_pos hg]
      exact plB_reg (by rw [s2, decide_eq_true hg]; rfl) (takeP_reg h4 hc (hi.b hg) 1 (Or.inr rfl) _ hsl)
    · rw [if_neg hg]
      exact plB_none (by rw [s2, decide_eq_false hg]; rfl)
  · unfold rowF mvsB
    simp only [List.all_append, List.length_append, Bool.and_eq_true, decide_eq_true_eq]
    have ha : (if 0 < many i.op then takeM p.wide sg regs (noKn 0) i.a 0 else []).all (mvB sg p.wide.length) = true ∧ (if 0 < many i.op then takeM p.wide sg regs (noKn 0) i.a 0 else []).length ≤ 1 := by
      by_cases hg : 0 < many i.op
      · rw [if_pos hg]; exact takeM_ok h4 (hi.a hg) (Or.inl rfl)
      · rw [if_neg hg]; simp
    have hb : (if 1 < many i.op then takeM p.wide sg regs (noKn 0) i.b 1 else []).all (mvB sg p.wide.length) = true ∧ (if 1 < many i.op then takeM p.wide sg regs (noKn 0) i.b 1 else []).length ≤ 1 := by
      by_cases hg : 1 < many i.op
      · rw [if_pos hg]; exact takeM_ok h4 (hi.b hg) (Or.inr rfl)
      · rw [if_neg hg]; simp
    exact ⟨⟨ha.1, hb.1⟩, by omega⟩
  · show mvsB sg _ (afterM p.wide sg regs i) = true
    unfold afterM mvsB
    by_cases hg : gvs i.op = true ∧ (regAt regs i.d).k = 0
    · rw [if_pos hg]
      have h1 := takeP_reg h4 hc (hi.d hg.1) 0 (Or.inl rfl) (p.wide.length : Int) hsl
      have e : destP p.wide sg regs i = takeP p.wide sg regs i.d 0 := by unfold destP; rw [if_pos hg.1]
      have h3 : (takeP p.wide sg regs i.d 0).k ≠ 3 := by rw [h1.1]; split <;> omega
      have hs := slot_isB (sg := sg) (hi.d hg.1)
      rw [e]
      simp only [List.all_cons, List.all_nil, Bool.and_true, List.length_singleton]
      unfold mvB
      simp only [h1.2, hs]
      simp [slotP, h3]
      exact decide_eq_false (fun h => h3 h.symm)
    · rw [if_neg hg]; simp
  · show (!decide (8 ≤ i.op ∧ i.op ≤ 10) || decide ((afterM p.wide sg regs i).length = 0)) = true
    by_cases hj : 8 ≤ i.op ∧ i.op ≤ 10
    · have hg : ¬ gvs i.op = true := by unfold gvs; simp; omega
      unfold afterM
      rw [if_neg (fun h => hg h.1)]; simp
    · rw [decide_eq_false hj]; rfl

theorem build_may (hm : mayB p = true) (ht : tgB sg = true) (hc : ColOk p (sg - 4) regs) : mayL p sg (placedF p sg regs noKn) = true := by
  obtain ⟨l1, l2, l3, l4⟩ := mayB_len hm
  obtain ⟨t1, t2, t3⟩ := tg_facts ht
  unfold mayL
  simp only [Bool.and_eq_true]
  refine ⟨⟨⟨⟨⟨hm, ht⟩, ?_⟩, ?_⟩, ?_⟩, ?_⟩
  · unfold placedF; simp
  · unfold placedF; simp; omega
  · unfold placedF rowsF; simp
  · rw [List.all_eq_true]
    intro x hx
    obtain ⟨k, hk, rfl⟩ := List.mem_iff_getElem.1 hx
    have hk1 : k < p.code.length := by simp at hk; omega
    have e : (placedF p sg regs noKn).rows = rowsF p sg regs noKn := rfl
    simp only [List.getElem_zip]
    have h2 : (placedF p sg regs noKn).rows[k]'(by rw [e]; unfold rowsF; simpa using hk1) = rowF p.wide sg regs (noKn 0) p.code[k] := by
      simp only [e, rowsF, List.getElem_map, List.getElem_range, inAt_get hk1]
      rfl
    rw [h2]
    exact row_may t1 hc (insOk (mayB_ins hm (List.getElem_mem hk1)))
end

end Go.Proofs.Ytodmkjeankbieab

/- Places that are taken still are, where something is moved into a slot more ahead of an instruction, plainly. No program in sight. -/
namespace Go.Proofs.Ytodmkjeankbieab

/-- a move more ahead of instruction k -/
def moreAt (rows : List Rw) (k : Nat) (m : Mv) : List Rw := rows.set k { rwAt rows k with before := m :: (rwAt rows k).before }
def idleMv (s n : Int) : Mv := ⟨⟨3, s⟩, ⟨1, n⟩, false, 0⟩

section
variable {p : Pg} {sg sl sl' : Int}
theorem mvB_more {m : Mv} (h : mvB sg sl m = true) (hs : sl ≤ sl') : mvB sg sl' m = true := by
  unfold mvB at *
  rw [Bool.and_eq_true] at h ⊢
  refine ⟨isB_more h.1 (Int.le_refl _) hs, ?_⟩
  have h2 := h.2
  split at h2
  · rw [if_pos ‹_›]; exact h2
  · rw [if_neg ‹_›]
    simp only [Bool.and_eq_true] at h2 ⊢
    exact ⟨⟨h2.1.1, isB_more h2.1.2 (Int.le_refl _) hs⟩, h2.2⟩
theorem mvsB_more {l : List Mv} (h : mvsB sg sl l = true) (hs : sl ≤ sl') : mvsB sg sl' l = true := by
  unfold mvsB at *
  simp only [Bool.and_eq_true, List.all_eq_true] at h ⊢
  exact ⟨fun m hm => mvB_more (h.1 m hm) hs, h.2⟩
theorem plB_more {wide : List Bool} {l : UInt8} {t : Int} {a : PlaceV} (h : plB wide sg sl l t a = true) (hs : sl ≤ sl') : plB wide sg sl' l t a = true := by
  unfold plB at *
  simp only [Bool.and_eq_true, Bool.not_eq_true'] at h ⊢
  refine ⟨h.1, ?_⟩
  have h2 := h.2
  rw [Bool.and_eq_false_iff] at h2 ⊢
  rcases h2 with h2 | h2
  · exact Or.inl h2
  · refine Or.inr ?_
    simp only [Bool.not_eq_false'] at h2 ⊢
    exact isB_more h2 (Int.le_refl _) hs
theorem rwB_more {i : In} {r : Rw} (h : rwB p sg sl i r = true) (hs : sl ≤ sl') : rwB p sg sl' i r = true := by
  unfold rwB at *
  simp only [Bool.and_eq_true] at h ⊢
  obtain ⟨⟨⟨h0, h1⟩, h2⟩, ⟨h3, h4⟩, h5⟩ := h
  exact ⟨⟨⟨plB_more h0 hs, plB_more h1 hs⟩, plB_more h2 hs⟩, ⟨mvsB_more h3 hs, mvsB_more h4 hs⟩, h5⟩
theorem rwB_add {i : In} {r : Rw} {m : Mv} (h : rwB p sg sl i r = true) (hm : mvB sg sl m = true) (hl : r.before.length < 6) : rwB p sg sl i { r with before := m :: r.before } = true := by
  unfold rwB at *
  simp only [Bool.and_eq_true] at h ⊢
  obtain ⟨⟨⟨h0, h1⟩, h2⟩, ⟨h3, h4⟩, h5⟩ := h
  refine ⟨⟨⟨h0, h1⟩, h2⟩, ⟨?_, h4⟩, h5⟩
  unfold mvsB at h3 ⊢
  simp only [Bool.and_eq_true, List.all_cons, List.length_cons, decide_eq_true_eq] at h3 ⊢
  exact ⟨⟨hm, h3.1⟩, by omega⟩

theorem rwAt_more {rows : List Rw} {k j : Nat} {m : Mv} (hk : k < rows.length) (hj : j < rows.length) : rwAt (moreAt rows k m) j = if j = k then { rwAt rows k with before := m :: (rwAt rows k).before } else rwAt rows j := by
  unfold moreAt
  rw [rwAt_get (by simpa using hj), List.getElem_set]
  by_cases h : k = j
  · rw [if_pos h, if_pos h.symm]
  · rw [if_neg h, if_neg (fun e => h e.symm), rwAt_get hj]

theorem idle_may {s n : Int} {rows : List Rw} {k : Nat} (h : mayL p sg ⟨s, rows⟩ = true) (hk : k < rows.length) (hs : s < 12) (hb : (rwAt rows k).before.length < 6) (hn : 0 ≤ n ∧ n < sg) : mayL p sg ⟨s + 1, moreAt rows k (idleMv s n)⟩ = true := by
  obtain ⟨h1, h2, h3, h4, h5⟩ := mayL_facts h
  have hrow := fun (j : Nat) (hj : j < p.code.length) => mayL_row h hj
  simp only at h3 h4 h5 hrow
  unfold mayL
  simp only [Bool.and_eq_true, decide_eq_true_eq]
  refine ⟨⟨⟨⟨⟨h1, h2⟩, by omega⟩, by omega⟩, by unfold moreAt; simpa using h5⟩, ?_⟩
  rw [List.all_eq_true]
  intro x hx
  obtain ⟨j, hj, rfl⟩ := List.mem_iff_getElem.1 hx
  have hj1 : j < p.code.length := by simp at hj; omega
  simp only [List.getElem_zip]
  have e : (moreAt rows k (idleMv s n))[j]'(by unfold moreAt; simp; omega) = rwAt (moreAt rows k (idleMv s n)) j := (rwAt_get _).symm
  rw [e, rwAt_more hk (by omega), ← inAt_get hj1]
  by_cases hjk : j = k
  · rw [if_pos hjk, hjk]
    refine rwB_add (rwB_more (hrow k (by omega)) (by omega)) ?_ hb
    unfold mvB idleMv
    have e1 : isB sg (s + 1) ⟨3, s⟩ = true := by unfold isB; simp; omega
    have e2 : isB sg (s + 1) ⟨1, n⟩ = true := by unfold isB; simp; omega
    simp [e1, e2]
  · rw [if_neg hjk]
    exact rwB_more (hrow j hj1) (by omega)

theorem factIn_more {f : Fc} (h : FactIn p sg sl f) (hs : sl ≤ sl') : FactIn p sg sl' f := by
  rcases h with h | ⟨h1, h2⟩ | ⟨h1, h2⟩
  · exact Or.inl h
  · exact Or.inr (Or.inl ⟨isB_more h1 (Int.le_refl _) hs, h2⟩)
  · exact Or.inr (Or.inr ⟨isB_more h1 (Int.le_refl _) hs, h2⟩)
theorem fact_idle {f : Fc} {s n : Int} {S : FS} (hf : FactIn p sg s f) (h : S f) : moveF p S (idleMv s n) f := by
  have hov : ovP f.pl ⟨3, s⟩ = false ∨ f.pl.k = 0 := by
    rcases hf with ⟨h, _⟩ | ⟨h, _⟩ | ⟨h, _⟩
    · right; rw [h]
    all_goals
      left
      unfold isB at h
      have h := of_decide_eq_true h
      unfold ovP
      simp only
      rw [if_neg (by omega), if_neg (by omega)]
      apply decide_eq_false
      intro ⟨e1, e2⟩
      rw [if_neg (by omega), if_neg (by omega), if_pos e1] at h
      omega
  refine Or.inl ⟨h, ?_, ?_⟩
  · rcases hov with h | h
    · exact Or.inr h
    · exact Or.inl h
  · rcases hf with ⟨_, _, h, _⟩ | ⟨_, _, _, h, _⟩ | ⟨_, h, _⟩
    · right; have := h.1; omega
    · right; have := h.1; omega
    · left; exact h

theorem idle_taken {s n : Int} {rows : List Rw} {k : Nat} (h : mayL p sg ⟨s, rows⟩ = true) (ht : Taken p sg ⟨s, rows⟩) (hk : k < rows.length) : Taken p sg ⟨s + 1, moreAt rows k (idleMv s n)⟩ := by
  obtain ⟨h1, h2, h3, h4, h5⟩ := mayL_facts h
  simp only at h5
  have hl := mayB_len h1
  have hU := Kn_in h
  have hbef : ∀ j, Come p.code j → ∀ f, movesF p (Kn p sg ⟨s, rows⟩ j) (rwAt rows j).before f → movesF p (Kn p sg ⟨s, rows⟩ j) (rwAt (moreAt rows k (idleMv s n)) j).before f := by
    intro j hj f hf
    have hjl := hj.lt (by omega)
    rw [rwAt_more hk (by omega)]
    by_cases hjk : j = k
    · rw [if_pos hjk]
      show movesF p (moveF p (Kn p sg ⟨s, rows⟩ j) (idleMv s n)) (rwAt rows k).before f
      rw [← hjk]
      exact movesF_mono _ (fun g hg => fact_idle (hU j hj g hg) hg) f hf
    · rw [if_neg hjk]; exact hf
  have hsame : ∀ j, j < p.code.length → (rwAt (moreAt rows k (idleMv s n)) j).d = (rwAt rows j).d ∧ (rwAt (moreAt rows k (idleMv s n)) j).a = (rwAt rows j).a ∧ (rwAt (moreAt rows k (idleMv s n)) j).b = (rwAt rows j).b ∧ (rwAt (moreAt rows k (idleMv s n)) j).after = (rwAt rows j).after := by
    intro j hj
    rw [rwAt_more hk (by omega)]
    by_cases hjk : j = k
    · rw [if_pos hjk, hjk]; exact ⟨rfl, rfl, rfl, rfl⟩
    · rw [if_neg hjk]; exact ⟨rfl, rfl, rfl, rfl⟩
  refine taken_of_sol (Y := Kn p sg ⟨s, rows⟩) ⟨?_, ?_⟩ ?_
  · intro f hf
    have := (Kn_sol (p := p) (sg := sg) (l := ⟨s, rows⟩)).1 f hf
    exact ⟨factIn_more this.1 (by simp only; omega), this.2⟩
  · intro j hj m hm f hf
    have hjl := hj.lt (by omega)
    have := (Kn_sol (p := p) (sg := sg) (l := ⟨s, rows⟩)).2 j hj m hm f hf
    obtain ⟨e1, e2, e3, e4⟩ := hsame j hjl
    unfold thruF at this ⊢
    simp only at this ⊢
    rw [e1, e4]
    exact movesF_mono _ (insF_mono (hbef j hj) _ _) f this
  · intro j hj
    have hjl := hj.lt (by omega)
    have := ht j hj
    obtain ⟨e1, e2, e3, e4⟩ := hsame j hjl
    unfold tookF at this ⊢
    simp only at this ⊢
    rw [e2, e3]
    exact ⟨fun hg => hbef j hj _ (this.1 hg), fun hg => hbef j hj _ (this.2 hg)⟩
end

end Go.Proofs.Ytodmkjeankbieab

/- A store's cells. No program in sight. -/
namespace Go.Proofs.Ytodmkjeankbieab

def stC (s : Sto) : Array Value := (((List.range 16).map fun (t : Nat) => Value.int .u32 (s.sg t)) ++ (List.range 12).map fun (t : Nat) => Value.int .u64 (s.sl t)).toArray
theorem stC_sg {s : Sto} {t : Nat} (h : t < 16) : (stC s)[t]? = some (.int .u32 (s.sg t)) := by
  unfold stC
  rw [List.getElem?_toArray, List.getElem?_append_left (by simpa using h), List.getElem?_map, List.getElem?_range h]
  rfl
theorem stC_sl {s : Sto} {t : Nat} (h : t < 12) : (stC s)[16 + t]? = some (.int .u64 (s.sl t)) := by
  unfold stC
  rw [List.getElem?_toArray, List.getElem?_append_right (by simp), List.getElem?_map]
  rw [show 16 + t - (List.map (fun (t : Nat) => Value.int .u32 (s.sg t)) (List.range 16)).length = t by simp, List.getElem?_range h]
  rfl
theorem map_upd (n : Nat) (k : IntKind) (f : Int → Int) (t : Nat) (x : Int) : ((List.range n).map fun (i : Nat) => Value.int k (f i)).set t (.int k x) = (List.range n).map fun (i : Nat) => Value.int k (upd f t x i) := by
  apply List.ext_getElem
  · simp
  · intro i h1 h2
    simp at h1
    rw [List.getElem_set, List.getElem_map, List.getElem_map, List.getElem_range]
    unfold upd
    by_cases h : t = i
    · subst h; simp
    · rw [if_neg h, if_neg (by omega)]
theorem stC_setg {s : Sto} {t : Nat} (h : t < 16) (x : Int) : (stC s).setIfInBounds t (.int .u32 x) = stC { s with sg := upd s.sg t x } := by
  unfold stC
  rw [List.setIfInBounds_toArray, List.set_append_left _ _ (by simpa using h), map_upd]
theorem stC_setl {s : Sto} {t : Nat} (x : Int) : (stC s).setIfInBounds (16 + t) (.int .u64 x) = stC { s with sl := upd s.sl t x } := by
  unfold stC
  rw [List.setIfInBounds_toArray, List.set_append_right _ _ (by simp), show 16 + t - (List.map (fun (t : Nat) => Value.int .u32 (s.sg t)) (List.range 16)).length = t by simp, map_upd]
/-- a store's numbers are numbers -/
structure StOk (s : Sto) : Prop where
  sg : ∀ t, 0 ≤ s.sg t ∧ s.sg t < 4294967296
  sl : ∀ t, 0 ≤ s.sl t ∧ s.sl t < 18446744073709551616
theorem StOk.zero : StOk ⟨fun _ => 0, fun _ => 0⟩ := ⟨fun _ => by simp, fun _ => by simp⟩
theorem StOk.get {s : Sto} (h : StOk s) (a : PlaceV) : 0 ≤ getS s a ∧ getS s a < 18446744073709551616 := by
  unfold getS
  split
  · have := h.sg a.n; omega
  · split
    · have := h.sg (2 * a.n); have := h.sg (2 * a.n + 1); omega
    · split
      · exact h.sl a.n
      · omega
theorem StOk.put {s : Sto} (h : StOk s) (a : PlaceV) {v : Int} (hv : 0 ≤ v ∧ v < 18446744073709551616) : StOk (putS s a v) := by
  unfold putS
  split
  · refine ⟨fun t => ?_, h.sl⟩
    show 0 ≤ upd s.sg a.n (v % 4294967296) t ∧ upd s.sg a.n (v % 4294967296) t < 4294967296
    unfold upd; split
    · omega
    · exact h.sg t
  · split
    · refine ⟨fun t => ?_, h.sl⟩
      show 0 ≤ upd (upd s.sg (2 * a.n) (v % 4294967296)) (2 * a.n + 1) (v / 4294967296) t ∧ upd (upd s.sg (2 * a.n) (v % 4294967296)) (2 * a.n + 1) (v / 4294967296) t < 4294967296
      unfold upd; split
      · omega
      · split
        · omega
        · exact h.sg t
    · split
      · refine ⟨h.sg, fun t => ?_⟩
        show 0 ≤ upd s.sl a.n v t ∧ upd s.sl a.n v t < 18446744073709551616
        unfold upd; split
        · exact hv
        · exact h.sl t
      · exact h
end Go.Proofs.Ytodmkjeankbieab

/- What may be has its places. No program in sight. -/
namespace Go.Proofs.Ytodmkjeankbieab

/-- a place that a store has, if it has the kind -/
structure Has (a : PlaceV) : Prop where
  k1 : a.k = 1 → 0 ≤ a.n ∧ a.n < 16
  k2 : a.k = 2 → 0 ≤ a.n ∧ a.n < 8
  k3 : a.k = 3 → 0 ≤ a.n ∧ a.n < 12
/-- a move that a store can do -/
structure MvHas (m : Mv) : Prop where
  to : Has m.to
  fr : m.c = false → Has m.fr
  n : m.n < 4294967296

theorem has_is {sg sl : Int} {a : PlaceV} (h : isB sg sl a = true) (h1 : sg ≤ 16) (h2 : sl ≤ 12) : Has a := by
  unfold isB at h
  have h := of_decide_eq_true h
  refine ⟨fun e => ?_, fun e => ?_, fun e => ?_⟩
  · rw [if_pos e] at h; omega
  · rw [if_neg (by omega), if_pos e] at h; omega
  · rw [if_neg (by omega), if_neg (by omega), if_pos e] at h; omega
theorem has_pl {wide : List Bool} {sg sl : Int} {l : UInt8} {t : Int} {a : PlaceV} (h : plB wide sg sl l t a = true) (h1 : sg ≤ 16) (h2 : sl ≤ 12) : Has a := by
  unfold plB at h
  simp only [Bool.and_eq_true, decide_eq_true_eq] at h
  obtain ⟨⟨hk, _⟩, h3⟩ := h
  by_cases e : kindV wide l t = 0
  · rw [e] at hk
    exact ⟨fun e => by omega, fun e => by omega, fun e => by omega⟩
  · rw [decide_eq_true e] at h3
    exact has_is (by simpa using h3) h1 h2
theorem has_mv {sg sl : Int} {m : Mv} (h : mvB sg sl m = true) (hn : m.n < 4294967296) (h1 : sg ≤ 16) (h2 : sl ≤ 12) : MvHas m := by
  unfold mvB at h
  rw [Bool.and_eq_true] at h
  refine ⟨has_is h.1 h1 h2, fun e => ?_, hn⟩
  have h3 := h.2
  rw [e] at h3
  simp only [Bool.false_eq_true, if_false, Bool.and_eq_true] at h3
  exact has_is h3.1.2 h1 h2
/-- a row's places -/
structure RwHas (r : Rw) : Prop where
  d : Has r.d
  a : Has r.a
  b : Has r.b
  bef : ∀ m ∈ r.before, MvHas m
  aft : ∀ m ∈ r.after, MvHas m
  lb : r.before.length ≤ 6
  la : r.after.length ≤ 6
theorem has_rw {p : Pg} {sg sl : Int} {i : In} {r : Rw} (h : rwB p sg sl i r = true) (hb : ∀ m ∈ r.before, m.n < 4294967296) (ha : ∀ m ∈ r.after, m.n < 4294967296) (h1 : sg ≤ 16) (h2 : sl ≤ 12) : RwHas r := by
  unfold rwB mvsB at h
  simp only [Bool.and_eq_true, List.all_eq_true, decide_eq_true_eq] at h
  obtain ⟨⟨⟨hd, hA⟩, hB⟩, ⟨⟨hbf, hbl⟩, ⟨haf, hal⟩⟩, _⟩ := h
  exact ⟨has_pl hd h1 h2, has_pl hA h1 h2, has_pl hB h1 h2, fun m hm => has_mv (hbf m hm) (hb m hm) h1 h2, fun m hm => has_mv (haf m hm) (ha m hm) h1 h2, hbl, hal⟩
/-- what is taken by a pair is narrow -/
theorem pair_lt {p : Pg} {sg sl : Int} {i : In} {r : Rw} {s : Sto} (hs : StOk s) (h : rwB p sg sl i r = true) (hi : InsOk p i) (h5 : i.op = 5) : getS s r.a < 4294967296 ∧ getS s r.b < 4294967296 := by
  unfold rwB at h
  simp only [Bool.and_eq_true] at h
  obtain ⟨⟨⟨hd, hA⟩, hB⟩, _⟩ := h
  obtain ⟨_, wa, wb⟩ := hi.w5 h5
  have hsh : shape i.op = [119, 110, 110, 45, 45] := by rw [h5]; decide
  rw [hsh] at hA hB
  have ka : r.a.k = 1 := by
    unfold plB at hA
    simp only [Bool.and_eq_true, decide_eq_true_eq] at hA
    have := hA.1.1
    simpa [kindV, wa] using this
  have kb : r.b.k = 1 := by
    unfold plB at hB
    simp only [Bool.and_eq_true, decide_eq_true_eq] at hB
    have := hB.1.1
    simpa [kindV, wb] using this
  unfold getS
  rw [if_pos ka, if_pos kb]
  exact ⟨(hs.sg _).2, (hs.sg _).2⟩
theorem giveV_num {i : In} {a b x : Int} (hk : known i.op = true) (hg : gvs i.op = true) (ha : 0 ≤ a ∧ a < 18446744073709551616) (hb : 0 ≤ b ∧ b < 18446744073709551616) (h5 : i.op = 5 → a < 4294967296 ∧ b < 4294967296) (hn : i.n < 4294967296) (hx : 0 ≤ x ∧ x < 4294967296) :
    0 ≤ giveV i a b x ∧ giveV i a b x < 18446744073709551616 := by
  rcases known_cases hk with h | h | h | h | h | h | h | h | h | h | ⟨h1, h2⟩ | ⟨h1, h2⟩
  · unfold giveV; rw [if_pos h]; omega
  · unfold giveV; rw [if_neg (by omega), if_pos h]; exact ha
  · unfold giveV; rw [if_neg (by omega), if_neg (by omega), if_pos h]; omega
  · rw [h] at hg; exact absurd hg (by decide)
  · unfold giveV; rw [if_neg (by omega), if_neg (by omega), if_neg (by omega), if_pos h]
    have := h5 h
    omega
  · unfold giveV; rw [if_neg (by omega), if_neg (by omega), if_neg (by omega), if_neg (by omega), if_pos h]; omega
  · unfold giveV; rw [if_neg (by omega), if_neg (by omega), if_neg (by omega), if_neg (by omega), if_neg (by omega), if_pos h]; omega
  · rw [h] at hg; exact absurd hg (by decide)
  · rw [h] at hg; exact absurd hg (by decide)
  · rw [h] at hg; exact absurd hg (by decide)
  · unfold giveV; rw [if_neg (by omega), if_neg (by omega), if_neg (by omega), if_neg (by omega), if_neg (by omega), if_neg (by omega), if_neg (by omega)]
    have := narrowOp_range (i.op - 20) (a % 4294967296) (b % 4294967296) (by omega) (by omega)
    omega
  · unfold giveV; rw [if_neg (by omega), if_neg (by omega), if_neg (by omega), if_neg (by omega), if_neg (by omega), if_neg (by omega), if_pos h1]
    have := wideOp_range (i.op - 40) a b (by omega) (by omega)
    omega
theorem head_num {l : List Int} (h : ∀ n ∈ l, 0 ≤ n ∧ n < 4294967296) : 0 ≤ l.headD 0 ∧ l.headD 0 < 4294967296 := by
  cases l with
  | nil => simp
  | cons y l => exact h y (by simp)
theorem moves_take {s : Sto} {l : List Mv} {k : Nat} {m : Mv} (h : l[k]? = some m) : movesS s (l.take (k + 1)) = moveS (movesS s (l.take k)) m := by
  obtain ⟨hk, rfl⟩ := List.getElem?_eq_some_iff.1 h
  unfold movesS
  rw [List.take_succ_eq_append_getElem hk, List.foldl_append]
  rfl
theorem StOk.move {s : Sto} (h : StOk s) {m : Mv} (hm : MvHas m) : StOk (moveS s m) := by
  unfold moveS
  split
  · exact h.put _ (by have := hm.n; omega)
  · exact h.put _ (h.get _)
theorem StOk.moves {s : Sto} (h : StOk s) {l : List Mv} (hm : ∀ m ∈ l, MvHas m) : StOk (movesS s l) := by
  induction l generalizing s with
  | nil => exact h
  | cons m l ih => exact ih (h.move (hm m (by simp))) (fun x hx => hm x (by simp [hx]))
end Go.Proofs.Ytodmkjeankbieab

/- Registers for temporaries: what the loop holds. No program in sight. -/
namespace Go.Proofs.Ytodmkjeankbieab

/-- registers given so far: of their widths, and none that overlap where they are near -/
structure ColAt (p : Pg) (sg : Int) (o : Nat → PlaceV) : Prop where
  reg : ∀ t, t < p.wide.length → o t = ⟨0, 0⟩ ∨ IsReg p sg 0 t (o t)
  apart : ∀ a b, a < p.wide.length → b < p.wide.length → nearB p.code a b = true → (o a).k ≠ 0 → (o b).k ≠ 0 → ovP (o a) (o b) = false
def updP (o : Nat → PlaceV) (t : Nat) (a : PlaceV) : Nat → PlaceV := fun x => if x = t then a else o x
theorem ColAt.zero (p : Pg) (sg : Int) : ColAt p sg (fun _ => ⟨0, 0⟩) := ⟨fun _ _ => Or.inl rfl, fun _ _ _ _ _ h => absurd rfl h⟩
/-- does a register go, of the first u? -/
noncomputable def freeTo (p : Pg) (o : Nat → PlaceV) (t : Nat) (a : PlaceV) (u : Nat) : Bool := (List.range u).all fun x => !nearB p.code t x || decide ((o x).k = 0) || !ovP a (o x)
theorem freeTo_s {p : Pg} {o : Nat → PlaceV} {t u : Nat} {a : PlaceV} : freeTo p o t a (u + 1) = (freeTo p o t a u && (!nearB p.code t u || decide ((o u).k = 0) || !ovP a (o u))) := by
  unfold freeTo
  rw [List.range_succ, List.all_append]
  simp
theorem ColAt.put {p : Pg} {sg : Int} {o : Nat → PlaceV} {t : Nat} {a : PlaceV} (h : ColAt p sg o) (hr : IsReg p sg 0 t a) (hf : freeTo p o t a p.wide.length = true) : ColAt p sg (updP o t a) := by
  have hfr : ∀ x, x < p.wide.length → nearB p.code t x = true → (o x).k ≠ 0 → ovP a (o x) = false := by
    intro x hx hn hk
    unfold freeTo at hf
    have := List.all_eq_true.1 hf x (List.mem_range.2 hx)
    rw [hn] at this
    simpa [hk] using this
  refine ⟨fun x hx => ?_, fun x y hx hy hn h1 h2 => ?_⟩
  · unfold updP
    split
    · rename_i e; subst e; exact Or.inr hr
    · exact h.reg x hx
  · unfold updP at h1 h2 ⊢
    by_cases ex : x = t
    · by_cases ey : y = t
      · subst ex; subst ey; rw [nearB_self] at hn; cases hn
      · rw [if_pos ex, if_neg ey]
        rw [if_neg ey] at h2
        subst ex
        exact hfr y hy hn h2
    · by_cases ey : y = t
      · rw [if_neg ex, if_pos ey, ovP_comm]
        rw [if_neg ex] at h1
        subst ey
        exact hfr x hx (by rw [nearB_comm]; exact hn) h1
      · rw [if_neg ex, if_neg ey]
        rw [if_neg ex] at h1
        rw [if_neg ey] at h2
        exact h.apart x y hx hy hn h1 h2
theorem ColAt.ok {p : Pg} {sg : Int} {o : Nat → PlaceV} (h : ColAt p sg o) : ColOk p sg ((List.range p.wide.length).map o) := by
  have e : ∀ t : Nat, t < p.wide.length → regAt ((List.range p.wide.length).map o) t = o t := by
    intro t ht
    unfold regAt
    rw [List.getD_eq_getElem?_getD, List.getElem?_map, Int.toNat_natCast, List.getElem?_range ht]
    rfl
  refine ⟨by simp, fun t ht hk => ?_, fun t ht hk => ?_, fun a b ha hb hn h1 h2 => ?_⟩
  · rw [e t ht] at hk ⊢
    rcases h.reg t ht with h0 | h0
    · rw [h0] at hk; exact absurd rfl hk
    · exact h0
  · rw [e t ht] at hk ⊢
    rcases h.reg t ht with h0 | h0
    · exact h0
    · have := h0.1
      rw [hk] at this
      split at this <;> omega
  · rw [e a ha] at h1 ⊢
    rw [e b hb] at h2 ⊢
    exact h.apart a b ha hb hn h1 h2
end Go.Proofs.Ytodmkjeankbieab

/- What is near: what the loops hold. No program in sight. -/
namespace Go.Proofs.Ytodmkjeankbieab

section
variable {code : List In} {M : Nat → Nat → Bool}
/-- two are put near -/
def putN (f : Nat → Nat → Bool) (a b : Nat) : Nat → Nat → Bool :=
  if a = b then f else fun x y => if x = b ∧ y = a then true else if x = a ∧ y = b then true else f x y
theorem putN_iff (f : Nat → Nat → Bool) (a b x y : Nat) : putN f a b x y = true ↔ f x y = true ∨ (a ≠ b ∧ ((x = a ∧ y = b) ∨ (x = b ∧ y = a))) := by
  unfold putN
  by_cases h : a = b
  · simp [h]
  · rw [if_neg h]
    by_cases h1 : x = b ∧ y = a
    · simp [h1, h]
    · by_cases h2 : x = a ∧ y = b
      · simp [h2, h]
      · rw [if_neg h1, if_neg h2]
        constructor
        · exact Or.inl
        · rintro (h3 | ⟨_, h3 | h3⟩)
          · exact h3
          · exact absurd h3 h2
          · exact absurd h3 h1

/-- the loop over the instructions, ahead of instruction K -/
def NearK (code : List In) (M : Nat → Nat → Bool) (W K : Nat) (f : Nat → Nat → Bool) : Prop :=
  ∀ x y, x < W → y < W → (f x y = true ↔ x ≠ y ∧ ∃ k, k < K ∧ (nearAt code M k x y = true ∨ nearAt code M k y x = true))
/-- .. in instruction K, ahead of temporary T -/
def NearT (code : List In) (M : Nat → Nat → Bool) (W K T : Nat) (f : Nat → Nat → Bool) : Prop :=
  ∀ x y, x < W → y < W → (f x y = true ↔ x ≠ y ∧ ((∃ k, k < K ∧ (nearAt code M k x y = true ∨ nearAt code M k y x = true)) ∨ (y < T ∧ nearAt code M K x y = true) ∨ (x < T ∧ nearAt code M K y x = true)))
theorem NearK.zero {W : Nat} : NearK code M W 0 (fun _ _ => false) := by
  intro x y _ _
  simp
theorem NearK.none {W K : Nat} {f : Nat → Nat → Bool} (h : NearK code M W K f) (hg : gvs (inAt code K).op = false) : NearK code M W (K + 1) f := by
  intro x y hx hy
  rw [h x y hx hy]
  have e : ∀ a b, nearAt code M K a b = false := by intro a b; unfold nearAt givesB; rw [hg]; rfl
  constructor
  · rintro ⟨h1, k, hk, h2⟩
    exact ⟨h1, k, by omega, h2⟩
  · rintro ⟨h1, k, hk, h2⟩
    refine ⟨h1, k, ?_, h2⟩
    by_cases hkk : k = K
    · subst hkk; rw [e, e] at h2; simp at h2
    · omega
theorem NearK.toT {W K : Nat} {f : Nat → Nat → Bool} (h : NearK code M W K f) : NearT code M W K 0 f := by
  intro x y hx hy
  rw [h x y hx hy]
  simp
theorem NearT.toK {W K : Nat} {f : Nat → Nat → Bool} (h : NearT code M W K W f) : NearK code M W (K + 1) f := by
  intro x y hx hy
  rw [h x y hx hy]
  constructor
  · rintro ⟨h1, ⟨k, hk, h2⟩ | ⟨_, h2⟩ | ⟨_, h2⟩⟩
    · exact ⟨h1, k, by omega, h2⟩
    · exact ⟨h1, K, by omega, Or.inl h2⟩
    · exact ⟨h1, K, by omega, Or.inr h2⟩
  · rintro ⟨h1, k, hk, h2⟩
    refine ⟨h1, ?_⟩
    by_cases hkk : k = K
    · subst hkk
      rcases h2 with h2 | h2
      · exact Or.inr (Or.inl ⟨hy, h2⟩)
      · exact Or.inr (Or.inr ⟨hx, h2⟩)
    · exact Or.inl ⟨k, by omega, h2⟩
theorem nearAt_iff {K a b : Nat} : nearAt code M K a b = true ↔ gvs (inAt code K).op = true ∧ (inAt code K).d = (a : Int) ∧ ¬ ((inAt code K).op = 2 ∧ (inAt code K).a = (b : Int)) ∧ behindM code M K b = true := by
  unfold nearAt givesB
  simp [and_assoc]
  intro _ _ _
  exact Decidable.imp_iff_not_or.symm
theorem NearT.no {W K T : Nat} {f : Nat → Nat → Bool} (h : NearT code M W K T f) (hn : ¬ (behindM code M K T = true ∧ ¬ ((inAt code K).op = 2 ∧ (inAt code K).a = (T : Int)))) : NearT code M W K (T + 1) f := by
  have e : ∀ a, ¬ nearAt code M K a T = true := fun a h => hn ⟨(nearAt_iff.1 h).2.2.2, (nearAt_iff.1 h).2.2.1⟩
  intro x y hx hy
  rw [h x y hx hy]
  refine and_congr_right fun _ => or_congr_right ?_
  constructor
  · rintro (⟨h1, h2⟩ | ⟨h1, h2⟩)
    · exact Or.inl ⟨by omega, h2⟩
    · exact Or.inr ⟨by omega, h2⟩
  · rintro (⟨h1, h2⟩ | ⟨h1, h2⟩)
    · refine Or.inl ⟨?_, h2⟩
      by_cases hy : y = T
      · subst hy; exact absurd h2 (e _)
      · omega
    · refine Or.inr ⟨?_, h2⟩
      by_cases hy : x = T
      · subst hy; exact absurd h2 (e _)
      · omega
theorem NearT.yes {W K T d : Nat} {f : Nat → Nat → Bool} (h : NearT code M W K T f) (hg : gvs (inAt code K).op = true) (hd : (inAt code K).d = (d : Int)) (hb : behindM code M K T = true) (hm : ¬ ((inAt code K).op = 2 ∧ (inAt code K).a = (T : Int))) :
    NearT code M W K (T + 1) (putN f d T) := by
  have e : nearAt code M K d T = true := nearAt_iff.2 ⟨hg, hd, hm, hb⟩
  have e2 : ∀ a b, nearAt code M K a b = true → a = d := fun a b h => by have := (nearAt_iff.1 h).2.1; omega
  intro x y hx hy
  rw [putN_iff, h x y hx hy]
  constructor
  · rintro (⟨h0, h1 | ⟨h1, h2⟩ | ⟨h1, h2⟩⟩ | ⟨h0, ⟨rfl, rfl⟩ | ⟨rfl, rfl⟩⟩)
    · exact ⟨h0, Or.inl h1⟩
    · exact ⟨h0, Or.inr (Or.inl ⟨by omega, h2⟩)⟩
    · exact ⟨h0, Or.inr (Or.inr ⟨by omega, h2⟩)⟩
    · exact ⟨h0, Or.inr (Or.inl ⟨by omega, e⟩)⟩
    · exact ⟨fun h => h0 h.symm, Or.inr (Or.inr ⟨by omega, e⟩)⟩
  · rintro ⟨h0, h1 | ⟨h1, h2⟩ | ⟨h1, h2⟩⟩
    · exact Or.inl ⟨h0, Or.inl h1⟩
    · have := e2 _ _ h2
      subst this
      by_cases hy : y = T
      · subst hy; exact Or.inr ⟨h0, Or.inl ⟨rfl, rfl⟩⟩
      · exact Or.inl ⟨h0, Or.inr (Or.inl ⟨by omega, h2⟩)⟩
    · have := e2 _ _ h2
      subst this
      by_cases hy : x = T
      · subst hy; exact Or.inr ⟨fun h => h0 h.symm, Or.inr ⟨rfl, rfl⟩⟩
      · exact Or.inl ⟨h0, Or.inr (Or.inr ⟨by omega, h2⟩)⟩

/-- the loops over those needed ahead of the first instruction, ahead of A and, in it, of B -/
def NearA (code : List In) (M : Nat → Nat → Bool) (W A B : Nat) (f : Nat → Nat → Bool) : Prop :=
  ∀ x y, x < W → y < W → (f x y = true ↔ x ≠ y ∧ ((∃ k, k < code.length ∧ (nearAt code M k x y = true ∨ nearAt code M k y x = true)) ∨
    (M 0 x = true ∧ M 0 y = true ∧ ((x < A ∨ x = A ∧ y < B) ∨ (y < A ∨ y = A ∧ x < B)))))
theorem NearK.toA {W : Nat} {f : Nat → Nat → Bool} (h : NearK code M W code.length f) : NearA code M W 0 0 f := by
  intro x y hx hy
  rw [h x y hx hy]
  simp
theorem NearA.next {W A : Nat} {f : Nat → Nat → Bool} (h : NearA code M W A W f) : NearA code M W (A + 1) 0 f := by
  intro x y hx hy
  rw [h x y hx hy]
  refine and_congr_right fun _ => or_congr_right ?_
  refine and_congr_right fun _ => and_congr_right fun _ => ?_
  omega
theorem NearA.no {W A B : Nat} {f : Nat → Nat → Bool} (h : NearA code M W A B f) (hn : ¬ (M 0 A = true ∧ M 0 B = true)) : NearA code M W A (B + 1) f := by
  intro x y hx hy
  rw [h x y hx hy]
  refine and_congr_right fun _ => or_congr_right ?_
  constructor
  · rintro ⟨h1, h2, h3⟩; exact ⟨h1, h2, by omega⟩
  · rintro ⟨h1, h2, h3⟩
    refine ⟨h1, h2, ?_⟩
    by_cases h4 : x = A ∧ y = B
    · obtain ⟨rfl, rfl⟩ := h4; exact absurd ⟨h1, h2⟩ hn
    · by_cases h5 : y = A ∧ x = B
      · obtain ⟨rfl, rfl⟩ := h5; exact absurd ⟨h2, h1⟩ hn
      · omega
theorem NearA.yes {W A B : Nat} {f : Nat → Nat → Bool} (h : NearA code M W A B f) (ha : M 0 A = true) (hb : M 0 B = true) : NearA code M W A (B + 1) (putN f A B) := by
  intro x y hx hy
  rw [putN_iff, h x y hx hy]
  constructor
  · rintro (⟨h0, h1 | ⟨h1, h2, h3⟩⟩ | ⟨h0, ⟨rfl, rfl⟩ | ⟨rfl, rfl⟩⟩)
    · exact ⟨h0, Or.inl h1⟩
    · exact ⟨h0, Or.inr ⟨h1, h2, by omega⟩⟩
    · exact ⟨h0, Or.inr ⟨ha, hb, by omega⟩⟩
    · exact ⟨fun h => h0 h.symm, Or.inr ⟨hb, ha, by omega⟩⟩
  · rintro ⟨h0, h1 | ⟨h1, h2, h3⟩⟩
    · exact Or.inl ⟨h0, Or.inl h1⟩
    · by_cases h4 : x = A ∧ y = B
      · exact Or.inr ⟨by omega, Or.inl h4⟩
      · by_cases h5 : y = A ∧ x = B
        · exact Or.inr ⟨by omega, Or.inr ⟨h5.2, h5.1⟩⟩
        · exact Or.inl ⟨h0, Or.inr ⟨h1, h2, by omega⟩⟩
/-- at the end of all -/
theorem NearA.all {W : Nat} {f : Nat → Nat → Bool} (h : NearA code (needB code) W W 0 f) {x y : Nat} (hx : x < W) (hy : y < W) : f x y = nearB code x y := by
  rw [Bool.eq_iff_iff, h x y hx hy]
  unfold nearB
  simp only [Bool.and_eq_true, decide_eq_true_eq, Bool.or_eq_true, List.any_eq_true, List.mem_range]
  refine and_congr_right fun _ => ?_
  constructor
  · rintro (⟨k, h1, h2⟩ | ⟨h1, h2, _⟩)
    · exact Or.inr ⟨k, h1, h2⟩
    · exact Or.inl ⟨h1, h2⟩
  · rintro (⟨h1, h2⟩ | ⟨k, h1, h2⟩)
    · exact Or.inr ⟨h1, h2, Or.inl (Or.inl hx)⟩
    · exact Or.inl ⟨k, h1, h2⟩
end
end Go.Proofs.Ytodmkjeankbieab

/- Of a temporary at most one number is known. No program in sight. -/
namespace Go.Proofs.Ytodmkjeankbieab

/-- at most one number is known of a temporary -/
def Uni (s : FS) : Prop := ∀ t n n', s (knF t n) → s (knF t n') → n = n'
theorem kn_inj {t t' : Int} {n n' : Nat} (h : knF t n = knF t' n') : t = t' ∧ n = n' := by
  unfold knF at h
  injection h with _ _ h1 h2
  exact ⟨h1, h2⟩
section
variable {p : Pg} {sg sl : Int} {s : FS}
theorem moveF_kn (hu : InU p sg sl s) {m : Mv} (hm : mvB sg sl m = true) {t : Int} {n : Nat} (h : moveF p s m (knF t n)) : s (knF t n) := by
  have h0 := isB_kind (mvB_facts hm).1
  rcases h with h1 | ⟨_, _, h1⟩ | ⟨_, g, _, _, _, h1⟩ | ⟨_, g, _, _, ⟨_, _, h1⟩ | ⟨_, _, h1⟩⟩
  · exact h1.1
  · injection h1 with _ h1; cases h1
  · injection h1 with h1; rw [← h1] at h0; simp at h0
  · injection h1 with h1; rw [← h1] at h0; simp at h0
  · injection h1 with _ h1; cases h1
theorem movesF_kn : ∀ (l : List Mv) {s : FS}, InU p sg sl s → (∀ m ∈ l, mvB sg sl m = true) → ∀ {t : Int} {n : Nat}, movesF p s l (knF t n) → s (knF t n)
  | [], _, _, _, _, _, h => h
  | m :: l, _, hu, hm, _, _, h => moveF_kn hu (hm m (by simp)) (movesF_kn l (moveF_in hu (hm m (by simp))) (fun x hx => hm x (List.mem_cons_of_mem _ hx)) h)
theorem giveF_uni (hu : InU p sg sl s) {i : In} {a : PlaceV} (ha : isB sg sl a = true) (h : Uni s) : Uni (giveF s i a) := by
  have h0 := isB_kind ha
  have key : ∀ t n, giveF s i a (knF t n) → (s (knF t n) ∧ t ≠ i.d) ∨ (t = i.d ∧ i.op = 1 ∧ n = i.n) ∨ (t = i.d ∧ i.op = 2 ∧ s (knF i.a n)) := by
    intro t n h1
    rcases h1 with h1 | ⟨ho, h1⟩ | ⟨ho, h1⟩ | h1
    · left
      refine ⟨h1.1, ?_⟩
      rcases h1.2.2 with h2 | h2
      · cases h2
      · exact h2
    · rcases h1 with ⟨g, hg, ht, _, _, h1⟩ | h1 | h1
      · injection h1 with h1 _ _ _
        have := (factIn_num (hu g hg) ht).1
        rw [← h1] at this
        have := isB_kind this
        simp at this
      · obtain ⟨e1, e2⟩ := kn_inj h1
        exact Or.inr (Or.inl ⟨e1, ho, e2⟩)
      · injection h1 with _ h1; cases h1
    · rcases h1 with ⟨g, hg, ht, hga, h1⟩ | h1
      · rcases h1 with ⟨hk, h1 | h1⟩ | ⟨hk, _, h1⟩
        · obtain ⟨e1, e2⟩ := kn_inj h1
          obtain ⟨q1, q2, _⟩ := factIn_k0 (hu g hg) hk
          refine Or.inr (Or.inr ⟨e1, ho, ?_⟩)
          have : g = knF i.a n := by
            obtain ⟨gp, gt, g1, g2⟩ := g
            simp only at q1 q2 hga e2
            subst q1; subst q2; subst hga; subst e2; rfl
          rw [← this]; exact hg
        · injection h1 with _ h1; cases h1
        · injection h1 with h1
          rw [← h1] at hk; simp at hk
      · injection h1 with h1; rw [← h1] at h0; simp at h0
    · injection h1 with h1; rw [← h1] at h0; simp at h0
  intro t n n' h1 h2
  rcases key t n h1 with ⟨a1, a2⟩ | ⟨a1, a2, a3⟩ | ⟨a1, a2, a3⟩ <;> rcases key t n' h2 with ⟨b1, b2⟩ | ⟨b1, b2, b3⟩ | ⟨b1, b2, b3⟩
  · exact h _ _ _ a1 b1
  · exact absurd b1 a2
  · exact absurd b1 a2
  · exact absurd a1 b2
  · rw [a3, b3]
  · omega
  · exact absurd a1 b2
  · omega
  · exact h _ _ _ a3 b3
end

/-- what is known of a program's places: of each temporary at most one number -/
theorem Kn_uni {p : Pg} {sg : Int} {l : Pd} (hm : mayL p sg l = true) : ∀ k, Come p.code k → Uni (Kn p sg l k) := by
  obtain ⟨mB, tB, s0, s1, hl⟩ := mayL_facts hm
  apply Come.ind
  · intro t n n' h1 h2
    have e1 := ((Kn_sol (p := p) (sg := sg) (l := l)).1 _ h1).2
    have e2 := ((Kn_sol (p := p) (sg := sg) (l := l)).1 _ h2).2
    exact Eq.trans (b := 0) e1 e2.symm
  · intro k m hk hU hmk
    have hIn := Kn_in hm k hk
    have hkl := hk.lt (by have := mayB_len mB; omega)
    have hi := insOk (mayB_ins mB (inAt_mem hkl))
    obtain ⟨r1, r2, r3, _⟩ := rwB_facts (mayL_row hm hkl) hi.kn
    have hs := fun f h => (Kn_sol (p := p) (sg := sg) (l := l)).2 k hk m hmk f h
    have hM1 := movesF_in _ hIn r1
    have hU1 : Uni (movesF p (Kn p sg l k) (rwAt l.rows k).before) := fun t n n' a b => hU t n n' (movesF_kn _ hIn r1 a) (movesF_kn _ hIn r1 b)
    have hI : InU p sg l.slots (insF (movesF p (Kn p sg l k) (rwAt l.rows k).before) (inAt p.code k) (rwAt l.rows k).d) := by
      unfold insF
      split
      · rename_i hg
        exact giveF_in hM1 hi hg (r3 hg) (inAt_mem hkl)
      · exact hM1
    have hU2 : Uni (insF (movesF p (Kn p sg l k) (rwAt l.rows k).before) (inAt p.code k) (rwAt l.rows k).d) := by
      unfold insF
      split
      · rename_i hg
        exact giveF_uni hM1 (r3 hg).2 hU1
      · exact hU1
    intro t n n' a b
    exact hU2 t n n' (movesF_kn _ hI r2 (hs _ a)) (movesF_kn _ hI r2 (hs _ b))
end Go.Proofs.Ytodmkjeankbieab
