/- Sets, FactsRef, FactsRef2, FactsRef3, WorkPlain2, Queue, UniqPlain: texts of this claim, packed into one file. -/
import Derived.Test.YtodmkjeankbieacKBuildRunsk0
import Derived.Maps.RangeWalk
import Derived.Maps.OwnSet
import Derived.DeepKeys4
import Derived.ArgAppend
/- Sets as maps of truths: a map block whose entries are all true, its keys the values of some kind of things. No program in sight. -/
namespace Go.Proofs.Ytodmkjeankbieac
open Go.RowKit Go.Sort Go.Maps

/-- T is map[K]E, E is bool, K the type of the values of things x that are ok -/
structure SetTy (P : Program) (T K E : TypeId) {α : Type} (ok : α → Prop) (val : α → Value) (lit : α → Lit) : Prop where
  keyed : Keyed P K
  ht : P.underlying T = some (.map K E)
  he : P.underlying E = some .bool
  hz : ∀ w, (zeroValue E).run P w = .ok (.bool false) w
  key : ∀ x, ok x → keyOf P K (val x) = some (lit x)
  inv : ∀ v l, keyOf P K v = some l → ∃ x, ok x ∧ v = val x ∧ l = lit x
  vinj : ∀ x y, val x = val y → x = y

section
variable {P : Program} {T K E : TypeId} {α : Type} {ok : α → Prop} {val : α → Value} {lit : α → Lit}
theorem SetTy.linj (h : SetTy P T K E ok val lit) {x y : α} (hx : ok x) (hy : ok y) (e : lit x = lit y) : x = y :=
  h.vinj _ _ (h.keyed.inj (h.key x hx) (by rw [e]; exact h.key y hy))

theorem elem_bool {H : Type} {v : Value} {d : DataW H} {ps : List MemPlace} (he : P.underlying E = some .bool) (h : plainElem P E v = some (d, ps)) : ∃ x, v = .bool x ∧ d = .lit (.bool x) := by
  unfold plainElem at h
  rw [he] at h
  cases v <;> simp at h
  exact ⟨_, rfl, h.1.symm⟩

/-- block b of w is the set S, of at most n -/
def SetAt (P : Program) (K E : TypeId) (ok : α → Prop) (lit : α → Lit) (w : World) (b n : Nat) (S : α → Prop) : Prop :=
  ∃ D : DataW Unit, w.ownsMap P K (plainElem P E) b n D ∧ (∀ x, S x → ok x) ∧ (∀ x, ok x → (Maps.has D (lit x) = true ↔ S x)) ∧ ∀ x, S x → D.atKey (lit x) (.lit (.bool false)) = .lit (.bool true)

variable {w w' : World} {b n : Nat} {S : α → Prop}
theorem own_map_kept {H : Type} {k : TypeId} {R : Value → Option (DataW H × List MemPlace)} {D : DataW H} {X : Nat → Prop} (h : w.ownsMap P k R b n D) (hk : Kept X w w') (hx : ¬ X b) : w'.ownsMap P k R b n D := by
  have hlt := h.lt
  obtain ⟨es, clock, hb, r⟩ := h
  exact ⟨es, clock, (hk.block b hlt hx).trans hb, r⟩
theorem SetAt.lt (h : SetAt P K E ok lit w b n S) : b < w.heap.size := let ⟨_, h, _⟩ := h; h.lt
theorem SetAt.kept {X : Nat → Prop} (h : SetAt P K E ok lit w b n S) (hk : Kept X w w') (hx : ¬ X b) : SetAt P K E ok lit w' b n S :=
  let ⟨D, h1, h2⟩ := h
  ⟨D, own_map_kept h1 hk hx, h2⟩
theorem SetAt.mono (h : SetAt P K E ok lit w b n S) {n' : Nat} (hn : n ≤ n') : SetAt P K E ok lit w b n' S :=
  let ⟨D, h1, h2⟩ := h
  ⟨D, h1.mono hn, h2⟩
theorem SetAt.congr {S' : α → Prop} (h : SetAt P K E ok lit w b n S) (hs : ∀ x, S x ↔ S' x) : SetAt P K E ok lit w b n S' := by
  have e : S = S' := funext fun x => propext (hs x)
  rwa [← e]
theorem SetAt.drew (h : SetAt P K E ok lit w b n S) : SetAt P K E ok lit w.drew b n S := h
theorem SetAt.alloc (h : SetAt P K E ok lit w b n S) (o : Obj) : SetAt P K E ok lit (w.alloc o) b n S := h.kept ((Kept.refl (fun _ => False) w).alloc o) (fun h => h)
theorem SetAt.made (w : World) : SetAt P K E ok lit (w.alloc (.map #[] 0)) w.heap.size 0 (fun _ => False) :=
  ⟨_, World.ownsMap_made w P K _, fun _ h => h.elim, fun x _ => by rw [Maps.has_eq]; simp, fun _ h => h.elim⟩

theorem SetAt.store (hT : SetTy P T K E ok val lit) (h : SetAt P K E ok lit w b n S) (hn : n < maxLen) {x : α} (hx : ok x) :
    ∃ w', (Instr.mapUpdate T (.map (some b)) (val x) (.bool true)).run P w = .ok () w' ∧ SetAt P K E ok lit w' b (n + 1) (fun y => S y ∨ y = x) ∧ Kept (fun k => k = b) w w' := by
  obtain ⟨D, h1, h0, h2, h3⟩ := h
  obtain ⟨w', hrun, ho, hg⟩ := h1.update hT.keyed hT.ht hn (hT.key x hx) (plainElem_bool hT.he true)
  have hm := h1.isMap
  have hkl := hT.keyed.key (hT.key x hx)
  refine ⟨w', hrun, ⟨_, ho, ?_, ?_, ?_⟩, (Kept.refl _ _).grown hg (fun k _ e => (Option.some.inj e).symm)⟩
  · rintro y (hy | rfl)
    · exact h0 y hy
    · exact hx
  · intro y hy
    by_cases e : y = x
    · subst e
      rw [has_put_same hm hkl]
      simp
    · rw [has_put_other (fun hc => e (hT.linj hy hx hc)), h2 y hy]
      simp [e]
  · rintro y hy
    by_cases e : y = x
    · subst e
      exact atKey_put_same hm hkl _ _
    · rw [atKey_put_other (fun hc => e (hT.linj (by rcases hy with hy | hy; exact h0 y hy; exact absurd hy e) hx hc))]
      exact h3 y (by rcases hy with hy | hy; exact hy; exact absurd hy e)

open Classical in
theorem SetAt.look (hT : SetTy P T K E ok val lit) (h : SetAt P K E ok lit w b n S) {x : α} (hx : ok x) :
    (Instr.lookup T (.map (some b)) (val x) false).run P w = .ok (.bool (decide (S x))) w := by
  obtain ⟨D, h1, h0, h2, h3⟩ := h
  obtain ⟨v, ps, hrun, hv⟩ := h1.lookup hT.keyed hT.ht (hT.hz w) (plainElem_bool hT.he false) (hT.key x hx)
  obtain ⟨c, rfl, hc⟩ := elem_bool hT.he hv
  rw [hrun]
  have hc2 : c = decide (S x) := by
    by_cases hS : S x
    · rw [h3 x hS] at hc
      simp only [DataW.lit.injEq, Lit.bool.injEq] at hc
      rw [← hc]; simp [hS]
    · have : Maps.has D (lit x) = false := by
        rw [Bool.eq_false_iff]; intro hh; exact hS ((h2 x hx).1 hh)
      rw [atKey_of_not_has this] at hc
      simp only [DataW.lit.injEq, Lit.bool.injEq] at hc
      rw [← hc]; simp [hS]
  rw [hc2]

theorem list_of {β γ : Type} {Q : γ → Prop} {f : γ → β} : ∀ l : List β, (∀ y ∈ l, ∃ x, Q x ∧ y = f x) → ∃ l' : List γ, l'.map f = l ∧ ∀ x ∈ l', Q x
  | [], _ => ⟨[], rfl, by simp⟩
  | y :: l, h => by
    obtain ⟨x, hx, rfl⟩ := h y (by simp)
    obtain ⟨l', e, hl⟩ := list_of l (fun z hz => h z (List.mem_cons_of_mem _ hz))
    refine ⟨x :: l', by rw [List.map_cons, e], fun z hz => ?_⟩
    rcases List.mem_cons.1 hz with rfl | hz
    · exact hx
    · exact hl z hz
theorem nodup_of_map {β γ : Type} {f : γ → β} : ∀ {l : List γ}, (l.map f).Pairwise (fun a b => a ≠ b) → l.Nodup
  | [], _ => List.nodup_nil
  | x :: l, h => by
    rw [List.map_cons, List.pairwise_cons] at h
    exact List.nodup_cons.2 ⟨fun hx => h.1 (f x) (List.mem_map.2 ⟨x, hx, rfl⟩) rfl, nodup_of_map h.2⟩
/-- how many it has -/
theorem SetAt.card (hT : SetTy P T K E ok val lit) (h : SetAt P K E ok lit w b n S) : ∃ m, Card S m ∧ m ≤ n ∧ SetAt P K E ok lit w b m S ∧ ∀ ty, (Builtin.len_ #[T] ty #[.map (some b)]).run P w = .ok (.int .i64 (m : Int)) w := by
  obtain ⟨D, h1, h0, h2, h3⟩ := h
  have hlen := fun ty => h1.len hT.ht ty
  have hle := h1.size_le
  obtain ⟨es0, clock, hb, F, hs, hD⟩ := h1
  have hsz : Maps.size D = es0.size := by rw [hD]; exact length_read es0
  obtain ⟨es, hes, hpw, _⟩ := World.ownsMap.entries (⟨es0, clock, hb, F, hs, hD⟩ : w.ownsMap P K (plainElem P E) b n D) hT.keyed
  have hk : ∀ y ∈ es.map (·.1), ∃ x, ok x ∧ y = lit x := by
    intro y hy
    obtain ⟨p, hp, rfl⟩ := List.mem_map.1 hy
    have hp2 : p ∈ (es0.toList.map (WideElems.rg P K (plainElem P E))).foldr DataW.insert [] := by
      rw [hes] at hD
      injection hD with hD
      rw [← hD]; exact hp
    obtain ⟨x, hx, rfl⟩ := List.mem_map.1 (mem_sorted.1 hp2)
    obtain ⟨y, hy⟩ := F.reads x hx
    obtain ⟨z, hz, _, e⟩ := hT.inv _ _ (WideElems.rd_key hy)
    exact ⟨z, hz, by rw [WideElems.rg_of hy]; exact e⟩
  obtain ⟨l, hl, hlo⟩ := list_of _ hk
  refine ⟨Maps.size D, ⟨l, ?_, ?_, ?_⟩, hle, ⟨D, ⟨es0, clock, hb, F, by omega, hD⟩, h0, h2, h3⟩, hlen⟩
  · apply nodup_of_map (f := lit)
    rw [hl]
    exact List.pairwise_map.2 hpw
  · intro x
    constructor
    · intro hx
      rw [← h2 x (hlo x hx), hes, has_eq, List.any_eq_true]
      have : lit x ∈ es.map (·.1) := by rw [← hl]; exact List.mem_map.2 ⟨x, hx, rfl⟩
      obtain ⟨p, hp, e⟩ := List.mem_map.1 this
      exact ⟨p, hp, by rw [e]; exact WideAt.sameKey_self (hT.keyed.key (hT.key x (hlo x hx)))⟩
    · intro hx
      have hh := (h2 x (h0 x hx)).2 hx
      rw [hes, has_eq, List.any_eq_true] at hh
      obtain ⟨p, hp, e⟩ := hh
      have : p.1 ∈ l.map lit := by rw [hl]; exact List.mem_map.2 ⟨p, hp, rfl⟩
      obtain ⟨y, hy, e2⟩ := List.mem_map.1 this
      have e3 := WideAt.sameKey_eq e
      have := hT.linj (hlo y hy) (h0 x hx) (e2.trans e3)
      rwa [← this]
  · rw [hes, size_eq]
    have := congrArg List.length hl
    simpa using this

/-- a range over the set is under way: those of L are still to come -/
def RangeAt (P : Program) (K E : TypeId) (ok : α → Prop) (lit : α → Lit) (w : World) (b r n : Nat) (S L : α → Prop) (cnt : Nat) : Prop :=
  ∃ (D : DataW Unit) (left : Lit → Bool), w.ranges P K (plainElem P E) b r n D left cnt ∧ (∀ x, S x → ok x) ∧ (∀ x, ok x → (Maps.has D (lit x) = true ↔ S x)) ∧ (∀ x, S x → D.atKey (lit x) (.lit (.bool false)) = .lit (.bool true)) ∧
    (∀ x, L x → S x) ∧ ∀ x, S x → (left (lit x) = true ↔ L x)

variable {r cnt : Nat} {L : α → Prop}
theorem ranges_kept {H : Type} {k : TypeId} {R : Value → Option (DataW H × List MemPlace)} {D : DataW H} {left : Lit → Bool} {X : Nat → Prop} (h : w.ranges P k R b r n D left cnt) (hk : Kept X w w') (hx : ¬ X b) (hr : ¬ X r) : w'.ranges P k R b r n D left cnt := by
  have hb1 := h.owns.lt
  have hr1 := h.lt
  obtain ⟨es, clock, since, seen, c0, hb, F, hs, hD, hr', rest⟩ := h
  exact ⟨es, clock, since, seen, c0, (hk.block b hb1 hx).trans hb, F, hs, hD, (hk.block r hr1 hr).trans hr', rest⟩
theorem RangeAt.kept {X : Nat → Prop} (h : RangeAt P K E ok lit w b r n S L cnt) (hk : Kept X w w') (hx : ¬ X b) (hr : ¬ X r) : RangeAt P K E ok lit w' b r n S L cnt :=
  let ⟨D, left, h1, h2⟩ := h
  ⟨D, left, ranges_kept h1 hk hx hr, h2⟩
theorem RangeAt.set (h : RangeAt P K E ok lit w b r n S L cnt) : SetAt P K E ok lit w b n S :=
  let ⟨D, _, h1, h2, h3, h4, _⟩ := h
  ⟨D, h1.owns, h2, h3, h4⟩
theorem RangeAt.lt (h : RangeAt P K E ok lit w b r n S L cnt) : r < w.heap.size ∧ r ≠ b := let ⟨_, _, h1, _⟩ := h; ⟨h1.lt, h1.ne⟩
theorem RangeAt.left_eq (h : RangeAt P K E ok lit w b r n S L cnt) : w.rangeLeft b r = cnt := let ⟨_, _, h1, _⟩ := h; h1.left_eq
theorem SetAt.range (hT : SetTy P T K E ok val lit) (h : SetAt P K E ok lit w b n S) :
    ∃ w' cnt, (Instr.range T (.map (some b))).run P w = .ok (.pointer (some ⟨w.heap.size, 0, none⟩)) w' ∧ RangeAt P K E ok lit w' b w.heap.size n S S cnt ∧ Kept (fun _ => False) w w' ∧ w'.heap.size = w.heap.size + 1 ∧ cnt ≤ n := by
  obtain ⟨D, h1, h0, h2, h3⟩ := h
  obtain ⟨w', hrun, hr, hg, hs⟩ := h1.range hT.keyed hT.ht
  exact ⟨w', _, hrun, ⟨D, _, hr, h0, h2, h3, fun _ h => h, fun x hx => h2 x (h0 x hx)⟩, (Kept.refl _ _).grown hg (fun k _ e => by cases e), hs, h1.size_le⟩
theorem RangeAt.next (hT : SetTy P T K E ok val lit) (h : RangeAt P K E ok lit w b r n S L cnt) (ty : TypeId) :
    (cnt = 0 ∧ (∀ x, ¬ L x) ∧ (Instr.next (.pointer (some ⟨r, 0, none⟩)) false ty).run P w = .ok (.tuple #[.bool false]) w) ∨
    ∃ x w' cnt', L x ∧ (Instr.next (.pointer (some ⟨r, 0, none⟩)) false ty).run P w = .ok (.tuple #[.bool true, val x, .bool true]) w' ∧ RangeAt P K E ok lit w' b r n S (fun y => L y ∧ y ≠ x) cnt' ∧ cnt' < cnt ∧
      Kept (fun k => k = r) w w' ∧ w'.heap.size = w.heap.size ∧ (Instr.entry (.pointer (some ⟨r, 0, none⟩))).run P w' = .ok (.tuple #[val x, .bool true]) w' := by
  obtain ⟨D, left, h1, h0, h2, h3, h4, h5⟩ := h
  rcases h1.next hT.keyed ty with ⟨e, hl, hrun⟩ | ⟨key, v, kl, y, w', cnt', hkey, hlk, hv, hat, hrun, hr, hlt, hg, hsz, hen⟩
  · refine Or.inl ⟨e, fun x hx => ?_, hrun⟩
    have := (h5 x (h4 x hx)).2 hx
    rw [hl] at this; cases this
  · obtain ⟨x, hx, rfl, rfl⟩ := hT.inv _ _ hkey
    have hS : S x := by
      rw [← h2 x hx]
      refine has_true_of_atKey (y := y.1) hat
    have hLx : L x := (h5 x hS).1 hlk
    obtain ⟨d, ps⟩ := y
    obtain ⟨c, rfl, rfl⟩ := elem_bool hT.he hv
    have hc := hat (.lit (.bool false))
    rw [h3 x hS] at hc
    simp only [DataW.lit.injEq, Lit.bool.injEq] at hc
    subst hc
    have hkl := hT.keyed.key hkey
    refine Or.inr ⟨x, w', cnt', hLx, hrun, ⟨D, _, hr, h0, h2, h3, fun z hz => h4 z hz.1, fun z hz => ?_⟩, hlt, (Kept.refl _ _).grown hg (fun k _ e => (Option.some.inj e).symm), hsz, hen⟩
    have hz5 := h5 z hz
    by_cases e : z = x
    · subst e
      rw [WideAt.sameKey_self hkl]
      simp
    · rw [sameKey_ne (fun hc => e (hT.linj (h0 z hz) hx hc))]
      simp [hz5, e]

/-! ### at the operations, for walks -/
section
variable (w : World) {ops : Array Oper} {rest : List Oper} {o : Oper} {a : Act} {Q : Exit → Act → World → Prop}
theorem wpList_set_store (hg : o.guard = none) (m x v : Operand) (hop : o.op = Op.mapUpdate T m x v) (hT : SetTy P T K E ok val lit) (b n : Nat) (S : α → Prop) (hm : a.eval m = .map (some b)) (h : SetAt P K E ok lit w b n S) (hn : n < maxLen)
    (X : α) (hx : a.eval x = val X) (hok : ok X) (hv : a.eval v = .bool true)
    (hK : ∀ w', SetAt P K E ok lit w' b (n + 1) (fun y => S y ∨ y = X) → Kept (fun k => k = b) w w' → wpList P ops Q rest (a.put o.dst undef) w') : wpList P ops Q (o :: rest) a w := by
  refine wpList_plain hg fun K' hK' => ?_
  obtain ⟨w', hrun, r1, r2⟩ := h.store hT hn hok
  unfold Oper.wp
  simp [execOp, hop, hm, hx, hv, hrun, Result.andThen]
  exact hK' _ _ (hK w' r1 r2)
open Classical in
theorem wpList_set_look (hg : o.guard = none) (m x : Operand) (hop : o.op = Op.lookup T m x false) (hT : SetTy P T K E ok val lit) (b n : Nat) (S : α → Prop) (hm : a.eval m = .map (some b)) (h : SetAt P K E ok lit w b n S)
    (X : α) (hx : a.eval x = val X) (hok : ok X) (hK : wpList P ops Q rest (a.put o.dst (.bool (decide (S X)))) w) : wpList P ops Q (o :: rest) a w := by
  refine wpList_plain hg fun K' hK' => ?_
  have hrun := h.look hT hok
  unfold Oper.wp
  simp [execOp, hop, hm, hx, hrun, Result.andThen]
  exact hK' _ _ hK
theorem wpList_set_range (hg : o.guard = none) (m : Operand) (hop : o.op = Op.range T m) (hT : SetTy P T K E ok val lit) (b n : Nat) (S : α → Prop) (hm : a.eval m = .map (some b)) (h : SetAt P K E ok lit w b n S)
    (hK : ∀ w' cnt, RangeAt P K E ok lit w' b w.heap.size n S S cnt → Kept (fun _ => False) w w' → w'.heap.size = w.heap.size + 1 → cnt ≤ n → wpList P ops Q rest (a.put o.dst (.pointer (some ⟨w.heap.size, 0, none⟩))) w') : wpList P ops Q (o :: rest) a w := by
  refine wpList_plain hg fun K' hK' => ?_
  obtain ⟨w', cnt, hrun, r1, r2, r3, r4⟩ := h.range hT
  unfold Oper.wp
  simp [execOp, hop, hm, hrun, Result.andThen]
  exact hK' _ _ (hK w' cnt r1 r2 r3 r4)
theorem wpList_set_next (hg : o.guard = none) (it : Operand) (hop : o.op = Op.next it false) (hT : SetTy P T K E ok val lit) (b r n : Nat) (S L : α → Prop) (cnt : Nat) (hit : a.eval it = .pointer (some ⟨r, 0, none⟩)) (h : RangeAt P K E ok lit w b r n S L cnt)
    (hDone : cnt = 0 → (∀ x, ¬ L x) → wpList P ops Q rest (a.put o.dst (.tuple #[.bool false])) w)
    (hMore : ∀ (x : α) (w' : World) (cnt' : Nat), L x → RangeAt P K E ok lit w' b r n S (fun y => L y ∧ y ≠ x) cnt' → cnt' < cnt → Kept (fun k => k = r) w w' → w'.heap.size = w.heap.size →
      (Instr.entry (.pointer (some ⟨r, 0, none⟩))).run P w' = .ok (.tuple #[val x, .bool true]) w' → wpList P ops Q rest (a.put o.dst (.tuple #[.bool true, val x, .bool true])) w') : wpList P ops Q (o :: rest) a w := by
  refine wpList_plain hg fun K' hK' => ?_
  unfold Oper.wp
  rcases h.next hT o.type with ⟨h0, hl, hrun⟩ | ⟨x, w', cnt', hx, hrun, hr, hlt, hk, hsz, hen⟩
  · simp [execOp, hop, hit, hrun, Result.andThen]
    exact hK' _ _ (hDone h0 hl)
  · simp [execOp, hop, hit, hrun, Result.andThen]
    exact hK' _ _ (hMore x w' cnt' hx hr hlt hk hsz hen)
end
end
end Go.Proofs.Ytodmkjeankbieac

/- What is known, as chapter 8's reference has it: all facts in a row, truths beside them; step by step it is the same as sets of facts. No program in sight. -/
namespace Go.Proofs.Ytodmkjeankbieac

/-! ### all facts in a row -/
def placeFs (p : Pg) (ns : List Nat) (a : PlaceV) : List Fc :=
  (if a.k = 2 then [] else ns.map (isF a)) ++ ((List.range p.wide.length).filter fun (t : Nat) => mayT p.wide a.k (t : Int)).map fun (t : Nat) => hasF a (t : Int)
def knFs (p : Pg) (ns : List Nat) : List Fc := (List.range p.wide.length).flatMap fun (t : Nat) => if wd p.wide (t : Int) then [] else ns.map (knF (t : Int))
def allFs (p : Pg) (ns : List Nat) (sg sl : Nat) : List Fc := knFs p ns ++ (placesL sg sl).flatMap (placeFs p ns)

/-- the numbers of facts: rising, and just those -/
structure NumsOk (p : Pg) (ns : List Nat) : Prop where
  mem : ∀ n, n ∈ ns ↔ NumIn p n
  up : ns.Pairwise (· < ·)

section
variable {p : Pg} {ns : List Nat} {sg sl : Nat}
theorem NumsOk.nodup (h : NumsOk p ns) : ns.Nodup := h.up.imp fun h => Nat.ne_of_lt h
theorem allFs_mem (h : NumsOk p ns) (f : Fc) : f ∈ allFs p ns sg sl ↔ FactIn p sg sl f := by
  obtain ⟨pl, temp, t, n⟩ := f
  unfold allFs knFs placeFs FactIn
  simp only [List.mem_append, List.mem_flatMap, List.mem_range]
  constructor
  · rintro (⟨x, hx, hf⟩ | ⟨a, ha, hf | hf⟩)
    · try simp only at hf
      split at hf
      · cases hf
      · rename_i hw
        obtain ⟨m, hm, e⟩ := List.mem_map.1 hf
        unfold knF at e
        injection e with e1 e2 e3 e4
        subst e1; subst e2; subst e3; subst e4
        exact Or.inl ⟨rfl, rfl, ⟨by omega, by omega⟩, by simpa using hw, (h.mem _).1 hm⟩
    · try simp only at hf
      split at hf
      · cases hf
      · rename_i hk
        obtain ⟨m, hm, e⟩ := List.mem_map.1 hf
        unfold isF at e
        injection e with e1 e2 e3 e4
        subst e1; subst e2; subst e3; subst e4
        exact Or.inr (Or.inr ⟨placesL_mem.1 ha, rfl, rfl, hk, (h.mem _).1 hm⟩)
    · obtain ⟨m, hm, e⟩ := List.mem_map.1 hf
      obtain ⟨h1, h2⟩ := List.mem_filter.1 hm
      unfold hasF at e
      injection e with e1 e2 e3 e4
      subst e1; subst e2; subst e3; subst e4
      rw [List.mem_range] at h1
      exact Or.inr (Or.inl ⟨placesL_mem.1 ha, rfl, rfl, ⟨by omega, by omega⟩, h2⟩)
  · rintro (⟨h1, h2, ⟨h3, h4⟩, h5, h6⟩ | ⟨h1, h2, h3, ⟨h4, h5⟩, h6⟩ | ⟨h1, h2, h3, h4, h5⟩)
    · try simp only at h1 h2 h3 h4 h5 h6
      subst h1; subst h2
      have e : ((t.toNat : Nat) : Int) = t := by omega
      refine Or.inl ⟨t.toNat, by omega, ?_⟩
      rw [e, h5]
      exact List.mem_map.2 ⟨n, (h.mem _).2 h6, rfl⟩
    · try simp only at h1 h2 h3 h4 h5 h6
      subst h2; subst h3
      have e : ((t.toNat : Nat) : Int) = t := by omega
      refine Or.inr ⟨pl, placesL_mem.2 h1, Or.inr (List.mem_map.2 ⟨t.toNat, List.mem_filter.2 ⟨List.mem_range.2 (by omega), by rw [e]; exact h6⟩, by rw [e]; rfl⟩)⟩
    · try simp only at h1 h2 h3 h4 h5
      subst h2; subst h3
      refine Or.inr ⟨pl, placesL_mem.2 h1, Or.inl ?_⟩
      rw [if_neg h4]
      exact List.mem_map.2 ⟨n, (h.mem _).2 h5, rfl⟩

theorem nodup_map_on {α β : Type} {f : α → β} : ∀ {l : List α}, (∀ x ∈ l, ∀ y ∈ l, f x = f y → x = y) → l.Nodup → (l.map f).Nodup
  | [], _, _ => List.nodup_nil
  | x :: l, hi, hn => by
    have hn := List.nodup_cons.1 hn
    refine List.nodup_cons.2 ⟨fun hc => ?_, nodup_map_on (fun a ha b hb => hi a (List.mem_cons_of_mem _ ha) b (List.mem_cons_of_mem _ hb)) hn.2⟩
    obtain ⟨y, hy, e⟩ := List.mem_map.1 hc
    have := hi y (List.mem_cons_of_mem _ hy) x List.mem_cons_self e
    exact hn.1 (this ▸ hy)
theorem nodup_app {α : Type} {l m : List α} (h1 : l.Nodup) (h2 : m.Nodup) (h3 : ∀ x ∈ l, x ∉ m) : (l ++ m).Nodup :=
  List.nodup_append.2 ⟨h1, h2, fun a ha b hb e => h3 a ha (e ▸ hb)⟩
theorem nodup_flat {α β γ : Type} {f : α → List β} {g : β → γ} {c : α → γ} (hg : ∀ x, ∀ y ∈ f x, g y = c x) (hc : ∀ x y, c x = c y → x = y) : ∀ {l : List α}, (∀ x ∈ l, (f x).Nodup) → l.Nodup → (l.flatMap f).Nodup
  | [], _, _ => List.nodup_nil
  | x :: l, h1, h2 => by
    rw [List.flatMap_cons]
    have hn := List.nodup_cons.1 h2
    refine nodup_app (h1 x List.mem_cons_self) (nodup_flat hg hc (fun y hy => h1 y (List.mem_cons_of_mem _ hy)) hn.2) fun y hy hc2 => ?_
    obtain ⟨z, hz, hyz⟩ := List.mem_flatMap.1 hc2
    have := hc x z ((hg x y hy).symm.trans (hg z y hyz))
    exact hn.1 (this ▸ hz)
theorem placesL_nodup (sg sl : Nat) : (placesL sg sl).Nodup := by
  unfold placesL
  have hm : ∀ (k : Int) (n : Nat), ((List.range n).map fun (i : Nat) => (⟨k, (i : Int)⟩ : PlaceV)).Nodup := fun k n =>
    nodup_map_on (fun a _ b _ e => by injection e; omega) List.nodup_range
  refine nodup_app (hm _ _) (nodup_app (hm _ _) (hm _ _) ?_) ?_
  · intro x hx hc
    obtain ⟨a, _, rfl⟩ := List.mem_map.1 hx
    obtain ⟨b, _, e⟩ := List.mem_map.1 hc
    injection e with e _; omega
  · intro x hx hc
    obtain ⟨a, _, rfl⟩ := List.mem_map.1 hx
    rcases List.mem_append.1 hc with hc | hc
    · obtain ⟨b, _, e⟩ := List.mem_map.1 hc
      injection e with e _; omega
    · obtain ⟨b, _, e⟩ := List.mem_map.1 hc
      injection e with e _; omega
theorem placeFs_pl {a : PlaceV} {f : Fc} (h : f ∈ placeFs p ns a) : f.pl = a := by
  unfold placeFs at h
  rcases List.mem_append.1 h with h | h
  · split at h
    · cases h
    · obtain ⟨_, _, rfl⟩ := List.mem_map.1 h; rfl
  · obtain ⟨_, _, rfl⟩ := List.mem_map.1 h; rfl
theorem placeFs_nodup (h : NumsOk p ns) (a : PlaceV) : (placeFs p ns a).Nodup := by
  unfold placeFs
  refine nodup_app ?_ (nodup_map_on (fun x _ y _ e => by unfold hasF at e; injection e with _ _ e; omega) (List.nodup_range.filter _)) ?_
  · split
    · exact List.nodup_nil
    · exact nodup_map_on (fun x _ y _ e => by unfold isF at e; injection e) h.nodup
  · intro x hx hc
    obtain ⟨b, _, rfl⟩ := List.mem_map.1 hc
    split at hx
    · cases hx
    · obtain ⟨c, _, e⟩ := List.mem_map.1 hx
      cases e
theorem knFs_pl {f : Fc} (h : f ∈ knFs p ns) : f.pl = ⟨0, 0⟩ := by
  unfold knFs at h
  obtain ⟨t, _, h⟩ := List.mem_flatMap.1 h
  split at h
  · cases h
  · obtain ⟨_, _, rfl⟩ := List.mem_map.1 h; rfl
theorem allFs_nodup (h : NumsOk p ns) : (allFs p ns sg sl).Nodup := by
  unfold allFs
  refine nodup_app ?_ (nodup_flat (g := Fc.pl) (c := id) (fun x y hy => placeFs_pl hy) (fun _ _ e => e) (fun x _ => placeFs_nodup h x) (placesL_nodup sg sl)) ?_
  · unfold knFs
    refine nodup_flat (g := Fc.t) (c := fun (t : Nat) => (t : Int)) (fun x y hy => ?_) (fun x y e => by exact Int.ofNat_inj.1 e) (fun x _ => ?_) List.nodup_range
    · split at hy
      · cases hy
      · obtain ⟨_, _, rfl⟩ := List.mem_map.1 hy; rfl
    · split
      · exact List.nodup_nil
      · exact nodup_map_on (fun x _ y _ e => by unfold knF at e; injection e) h.nodup
  · intro x hx hc
    obtain ⟨a, ha, hxa⟩ := List.mem_flatMap.1 hc
    have e := (knFs_pl hx).symm.trans (placeFs_pl hxa)
    have := isB_kind (placesL_mem.1 ha)
    rw [← e] at this
    simp at this
end

/-! ### truths beside them -/
abbrev Bits := Nat → Bool
def fc0 : Fc := ⟨⟨0, 0⟩, false, 0, 0⟩
def fcAt (all : List Fc) (i : Nat) : Fc := all.getD i fc0
theorem fcAt_get {all : List Fc} {i : Nat} (h : i < all.length) : fcAt all i = all[i] := by unfold fcAt; rw [List.getD_eq_getElem?_getD, List.getElem?_eq_getElem h]; rfl
theorem fcAt_mem {all : List Fc} {i : Nat} (h : i < all.length) : fcAt all i ∈ all := by rw [fcAt_get h]; exact List.getElem_mem h
theorem fcAt_inj {all : List Fc} (hn : all.Nodup) {i j : Nat} (hi : i < all.length) (hj : j < all.length) (e : fcAt all i = fcAt all j) : i = j := by
  rw [fcAt_get hi, fcAt_get hj] at e
  rcases Nat.lt_trichotomy i j with h | h | h
  · exact absurd e (List.pairwise_iff_getElem.1 hn i j hi hj h)
  · exact h
  · exact absurd e.symm (List.pairwise_iff_getElem.1 hn j i hj hi h)
theorem fcAt_of {all : List Fc} {f : Fc} (h : f ∈ all) : ∃ i, i < all.length ∧ fcAt all i = f := by
  obtain ⟨i, hi, e⟩ := List.getElem_of_mem h
  exact ⟨i, hi, (fcAt_get hi).trans e⟩
def setOf (all : List Fc) (s : Bits) : FS := fun f => ∃ i, i < all.length ∧ fcAt all i = f ∧ s i = true
def findB (all : List Fc) (s : Bits) (f : Fc) : Bool := (List.range all.length).any fun i => decide (fcAt all i = f) && s i
theorem findB_iff {all : List Fc} {s : Bits} {f : Fc} : findB all s f = true ↔ setOf all s f := by
  unfold findB setOf
  rw [List.any_eq_true]
  constructor
  · rintro ⟨i, hi, h⟩
    rw [Bool.and_eq_true] at h
    exact ⟨i, List.mem_range.1 hi, of_decide_eq_true h.1, h.2⟩
  · rintro ⟨i, hi, h1, h2⟩
    exact ⟨i, List.mem_range.2 hi, by rw [h1, h2]; simp⟩
theorem findB_at {all : List Fc} (hn : all.Nodup) {s : Bits} {i : Nat} (hi : i < all.length) : findB all s (fcAt all i) = s i := by
  rw [Bool.eq_iff_iff, findB_iff]
  constructor
  · rintro ⟨j, hj, e, h⟩
    rw [← fcAt_inj hn hj hi e]; exact h
  · intro h; exact ⟨i, hi, rfl, h⟩
theorem findB_none {all : List Fc} {s : Bits} {f : Fc} (h : ∀ i, i < all.length → fcAt all i ≠ f) : findB all s f = false := by
  rw [Bool.eq_false_iff]
  intro hc
  obtain ⟨i, hi, e, _⟩ := findB_iff.1 hc
  exact h i hi e

def moveB (all : List Fc) (s : Bits) (m : Mv) : Bits := fun i =>
  if (fcAt all i).pl.k = 0 ∨ ovP (fcAt all i).pl m.to = false then s i
  else if (fcAt all i).pl ≠ m.to then false
  else if m.c = false then findB all s { fcAt all i with pl := m.fr }
  else if (fcAt all i).temp = true then findB all s ⟨⟨0, 0⟩, true, (fcAt all i).t, m.n⟩
  else decide ((fcAt all i).n = m.n)
def movesB (all : List Fc) (s : Bits) (l : List Mv) : Bits := l.foldl (moveB all) s
def giveB (all : List Fc) (s : Bits) (i : In) (a : PlaceV) : Bits := fun k =>
  let f := fcAt all k
  let mine : Bool := f.temp && decide (f.t = i.d)
  let over : Bool := decide (f.pl.k ≠ 0) && ovP f.pl a
  let o0 : Bool := if f.pl = a ∧ mine = true ∧ f.pl.k ≠ 0 then true else s k && !mine && !over
  let o1 : Bool := if i.op = 1 then
      (let o : Bool := if (mine = true ∧ f.pl.k = 0) ∨ (f.pl = a ∧ f.temp = false) then decide (f.n = i.n) else o0
       if mine = true ∧ f.pl.k ≠ 0 ∧ over = false then findB all s ⟨f.pl, false, 0, i.n⟩ else o)
    else o0
  if i.op = 2 then
    (let o : Bool := if mine = true ∧ over = false then findB all s { f with t := i.a } else o1
     let o : Bool := if f.pl = a ∧ f.temp = false then findB all s ⟨⟨0, 0⟩, true, i.a, f.n⟩ else o
     if f.pl = a ∧ f.temp = true ∧ f.t = i.a then true else o)
  else o1
def insBt (all : List Fc) (s : Bits) (i : In) (a : PlaceV) : Bits := if gvs i.op then giveB all s i a else s
def thruB (all : List Fc) (s : Bits) (i : In) (r : Rw) : Bits := movesB all (insBt all (movesB all s r.before) i r.d) r.after
def tookB (all : List Fc) (s : Bits) (i : In) (r : Rw) : Bool :=
  (!decide (0 < many i.op) || findB all (movesB all s r.before) (hasF r.a i.a)) && (!decide (1 < many i.op) || findB all (movesB all s r.before) (hasF r.b i.b))

section
variable {p : Pg} {sg sl : Int} {all : List Fc} {s : Bits}
theorem setOf_in (hall : ∀ f, f ∈ all ↔ FactIn p sg sl f) (s : Bits) : InU p sg sl (setOf all s) := by
  rintro f ⟨i, hi, rfl, _⟩
  exact (hall _).1 (fcAt_mem hi)
theorem setOf_at (hn : all.Nodup) {i : Nat} (hi : i < all.length) : setOf all s (fcAt all i) ↔ s i = true := by rw [← findB_iff, findB_at hn hi]
theorem setOf_ext (hall : ∀ f, f ∈ all ↔ FactIn p sg sl f) (hn : all.Nodup) {S : FS} (hS : InU p sg sl S) (h : ∀ i, i < all.length → (s i = true ↔ S (fcAt all i))) : setOf all s = S := by
  funext f
  apply propext
  constructor
  · rintro ⟨i, hi, rfl, hs⟩
    exact (h i hi).1 hs
  · intro hf
    obtain ⟨i, hi, rfl⟩ := fcAt_of ((hall f).2 (hS f hf))
    exact ⟨i, hi, rfl, (h i hi).2 hf⟩
theorem moveB_set (hall : ∀ f, f ∈ all ↔ FactIn p sg sl f) (hn : all.Nodup) {m : Mv} (hm : mvB sg sl m = true) : setOf all (moveB all s m) = moveF p (setOf all s) m := by
  have hu := setOf_in hall s
  obtain ⟨m1, m2, m3⟩ := mvB_facts hm
  have hk := isB_kind m1
  refine setOf_ext hall hn (moveF_in hu hm) fun i hi => ?_
  have hin := (hall _).1 (fcAt_mem hi)
  have hat := setOf_at (s := s) hn hi
  unfold moveB
  generalize hf : fcAt all i = f at *
  constructor
  · intro h
    split at h
    · rename_i h0
      refine Or.inl ⟨hat.2 h, h0, ?_⟩
      cases ht : f.temp with
      | false => exact Or.inl rfl
      | true =>
        right
        rcases h0 with h0 | h0
        · have := (factIn_k0 hin h0).2.2.1.1; omega
        · by_cases hk0 : f.pl.k = 0
          · have := (factIn_k0 hin hk0).2.2.1.1; omega
          · have := (factIn_temp hin hk0 ht).2.2.1.1; omega
    · rename_i h0
      have hk0 : f.pl.k ≠ 0 := fun e => h0 (Or.inl e)
      split at h
      · cases h
      · rename_i h1
        have h1 : f.pl = m.to := Classical.byContradiction fun e => h1 e
        split at h
        · rename_i hc
          have hg := findB_iff.1 h
          refine Or.inr (Or.inr (Or.inr ⟨hc, _, hg, rfl, ?_⟩))
          cases ht : f.temp with
          | true =>
            obtain ⟨_, q1, _, q2⟩ := factIn_temp hin hk0 ht
            refine Or.inl ⟨rfl, by rw [← h1]; exact q2, ?_⟩
            obtain ⟨pl, temp, t, n⟩ := f
            simp only at h1 ht q1
            subst h1; subst ht; subst q1; rfl
          | false =>
            obtain ⟨_, q1, q2, _⟩ := factIn_num hin ht
            refine Or.inr ⟨rfl, by rw [← h1]; exact q2, ?_⟩
            obtain ⟨pl, temp, t, n⟩ := f
            simp only at h1 ht q1
            subst h1; subst ht; subst q1; rfl
        · rename_i hc
          have hc : m.c = true := by simpa using hc
          split at h
          · rename_i ht
            obtain ⟨_, q1, _, q2⟩ := factIn_temp hin hk0 ht
            refine Or.inr (Or.inr (Or.inl ⟨hc, _, findB_iff.1 h, rfl, rfl, ?_⟩))
            obtain ⟨pl, temp, t, n⟩ := f
            simp only at h1 ht q1
            subst h1; subst ht; subst q1; rfl
          · rename_i ht0
            have ht : f.temp = false := by simpa using ht0
            obtain ⟨_, q1, _, q2⟩ := factIn_num hin ht
            have hnn := of_decide_eq_true h
            refine Or.inr (Or.inl ⟨hc, by rw [← hnn]; exact q2, ?_⟩)
            clear ht0 h hat hf hin h0 hk0 q2
            obtain ⟨pl, temp, t, n⟩ := f
            simp only at h1 ht q1 hnn
            subst h1; subst ht; subst q1; subst hnn; rfl
  · have hno : ∀ f : Fc, f.pl = m.to → ¬ (f.pl.k = 0 ∨ ovP f.pl m.to = false) := by
      rintro f e (h | h)
      · rw [e] at h; omega
      · rw [e, ovP_self] at h; cases h
    have hne : ∀ f : Fc, f.pl = m.to → ¬ f.pl ≠ m.to := fun _ e h => h e
    rintro (⟨h1, h2, _⟩ | ⟨hc, hnn, rfl⟩ | ⟨hc, g, hg, h0, hnn, rfl⟩ | ⟨hc, g, hg, hp, h1⟩)
    · rw [if_pos h2]
      exact hat.1 h1
    · rw [if_neg (hno (isF m.to m.n) rfl), if_neg (hne (isF m.to m.n) rfl), if_neg (by rw [hc]; decide), if_neg (by simp [isF])]
      exact decide_eq_true rfl
    · rw [if_neg (hno (hasF m.to g.t) rfl), if_neg (hne (hasF m.to g.t) rfl), if_neg (by rw [hc]; decide), if_pos (show (hasF m.to g.t).temp = true from rfl)]
      refine findB_iff.2 ?_
      obtain ⟨q1, q2, _⟩ := factIn_k0 (hu g hg) h0
      have : g = ⟨⟨0, 0⟩, true, (hasF m.to g.t).t, m.n⟩ := by
        obtain ⟨pl, temp, t, n⟩ := g
        simp only at q1 q2 hnn
        subst q1; subst q2; subst hnn; rfl
      rw [← this]; exact hg
    · have hkf := isB_kind (m3 hc)
      have hgp : g.pl.k ≠ 0 := by rw [hp]; omega
      rcases h1 with ⟨ht, hy, rfl⟩ | ⟨ht, hy, rfl⟩
      · rw [if_neg (hno (hasF m.to g.t) rfl), if_neg (hne (hasF m.to g.t) rfl), if_pos hc]
        refine findB_iff.2 ?_
        obtain ⟨_, q1, _⟩ := factIn_temp (hu g hg) hgp ht
        have : g = { hasF m.to g.t with pl := m.fr } := by
          obtain ⟨pl, temp, t, n⟩ := g
          simp only at hp ht q1
          subst hp; subst ht; subst q1; rfl
        rw [← this]; exact hg
      · rw [if_neg (hno (isF m.to g.n) rfl), if_neg (hne (isF m.to g.n) rfl), if_pos hc]
        refine findB_iff.2 ?_
        obtain ⟨_, q1, _⟩ := factIn_num (hu g hg) ht
        have : g = { isF m.to g.n with pl := m.fr } := by
          obtain ⟨pl, temp, t, n⟩ := g
          simp only at hp ht q1
          subst hp; subst ht; subst q1; rfl
        rw [← this]; exact hg
theorem movesB_set (hall : ∀ f, f ∈ all ↔ FactIn p sg sl f) (hn : all.Nodup) : ∀ (l : List Mv) {s : Bits}, (∀ m ∈ l, mvB sg sl m = true) → setOf all (movesB all s l) = movesF p (setOf all s) l
  | [], _, _ => rfl
  | m :: l, s, hm => by
    show setOf all (movesB all (moveB all s m) l) = movesF p (moveF p (setOf all s) m) l
    rw [movesB_set hall hn l (fun x hx => hm x (List.mem_cons_of_mem _ hx)), moveB_set hall hn (hm m List.mem_cons_self)]

theorem giveB_set (hall : ∀ f, f ∈ all ↔ FactIn p sg sl f) (hn : all.Nodup) {i : In} (hi : InsOk p i) (hg : gvs i.op = true) {a : PlaceV} (ha : IsReg p sg sl i.d a) (hc : i ∈ p.code) : setOf all (giveB all s i a) = giveF (setOf all s) i a := by
  have hu := setOf_in hall s
  have hk := isB_kind ha.2
  have hka : a.k ≠ 0 := by omega
  refine setOf_ext hall hn (giveF_in hu hi hg ha hc) fun k hkl => ?_
  have hin := (hall _).1 (fcAt_mem hkl)
  have hat := setOf_at (s := s) hn hkl
  unfold giveB
  generalize hf : fcAt all k = f at *
  have hfi : ∀ g, setOf all s g → findB all s g = true := fun g => findB_iff.2
  have hov : f.pl = a → ovP f.pl a = true := fun e => by rw [e, ovP_self]
  have hz : f.pl.k = 0 → f.pl = ⟨0, 0⟩ := fun h => (factIn_k0 hin h).1
  have hmine : (f.temp && decide (f.t = i.d)) = true ↔ f.temp = true ∧ f.t = i.d := by simp
  have hover : (decide (f.pl.k ≠ 0) && ovP f.pl a) = false ↔ f.pl.k = 0 ∨ ovP f.pl a = false := by
    cases ovP f.pl a <;> simp
  have hn0 : f.temp = true → f.pl.k ≠ 0 → f.n = 0 := fun h1 h2 => (factIn_temp hin h2 h1).2.1
  have ht0 : f.temp = false → f.t = 0 := fun h1 => (factIn_num hin h1).2.1
  constructor
  · intro h
    have h00 : ∀ o0 : Bool, o0 = (if f.pl = a ∧ (f.temp && decide (f.t = i.d)) = true ∧ f.pl.k ≠ 0 then true else s k && !(f.temp && decide (f.t = i.d)) && !(decide (f.pl.k ≠ 0) && ovP f.pl a)) → o0 = true → giveF (setOf all s) i a f := by
      rintro o0 rfl h
      split at h
      · rename_i c
        obtain ⟨c1, c2, c3⟩ := c
        obtain ⟨c4, c5⟩ := hmine.1 c2
        refine Or.inr (Or.inr (Or.inr ?_))
        have := hn0 c4 c3
        clear h hat hf hin hov hz hmine hover hn0 ht0 c2
        obtain ⟨pl, temp, t, n⟩ := f
        simp only at c1 c3 c4 c5 this
        subst c1; subst c4; subst c5; subst this; rfl
      · rw [Bool.and_eq_true, Bool.and_eq_true, Bool.not_eq_true', Bool.not_eq_true'] at h
        obtain ⟨⟨h1, h2⟩, h3⟩ := h
        refine Or.inl ⟨hat.2 h1, hover.1 h3, ?_⟩
        cases ht : f.temp with
        | false => exact Or.inl rfl
        | true => right; intro e; rw [ht, e] at h2; simp at h2
    by_cases o2 : i.op = 2
    · have o1 : i.op ≠ 1 := by omega
      simp only [if_pos o2, if_neg o1] at h
      split at h
      · rename_i c
        obtain ⟨c1, c2, c3⟩ := c
        refine Or.inr (Or.inr (Or.inl ⟨o2, Or.inr ?_⟩))
        have := hn0 c2 (by rw [c1]; exact hka)
        clear h hat hf hin hov hz hmine hover hn0 ht0 h00
        obtain ⟨pl, temp, t, n⟩ := f
        simp only at c1 c2 c3 this
        subst c1; subst c2; subst c3; subst this; rfl
      · split at h
        · rename_i c
          obtain ⟨c1, c2⟩ := c
          refine Or.inr (Or.inr (Or.inl ⟨o2, Or.inl ⟨_, findB_iff.1 h, rfl, rfl, Or.inl ⟨rfl, Or.inr ?_⟩⟩⟩))
          have := ht0 c2
          clear h hat hf hin hov hz hmine hover hn0 ht0 h00
          obtain ⟨pl, temp, t, n⟩ := f
          simp only at c1 c2 this
          subst c1; subst c2; subst this; rfl
        · split at h
          · rename_i c
            obtain ⟨c1, c2⟩ := c
            obtain ⟨c4, c5⟩ := hmine.1 c1
            have hg := findB_iff.1 h
            refine Or.inr (Or.inr (Or.inl ⟨o2, Or.inl ⟨_, hg, c4, rfl, ?_⟩⟩))
            by_cases hk0 : f.pl.k = 0
            · refine Or.inl ⟨hk0, Or.inl ?_⟩
              have := hz hk0
              clear h hat hf hin hov hz hmine hover hn0 ht0 h00 c1 c2 hk0 hg
              obtain ⟨pl, temp, t, n⟩ := f
              simp only at c4 c5 this
              subst c4; subst c5; subst this; rfl
            · refine Or.inr ⟨hk0, (hover.1 c2).resolve_left hk0, ?_⟩
              have := hn0 c4 hk0
              clear h hat hf hin hov hz hmine hover hn0 ht0 h00 c1 c2 hk0 hg
              obtain ⟨pl, temp, t, n⟩ := f
              simp only at c4 c5 this
              subst c4; subst c5; subst this; rfl
          · exact h00 _ rfl h
    · by_cases o1 : i.op = 1
      · simp only [if_neg o2, if_pos o1] at h
        split at h
        · rename_i c
          obtain ⟨c1, c2, c3⟩ := c
          obtain ⟨c4, c5⟩ := hmine.1 c1
          refine Or.inr (Or.inl ⟨o1, Or.inl ⟨_, findB_iff.1 h, rfl, rfl, (hover.1 c3).resolve_left c2, ?_⟩⟩)
          have := hn0 c4 c2
          clear h hat hf hin hov hz hmine hover hn0 ht0 h00 c1 c2 c3
          obtain ⟨pl, temp, t, n⟩ := f
          simp only at c4 c5 this
          subst c4; subst c5; subst this; rfl
        · split at h
          · rename_i c
            have hnn := of_decide_eq_true h
            rcases c with ⟨c1, c2⟩ | ⟨c1, c2⟩
            · obtain ⟨c4, c5⟩ := hmine.1 c1
              refine Or.inr (Or.inl ⟨o1, Or.inr (Or.inl ?_)⟩)
              have := hz c2
              clear h hat hf hin hov hz hmine hover hn0 ht0 h00 c1 c2
              obtain ⟨pl, temp, t, n⟩ := f
              simp only at c4 c5 this hnn
              subst c4; subst c5; subst this; subst hnn; rfl
            · refine Or.inr (Or.inl ⟨o1, Or.inr (Or.inr ?_)⟩)
              have := ht0 c2
              clear h hat hf hin hov hz hmine hover hn0 ht0 h00
              obtain ⟨pl, temp, t, n⟩ := f
              simp only at c1 c2 this hnn
              subst c1; subst c2; subst this; subst hnn; rfl
          · exact h00 _ rfl h
      · simp only [if_neg o2, if_neg o1] at h
        exact h00 _ rfl h
  · have hfin : ∀ g, setOf all s g → FactIn p sg sl g := hu
    have hkn : ∀ g, setOf all s g → g.temp = true → g.pl.k = 0 → g = ⟨⟨0, 0⟩, true, g.t, g.n⟩ := by
      intro g hg h1 h2
      obtain ⟨q1, q2, _⟩ := factIn_k0 (hu g hg) h2
      obtain ⟨pl, temp, t, n⟩ := g
      simp only at q1 q2
      subst q1; subst q2; rfl
    have hhs : ∀ g, setOf all s g → g.temp = true → g.pl.k ≠ 0 → g = ⟨g.pl, true, g.t, 0⟩ := by
      intro g hg h1 h2
      obtain ⟨_, q1, _⟩ := factIn_temp (hu g hg) h2 h1
      obtain ⟨pl, temp, t, n⟩ := g
      simp only at q1 h1
      subst q1; subst h1; rfl
    have hnm : ∀ g, setOf all s g → g.temp = false → g = ⟨g.pl, false, 0, g.n⟩ ∧ g.pl.k ≠ 0 := by
      intro g hg h1
      obtain ⟨q0, q1, _⟩ := factIn_num (hu g hg) h1
      have := isB_kind q0
      obtain ⟨pl, temp, t, n⟩ := g
      simp only at q1 h1 this
      subst q1; subst h1; exact ⟨rfl, by simp only; omega⟩
    have hself := ovP_self a
    have hfar : ∀ x : PlaceV, ovP x a = false → x ≠ a := by rintro x h rfl; rw [hself] at h; cases h
    rintro (⟨h1, h2, h3⟩ | ⟨o1, ⟨g, hg, ht, hnn, hov2, rfl⟩ | rfl | rfl⟩ | ⟨o2, ⟨g, hg, ht, hga, ⟨h0, rfl | rfl⟩ | ⟨h0, hov2, rfl⟩⟩ | rfl⟩ | rfl)
    · have m0 : (f.temp && decide (f.t = i.d)) = false := by
        rcases h3 with h3 | h3 <;> simp [h3]
      have ov0 := hover.2 h2
      have hne : f.pl ≠ a := by
        rintro e
        rcases h2 with h2 | h2
        · rw [e] at h2; exact hka h2
        · rw [hov e] at h2; cases h2
      simp [m0, ov0, hne, hat.1 h1]
      exact h2
    · have hgk := hnm g hg ht
      have := hfi _ hg
      rw [hgk.1, hnn] at this
      have hx := hfar _ hov2
      simp [hasF, o1, hgk.2, hov2, this]
    · have hx : (⟨0, 0⟩ : PlaceV) ≠ a := by rintro rfl; exact hka rfl
      simp [knF, o1]
    · simp [isF, o1]
    · have := hfi _ hg
      rw [hkn g hg ht h0, hga] at this
      have hx : (⟨0, 0⟩ : PlaceV) ≠ a := by rintro rfl; exact hka rfl
      simp [knF, o2, this, hx]
    · have := hfi _ hg
      rw [hkn g hg ht h0, hga] at this
      simp [isF, o2, this]
    · have := hfi _ hg
      rw [hhs g hg ht h0, hga] at this
      have hx := hfar _ hov2
      simp [hasF, o2, this, hx, hov2]
    · simp [hasF, o2]
    · by_cases o2 : i.op = 2
      · by_cases e : i.d = i.a
        · simp [hasF, o2, e]
        · simp [hasF, o2, hself, hka]
      · by_cases o1 : i.op = 1
        · simp [hasF, o1, hself, hka]
        · simp [hasF, o1, o2, hka]
theorem insBt_set (hall : ∀ f, f ∈ all ↔ FactIn p sg sl f) (hn : all.Nodup) {i : In} (hi : InsOk p i) {a : PlaceV} (ha : gvs i.op = true → IsReg p sg sl i.d a) (hc : i ∈ p.code) : setOf all (insBt all s i a) = insF (setOf all s) i a := by
  unfold insBt insF
  split
  · rename_i hg
    exact giveB_set hall hn hi hg (ha hg) hc
  · rfl
theorem thruB_set (hall : ∀ f, f ∈ all ↔ FactIn p sg sl f) (hn : all.Nodup) {i : In} (hi : InsOk p i) (hc : i ∈ p.code) {r : Rw} (hr : rwB p sg sl i r = true) : setOf all (thruB all s i r) = thruF p (setOf all s) i r := by
  obtain ⟨r1, r2, r3, _⟩ := rwB_facts hr hi.kn
  unfold thruB thruF
  rw [movesB_set hall hn _ r2, insBt_set hall hn hi r3 hc, movesB_set hall hn _ r1]
theorem tookB_iff (hall : ∀ f, f ∈ all ↔ FactIn p sg sl f) (hn : all.Nodup) {i : In} (hi : InsOk p i) {r : Rw} (hr : rwB p sg sl i r = true) : tookB all s i r = true ↔ tookF p (setOf all s) i r := by
  obtain ⟨r1, _⟩ := rwB_facts hr hi.kn
  unfold tookB tookF
  rw [← movesB_set hall hn _ r1, Bool.and_eq_true, Bool.or_eq_true, Bool.or_eq_true, findB_iff, findB_iff]
  constructor
  · rintro ⟨h1, h2⟩
    exact ⟨fun h => h1.resolve_left (by simp [h]), fun h => h2.resolve_left (by simp [h])⟩
  · rintro ⟨h1, h2⟩
    constructor
    · by_cases h : 0 < many i.op
      · exact Or.inr (h1 h)
      · exact Or.inl (by simp [h])
    · by_cases h : 1 < many i.op
      · exact Or.inr (h2 h)
      · exact Or.inl (by simp [h])
end
end Go.Proofs.Ytodmkjeankbieac

/- The rounds of chapter 8's reference: what they hold, and that they end at the greatest sets. No program in sight. -/
namespace Go.Proofs.Ytodmkjeankbieac

def sumN (n : Nat) (f : Nat → Nat) : Nat := ((List.range n).map f).sum
theorem sumN_s (n : Nat) (f : Nat → Nat) : sumN (n + 1) f = sumN n f + f n := by
  unfold sumN
  rw [List.range_succ, List.map_append, List.sum_append]; simp
theorem sumN_le {f g : Nat → Nat} : ∀ {n : Nat}, (∀ k, k < n → f k ≤ g k) → sumN n f ≤ sumN n g
  | 0, _ => Nat.le_refl _
  | n + 1, h => by
    rw [sumN_s, sumN_s]
    have := h n (by omega)
    have := sumN_le (n := n) fun k hk => h k (by omega)
    omega
theorem sumN_lt {f g : Nat → Nat} : ∀ {n k : Nat}, (∀ k, k < n → f k ≤ g k) → k < n → f k < g k → sumN n f < sumN n g
  | 0, _, _, hk, _ => by omega
  | n + 1, k, h, hk, hlt => by
    rw [sumN_s, sumN_s]
    by_cases e : k = n
    · subst e
      have := sumN_le (n := k) fun j hj => h j (by omega)
      omega
    · have := sumN_lt (n := n) (k := k) (fun j hj => h j (by omega)) (by omega) hlt
      have := h n (by omega)
      omega
def bN (b : Bool) : Nat := if b then 1 else 0
theorem bN_le {a b : Bool} (h : a = true → b = true) : bN a ≤ bN b := by
  cases a <;> cases b <;> simp_all [bN]
/-- how many truths -/
def cntB (len : Nat) (r : Bits) : Nat := sumN len fun i => bN (r i)
theorem cntB_le {len : Nat} {r s : Bits} (h : ∀ i, i < len → r i = true → s i = true) : cntB len r ≤ cntB len s := sumN_le fun i hi => bN_le (h i hi)
theorem cntB_lt {len i : Nat} {r s : Bits} (h : ∀ i, i < len → r i = true → s i = true) (hi : i < len) (h1 : s i = true) (h2 : r i = false) : cntB len r < cntB len s :=
  sumN_lt (fun i hi => bN_le (h i hi)) hi (by simp [bN, h1, h2])
/-- what is still to fall -/
def leftN (n len : Nat) (S : Nat → Bits) (c : Bits) : Nat := sumN n fun k => cntB len (S k) + bN (!c k)

def updB (S : Nat → Bits) (k : Nat) (r : Bits) : Nat → Bits := fun x => if x = k then r else S x
theorem updB_same {S : Nat → Bits} {k : Nat} {r : Bits} : updB S k r k = r := if_pos rfl
theorem updB_ne {S : Nat → Bits} {k x : Nat} {r : Bits} (h : x ≠ k) : updB S k r x = S x := if_neg h
def onB (c : Bits) (k : Nat) : Bits := fun x => if x = k then true else c x
theorem onB_same {c : Bits} {k : Nat} : onB c k k = true := if_pos rfl
theorem onB_mono {c : Bits} {k x : Nat} (h : c x = true) : onB c k x = true := by unfold onB; split <;> simp [h]
theorem onB_eq {c : Bits} {k : Nat} (h : c k = true) : onB c k = c := by
  funext x; unfold onB; split
  · rename_i e; subst e; exact h.symm
  · rfl
/-- of r, the first i only where s is, too -/
def andTo (r s : Bits) (i : Nat) : Bits := fun x => if x < i then r x && s x else r x
theorem andTo_z (r s : Bits) : andTo r s 0 = r := rfl
theorem andTo_drop {r s : Bits} {i : Nat} (h : r i = true) (hs : s i = false) : andTo r s (i + 1) = fun x => if x = i then false else andTo r s i x := by
  funext x
  unfold andTo
  by_cases e : x = i
  · subst e; simp [hs]
  · rw [if_neg e]
    by_cases l : x < i
    · rw [if_pos l, if_pos (by omega)]
    · rw [if_neg l, if_neg (by omega)]
theorem andTo_stay {r s : Bits} {i : Nat} (h : ¬ (r i = true ∧ s i = false)) : andTo r s (i + 1) = andTo r s i := by
  funext x
  unfold andTo
  by_cases e : x = i
  · subst e
    cases hr : r x <;> cases hs : s x <;> simp_all
  · by_cases l : x < i
    · rw [if_pos l, if_pos (by omega)]
    · rw [if_neg l, if_neg (by omega)]
theorem andTo_at (r s : Bits) (i : Nat) : andTo r s i i = r i := by unfold andTo; simp
/-- does any of the first i fall? -/
def fallB (r s : Bits) (i : Nat) : Bool := (List.range i).any fun x => r x && !s x
theorem fallB_s (r s : Bits) (i : Nat) : fallB r s (i + 1) = (fallB r s i || (r i && !s i)) := by
  unfold fallB
  rw [List.range_succ, List.any_append]; simp
theorem fallB_not {r s : Bits} {i : Nat} (h : fallB r s i = false) : andTo r s i = r ∧ ∀ x, x < i → r x = true → s x = true := by
  have hh : ∀ x, x < i → r x = true → s x = true := by
    intro x hx hr
    unfold fallB at h
    have := (List.any_eq_false.1 h) x (List.mem_range.2 hx)
    cases hs : s x with
    | true => rfl
    | false => rw [hr, hs] at this; simp at this
  refine ⟨?_, hh⟩
  funext x
  unfold andTo
  split
  · rename_i hx
    cases hr : r x with
    | false => rfl
    | true => rw [hh x hx hr]; rfl
  · rfl

section
variable {p : Pg} {sg : Int} {l : Pd} {all : List Fc}
/-- what the rounds hold: S: the sets; c: a way leads there -/
structure Rnd (p : Pg) (sg : Int) (l : Pd) (all : List Fc) (S : Nat → Bits) (c : Bits) : Prop where
  z : c 0 = true
  come : ∀ k, k < p.code.length → c k = true → Come p.code k
  b0 : ∀ f, setOf all (S 0) f → beginF p sg l.slots f
  sup : ∀ k f, Kn p sg l k f → setOf all (S k) f
/-- of an instruction: where it goes on has no more than what is behind it -/
def Shut (p : Pg) (l : Pd) (all : List Fc) (S : Nat → Bits) (c : Bits) (k : Nat) : Prop := ∀ m ∈ nx p.code k, c m = true ∧ ∀ f, setOf all (S m) f → thru p l k (setOf all (S k)) f

theorem Rnd.step (hn : all.Nodup) {S : Nat → Bits} {c : Bits} (h : Rnd p sg l all S c) {k m : Nat} {s : Bits} (hk : Come p.code k) (hs : ∀ f, thru p l k (Kn p sg l k) f → setOf all s f) (hm : m ∈ nx p.code k) :
    Rnd p sg l all (updB S m (andTo (S m) s all.length)) (onB c m) := by
  refine ⟨onB_mono h.z, fun x hx hc => ?_, fun f hf => ?_, fun x f hf => ?_⟩
  · by_cases e : x = m
    · subst e; exact hk.next hm
    · unfold onB at hc; rw [if_neg e] at hc; exact h.come x hx hc
  · by_cases e : 0 = m
    · subst e
      rw [updB_same] at hf
      obtain ⟨i, hi, e, hb⟩ := hf
      unfold andTo at hb
      rw [if_pos hi, Bool.and_eq_true] at hb
      exact h.b0 f ⟨i, hi, e, hb.1⟩
    · rw [updB_ne e] at hf; exact h.b0 f hf
  · by_cases e : x = m
    · subst e
      rw [updB_same]
      obtain ⟨i, hi, ei, hb⟩ := h.sup x f hf
      refine ⟨i, hi, ei, ?_⟩
      unfold andTo
      rw [if_pos hi, hb]
      have := hs f (Kn_sol.2 k hk x hm f hf)
      rw [← ei, setOf_at hn hi] at this
      rw [this]; rfl
    · rw [updB_ne e]; exact h.sup x f hf

/-- in a pass that began at S0, c0, ahead of instruction k; a: something has turned; tk: all is taken so far -/
structure Pass (p : Pg) (sg : Int) (l : Pd) (all : List Fc) (S0 : Nat → Bits) (c0 : Bits) (S : Nat → Bits) (c : Bits) (a tk : Bool) (k : Nat) : Prop where
  rnd : Rnd p sg l all S c
  eq : a = false → S = S0 ∧ c = c0
  shut : a = false → ∀ x, x < k → c0 x = true → Shut p l all S0 c0 x
  tk : a = false → (tk = true ↔ ∀ x, x < k → c0 x = true → tookF p (setOf all (S0 x)) (inAt p.code x) (rwAt l.rows x))
  le : leftN p.code.length all.length S c ≤ leftN p.code.length all.length S0 c0
  lt : a = true → leftN p.code.length all.length S c < leftN p.code.length all.length S0 c0
/-- in the round of instruction k; s: what is behind it; j of those where it goes on are done -/
structure PassJ (p : Pg) (sg : Int) (l : Pd) (all : List Fc) (S0 : Nat → Bits) (c0 : Bits) (S : Nat → Bits) (c : Bits) (a tk : Bool) (k : Nat) (s : Bits) (ns : List Int) (j : Nat) : Prop where
  rnd : Rnd p sg l all S c
  eq : a = false → S = S0 ∧ c = c0
  shut : a = false → ∀ x, x < k → c0 x = true → Shut p l all S0 c0 x
  tk : a = false → (tk = true ↔ ∀ x, x < k + 1 → c0 x = true → tookF p (setOf all (S0 x)) (inAt p.code x) (rwAt l.rows x))
  le : leftN p.code.length all.length S c ≤ leftN p.code.length all.length S0 c0
  lt : a = true → leftN p.code.length all.length S c < leftN p.code.length all.length S0 c0
  own : a = false → setOf all s = thru p l k (setOf all (S0 k)) ∧ ∀ x ∈ ns.take j, x.toNat < p.code.length → c0 x.toNat = true ∧ ∀ f, setOf all (S0 x.toNat) f → thru p l k (setOf all (S0 k)) f
  sk : ∀ f, thru p l k (Kn p sg l k) f → setOf all s f
  come : Come p.code k

section
variable {S0 S : Nat → Bits} {c0 c : Bits} {a tk : Bool} {k j : Nat} {s : Bits} {ns : List Int}
theorem Rnd.pass (h : Rnd p sg l all S c) : Pass p sg l all S c S c false true 0 :=
  ⟨h, fun _ => ⟨rfl, rfl⟩, fun _ x hx => by omega, fun _ => ⟨fun _ x hx => by omega, fun _ => rfl⟩, Nat.le_refl _, fun h => by cases h⟩
theorem Pass.skip (h : Pass p sg l all S0 c0 S c a tk k) (hc : c k = false) : Pass p sg l all S0 c0 S c a tk (k + 1) := by
  have hno : a = false → c0 k = true → False := fun ha h0 => by rw [← (h.eq ha).2, hc] at h0; cases h0
  refine ⟨h.rnd, h.eq, fun ha x hx h0 => ?_, fun ha => ?_, h.le, h.lt⟩
  · by_cases e : x = k
    · subst e; exact (hno ha h0).elim
    · exact h.shut ha x (by omega) h0
  · rw [h.tk ha]
    constructor
    · intro hh x hx h0
      by_cases e : x = k
      · subst e; exact (hno ha h0).elim
      · exact hh x (by omega) h0
    · intro hh x hx h0; exact hh x (by omega) h0
theorem Pass.enter (h : Pass p sg l all S0 c0 S c a tk k) (hk : k < p.code.length) (hc : c k = true) (hs : setOf all s = thru p l k (setOf all (S k))) {ok : Bool} (hok : ok = true ↔ tookF p (setOf all (S k)) (inAt p.code k) (rwAt l.rows k)) (ns : List Int) :
    PassJ p sg l all S0 c0 S c a (tk && ok) k s ns 0 := by
  refine ⟨h.rnd, h.eq, h.shut, fun ha => ?_, h.le, h.lt, fun ha => ⟨by rw [hs, (h.eq ha).1], fun x hx => by simp at hx⟩, fun f hf => ?_, h.rnd.come k hk hc⟩
  · rw [Bool.and_eq_true, h.tk ha, hok, (h.eq ha).1]
    constructor
    · rintro ⟨h1, h2⟩ x hx h0
      by_cases e : x = k
      · subst e; exact h2
      · exact h1 x (by omega) h0
    · intro hh
      exact ⟨fun x hx h0 => hh x (by omega) h0, hh k (by omega) (by rw [← (h.eq ha).2]; exact hc)⟩
  · rw [hs]
    exact thruF_mono (fun g hg => h.rnd.sup k g hg) _ _ f hf
theorem PassJ.skip (h : PassJ p sg l all S0 c0 S c a tk k s ns j) {n : Int} (hn : ns[j]? = some n) (hl : ¬ n.toNat < p.code.length) : PassJ p sg l all S0 c0 S c a tk k s ns (j + 1) :=
  { h with own := fun ha => ⟨(h.own ha).1, fun x hx hlx => by
      rcases take_s hn hx with hx | rfl
      · exact (h.own ha).2 x hx hlx
      · exact absurd hlx hl⟩ }
theorem leftN_le {n len : Nat} {S S' : Nat → Bits} {c c' : Bits} (h : ∀ k, k < n → (∀ i, i < len → S' k i = true → S k i = true) ∧ (c k = true → c' k = true)) : leftN n len S' c' ≤ leftN n len S c :=
  sumN_le fun k hk => by
    have h1 := cntB_le (h k hk).1
    have h2 : bN (!c' k) ≤ bN (!c k) := bN_le fun hc => by
      cases e : c k with
      | false => rfl
      | true => rw [(h k hk).2 e] at hc; cases hc
    omega
theorem andTo_sub {r s : Bits} {n i : Nat} (h : andTo r s n i = true) : r i = true := by
  unfold andTo at h
  split at h
  · rw [Bool.and_eq_true] at h; exact h.1
  · exact h
theorem leftN_put_le {n len m : Nat} {S : Nat → Bits} {c s : Bits} : leftN n len (updB S m (andTo (S m) s len)) (onB c m) ≤ leftN n len S c :=
  leftN_le fun k _ => ⟨fun i _ hi => by
    by_cases e : k = m
    · subst e; rw [updB_same] at hi; exact andTo_sub hi
    · rw [updB_ne e] at hi; exact hi, fun hc => onB_mono hc⟩
theorem leftN_put_lt {n len m : Nat} {S : Nat → Bits} {c s : Bits} (hm : m < n) (h : (!c m || fallB (S m) s len) = true) : leftN n len (updB S m (andTo (S m) s len)) (onB c m) < leftN n len S c := by
  have hle : ∀ k, k < n → cntB len (updB S m (andTo (S m) s len) k) + bN (!onB c m k) ≤ cntB len (S k) + bN (!c k) := by
    intro k _
    have h1 : cntB len (updB S m (andTo (S m) s len) k) ≤ cntB len (S k) := cntB_le fun i _ hi => by
      by_cases e : k = m
      · subst e; rw [updB_same] at hi; exact andTo_sub hi
      · rw [updB_ne e] at hi; exact hi
    have h2 : bN (!onB c m k) ≤ bN (!c k) := bN_le fun hc => by
      cases e : c k with
      | false => rfl
      | true => rw [onB_mono e] at hc; cases hc
    omega
  refine sumN_lt hle hm ?_
  rw [updB_same, onB_same]
  have h1 : cntB len (andTo (S m) s len) ≤ cntB len (S m) := cntB_le fun i _ hi => andTo_sub hi
  by_cases hc : c m = true
  · rw [hc] at h
    simp only [Bool.not_true, Bool.false_or] at h
    unfold fallB at h
    obtain ⟨i, hi, hh⟩ := List.any_eq_true.1 h
    rw [List.mem_range] at hi
    rw [Bool.and_eq_true, Bool.not_eq_true'] at hh
    have := cntB_lt (len := len) (i := i) (r := andTo (S m) s len) (s := S m) (fun i _ hi => andTo_sub hi) hi hh.1 (by unfold andTo; rw [if_pos hi, hh.2, Bool.and_false])
    rw [hc]; omega
  · have hc : c m = false := by simpa using hc
    rw [hc]
    show _ + 0 < _ + 1
    omega
theorem PassJ.put (hnd : all.Nodup) (h : PassJ p sg l all S0 c0 S c a tk k s ns j) {n : Int} (hn : ns[j]? = some n) (hm : n.toNat ∈ nx p.code k) :
    PassJ p sg l all S0 c0 (updB S n.toNat (andTo (S n.toNat) s all.length)) (onB c n.toNat) (a || !c n.toNat || fallB (S n.toNat) s all.length) tk k s ns (j + 1) := by
  have hsame : (a || !c n.toNat || fallB (S n.toNat) s all.length) = false → a = false ∧ updB S n.toNat (andTo (S n.toNat) s all.length) = S ∧ onB c n.toNat = c ∧ c n.toNat = true ∧ fallB (S n.toNat) s all.length = false := by
    intro hh
    rw [Bool.or_eq_false_iff, Bool.or_eq_false_iff] at hh
    obtain ⟨⟨h1, h2⟩, h3⟩ := hh
    have h2 : c n.toNat = true := by simpa using h2
    refine ⟨h1, ?_, onB_eq h2, h2, h3⟩
    funext x
    by_cases e : x = n.toNat
    · subst e; rw [updB_same, (fallB_not h3).1]
    · exact updB_ne e
  have hml : n.toNat < p.code.length := nx_lt hm
  refine ⟨h.rnd.step hnd h.come h.sk hm, fun ha => ?_, fun ha => h.shut (hsame ha).1, fun ha => h.tk (hsame ha).1, Nat.le_trans leftN_put_le h.le, fun ha => ?_, fun ha => ?_, h.sk, h.come⟩
  · obtain ⟨h1, h2, h3, _⟩ := hsame ha
    rw [h2, h3]; exact h.eq h1
  · by_cases h1 : a = true
    · exact Nat.lt_of_le_of_lt leftN_put_le (h.lt h1)
    · have h1 : a = false := by simpa using h1
      rw [h1, Bool.false_or] at ha
      exact Nat.lt_of_lt_of_le (leftN_put_lt hml ha) h.le
  · obtain ⟨h1, h2, h3, h4, h5⟩ := hsame ha
    obtain ⟨o1, o2⟩ := h.own h1
    obtain ⟨e1, e2⟩ := h.eq h1
    refine ⟨o1, fun x hx hlx => ?_⟩
    rcases take_s hn hx with hx | rfl
    · exact o2 x hx hlx
    · rw [← e1, ← e2]
      refine ⟨h4, fun f hf => ?_⟩
      rw [e1, ← o1]
      obtain ⟨i, hi, e, hb⟩ := hf
      exact ⟨i, hi, e, (fallB_not h5).2 i hi hb⟩
theorem PassJ.done (h : PassJ p sg l all S0 c0 S c a tk k s (nexts (inAt p.code k) k) (nexts (inAt p.code k) k).length) : Pass p sg l all S0 c0 S c a tk (k + 1) := by
  refine ⟨h.rnd, h.eq, fun ha x hx h0 => ?_, h.tk, h.le, h.lt⟩
  by_cases e : x = k
  · subst e
    intro m hm
    unfold nx at hm
    obtain ⟨hm1, hm2⟩ := List.mem_filter.1 hm
    obtain ⟨n, hn, rfl⟩ := List.mem_map.1 hm1
    exact (h.own ha).2 n (by rw [List.take_length]; exact hn) (by simpa using hm2)
  · exact h.shut ha x (by omega) h0
theorem Pass.end (h : Pass p sg l all S0 c0 S c false tk p.code.length) (h0 : 0 < p.code.length) :
    (∀ k, k < p.code.length → c k = true → Come p.code k) ∧ (∀ k, Come p.code k → c k = true ∧ setOf all (S k) = Kn p sg l k) ∧ (tk = true ↔ Taken p sg l) := by
  obtain ⟨e1, e2⟩ := h.eq rfl
  have hsh := h.shut rfl
  rw [← e1, ← e2] at hsh
  have hc : ∀ k, Come p.code k → c k = true := Come.ind h.rnd.z fun k m hk hck hm => (hsh k (hk.lt h0) hck m hm).1
  have hsol : IsSol p sg l (fun k => setOf all (S k)) := ⟨h.rnd.b0, fun k hk m hm f hf => (hsh k (hk.lt h0) (hc k hk) m hm).2 f hf⟩
  have heq : ∀ k, Come p.code k → setOf all (S k) = Kn p sg l k := fun k hk => funext fun f => propext ⟨fun hf => Kn_max hsol hk hf, h.rnd.sup k f⟩
  refine ⟨h.rnd.come, fun k hk => ⟨hc k hk, heq k hk⟩, ?_⟩
  rw [h.tk rfl, ← e1, ← e2]
  constructor
  · intro hh k hk
    rw [← heq k hk]; exact hh k (hk.lt h0) (hc k hk)
  · intro hh k hk hck
    have := h.rnd.come k hk hck
    rw [heq k this]; exact hh k this
theorem Rnd.start (hall : ∀ f, f ∈ all ↔ FactIn p sg l.slots f) (hnd : all.Nodup) (hm : mayL p sg l = true) : Rnd p sg l all (fun k => if k = 0 then fun i => decide ((fcAt all i).n = 0) else fun _ => true) (fun k => decide (k = 0)) := by
  refine ⟨by simp, fun k _ hk => ?_, fun f hf => ?_, fun k f hf => ?_⟩
  · have := of_decide_eq_true hk; subst this; exact Come.zero _
  · obtain ⟨i, hi, e, hb⟩ := hf
    rw [if_pos rfl] at hb
    subst e
    exact ⟨(hall _).1 (fcAt_mem hi), of_decide_eq_true hb⟩
  · have hin := Kn_in hm k hf.1 f hf
    obtain ⟨i, hi, e⟩ := fcAt_of ((hall f).2 hin)
    refine ⟨i, hi, e, ?_⟩
    by_cases h0 : k = 0
    · subst h0
      rw [if_pos rfl, e]
      exact decide_eq_true ((Kn_sol (p := p) (sg := sg) (l := l)).1 f hf).2
    · rw [if_neg h0]
end
end
end Go.Proofs.Ytodmkjeankbieac

/- Where the facts of a place begin in the row of all facts. No program in sight. -/
namespace Go.Proofs.Ytodmkjeankbieac

def plK (k : Int) (n : Nat) : List PlaceV := (List.range n).map fun (i : Nat) => (⟨k, (i : Int)⟩ : PlaceV)
theorem plK_s (k : Int) (n : Nat) : plK k (n + 1) = plK k n ++ [⟨k, (n : Int)⟩] := by unfold plK; rw [List.range_succ, List.map_append]; rfl
theorem plK_mem {k : Int} {n : Nat} {a : PlaceV} : a ∈ plK k n ↔ a.k = k ∧ 0 ≤ a.n ∧ a.n < n := by
  unfold plK
  rw [List.mem_map]
  constructor
  · rintro ⟨i, hi, rfl⟩
    rw [List.mem_range] at hi
    exact ⟨rfl, by simp only; omega, by simp only; omega⟩
  · rintro ⟨rfl, h1, h2⟩
    refine ⟨a.n.toNat, List.mem_range.2 (by omega), ?_⟩
    obtain ⟨k, n⟩ := a
    simp only [PlaceV.mk.injEq, true_and] at h1 ⊢
    omega
/-- how many places of a kind -/
def manyP (sg sl : Nat) (k : Nat) : Nat := if k = 1 then sg else if k = 2 then sg / 2 else if k = 3 then sl else 0
/-- the places ahead of the kind's n-th one -/
def preL (sg sl : Nat) (k n : Nat) : List PlaceV := if k = 1 then plK 1 n else if k = 2 then plK 1 sg ++ plK 2 n else plK 1 sg ++ plK 2 (sg / 2) ++ plK 3 n
theorem placesL_eq (sg sl : Nat) : placesL sg sl = plK 1 sg ++ plK 2 (sg / 2) ++ plK 3 sl := by unfold placesL plK; rw [List.append_assoc]
theorem preL_s {sg sl k n : Nat} (hk : k = 1 ∨ k = 2 ∨ k = 3) : preL sg sl k (n + 1) = preL sg sl k n ++ [⟨(k : Int), (n : Int)⟩] := by
  unfold preL
  rcases hk with rfl | rfl | rfl
  · simp [plK_s]
  · simp [plK_s]
  · simp [plK_s]
theorem preL_one (sg sl : Nat) : preL sg sl 1 0 = [] := rfl
theorem preL_two (sg sl : Nat) : preL sg sl 2 0 = preL sg sl 1 (manyP sg sl 1) := by simp [preL, manyP, plK]
theorem preL_three (sg sl : Nat) : preL sg sl 3 0 = preL sg sl 2 (manyP sg sl 2) := by simp [preL, manyP, plK]
theorem preL_end (sg sl : Nat) : preL sg sl 3 (manyP sg sl 3) = placesL sg sl := by rw [placesL_eq]; simp [preL, manyP]
theorem placesL_split {sg sl k n : Nat} (hk : k = 1 ∨ k = 2 ∨ k = 3) (hn : n < manyP sg sl k) : ∃ R, placesL sg sl = preL sg sl k n ++ ⟨(k : Int), (n : Int)⟩ :: R := by
  have hp : ∀ (k : Int) (m : Nat), n < m → ∃ R, plK k m = plK k n ++ ⟨k, (n : Int)⟩ :: R := by
    intro k m hm
    induction m with
    | zero => omega
    | succ m ih =>
      rw [plK_s]
      by_cases e : m = n
      · subst e; exact ⟨[], rfl⟩
      · obtain ⟨R, h⟩ := ih (by omega)
        exact ⟨R ++ [⟨k, (m : Int)⟩], by rw [h]; simp⟩
  rw [placesL_eq]
  rcases hk with rfl | rfl | rfl
  · obtain ⟨R, h⟩ := hp 1 sg hn
    exact ⟨R ++ plK 2 (sg / 2) ++ plK 3 sl, by rw [h]; simp [preL]⟩
  · obtain ⟨R, h⟩ := hp 2 (sg / 2) hn
    exact ⟨R ++ plK 3 sl, by rw [h]; simp [preL]⟩
  · obtain ⟨R, h⟩ := hp 3 sl hn
    exact ⟨R, by rw [h]; simp [preL]⟩

/-- the facts of a place stand together, from a number on -/
structure Seg (all : List Fc) (a : PlaceV) (st : Nat) : Prop where
  le : st ≤ all.length
  lo : ∀ j, j < st → (fcAt all j).pl ≠ a
  hi : ∀ j j', st ≤ j → j ≤ j' → j' < all.length → (fcAt all j').pl = a → (fcAt all j).pl = a
theorem fcAt_app {X Y : List Fc} {j : Nat} : fcAt (X ++ Y) j = if j < X.length then fcAt X j else fcAt Y (j - X.length) := by
  unfold fcAt
  rw [List.getD_eq_getElem?_getD, List.getD_eq_getElem?_getD, List.getD_eq_getElem?_getD]
  split
  · rename_i h; rw [List.getElem?_append_left h]
  · rename_i h; rw [List.getElem?_append_right (by omega)]
theorem Seg.of {X M Y : List Fc} {a : PlaceV} (hX : ∀ f ∈ X, f.pl ≠ a) (hM : ∀ f ∈ M, f.pl = a) (hY : ∀ f ∈ Y, f.pl ≠ a) : Seg (X ++ (M ++ Y)) a X.length := by
  refine ⟨by simp, fun j hj => ?_, fun j j' h1 h2 h3 h4 => ?_⟩
  · rw [fcAt_app, if_pos hj]; exact hX _ (fcAt_mem hj)
  · rw [fcAt_app, if_neg (by omega), fcAt_app] at h4 ⊢
    simp only [List.length_append] at h3
    by_cases e : j' - X.length < M.length
    · rw [if_pos (by omega)]; exact hM _ (fcAt_mem (by omega))
    · rw [if_neg e] at h4
      exact absurd h4 (hY _ (fcAt_mem (by omega)))

def startA (p : Pg) (ns : List Nat) (sg sl k n : Nat) : Nat := (knFs p ns ++ (preL sg sl k n).flatMap (placeFs p ns)).length
section
variable {p : Pg} {ns : List Nat} {sg sl : Nat}
theorem mem_pre {k n : Nat} (hk : k = 1 ∨ k = 2 ∨ k = 3) {R : List PlaceV} (h : placesL sg sl = preL sg sl k n ++ ⟨(k : Int), (n : Int)⟩ :: R) : (⟨(k : Int), (n : Int)⟩ : PlaceV) ∉ preL sg sl k n ∧ (⟨(k : Int), (n : Int)⟩ : PlaceV) ∉ R := by
  have hn := placesL_nodup sg sl
  rw [h, List.nodup_append] at hn
  obtain ⟨_, h2, h3⟩ := hn
  exact ⟨fun hc => h3 _ hc _ List.mem_cons_self rfl, (List.nodup_cons.1 h2).1⟩
theorem seg_at {k n : Nat} (hk : k = 1 ∨ k = 2 ∨ k = 3) (hn : n < manyP sg sl k) : Seg (allFs p ns sg sl) ⟨(k : Int), (n : Int)⟩ (startA p ns sg sl k n) := by
  obtain ⟨R, hR⟩ := placesL_split hk hn
  obtain ⟨h1, h2⟩ := mem_pre hk hR
  unfold allFs startA
  rw [hR, List.flatMap_append, List.flatMap_cons, ← List.append_assoc]
  refine Seg.of ?_ (fun f hf => placeFs_pl hf) ?_
  · intro f hf e
    rcases List.mem_append.1 hf with hf | hf
    · rw [knFs_pl hf] at e
      injection e with e _
      omega
    · obtain ⟨a, ha, hfa⟩ := List.mem_flatMap.1 hf
      rw [placeFs_pl hfa] at e
      exact h1 (e ▸ ha)
  · intro f hf e
    obtain ⟨a, ha, hfa⟩ := List.mem_flatMap.1 hf
    rw [placeFs_pl hfa] at e
    exact h2 (e ▸ ha)
theorem seg_zero : Seg (allFs p ns sg sl) ⟨0, 0⟩ 0 := by
  have := Seg.of (X := []) (M := knFs p ns) (Y := (placesL sg sl).flatMap (placeFs p ns)) (a := ⟨0, 0⟩) (fun f hf => by cases hf) (fun f hf => knFs_pl hf) (fun f hf e => by
    obtain ⟨a, ha, hfa⟩ := List.mem_flatMap.1 hf
    rw [placeFs_pl hfa] at e
    have := isB_kind (placesL_mem.1 ha)
    rw [e] at this
    simp at this)
  exact this
/-- the search of the reference, from where a place's facts begin -/
theorem Seg.none {all : List Fc} {a : PlaceV} {st i : Nat} {s : Bits} {f : Fc} (h : Seg all a st) (hf : f.pl = a) (h1 : st ≤ i) (hno : ∀ j, st ≤ j → j < i → fcAt all j ≠ f) (he : all.length ≤ i ∨ (fcAt all i).pl ≠ a) : findB all s f = false := by
  apply findB_none
  intro j hj e
  by_cases h2 : j < st
  · exact h.lo j h2 (by rw [e, hf])
  · by_cases h3 : j < i
    · exact hno j (by omega) h3 e
    · rcases he with he | he
      · omega
      · exact he (h.hi i j h1 (by omega) hj (by rw [e, hf]))
end
end Go.Proofs.Ytodmkjeankbieac

/- The list of work comes to an end: what falls at each round. No program in sight. -/
namespace Go.Proofs.Ytodmkjeankbieac

section
open Classical
/-- how many of the facts that may be are in a set -/
noncomputable def cntF (p : Pg) (sg sl : Nat) (S : FS) : Nat := ((factsL p sg sl).filter fun f => decide (S f)).length
theorem filter_le {α : Type} {P Q : α → Bool} : ∀ {l : List α}, (∀ x ∈ l, P x = true → Q x = true) → (l.filter P).length ≤ (l.filter Q).length
  | [], _ => Nat.le_refl _
  | x :: l, h => by
    have ih := filter_le (l := l) fun y hy => h y (List.mem_cons_of_mem _ hy)
    have hx := h x List.mem_cons_self
    rw [List.filter_cons, List.filter_cons]
    cases hp : P x with
    | false => cases hq : Q x <;> simp <;> omega
    | true => rw [hx hp]; simp; omega
theorem filter_lt {α : Type} {P Q : α → Bool} {y : α} : ∀ {l : List α}, (∀ x ∈ l, P x = true → Q x = true) → y ∈ l → Q y = true → P y = false → (l.filter P).length < (l.filter Q).length
  | [], _, hy, _, _ => by cases hy
  | x :: l, h, hy, h1, h2 => by
    have hx := h x List.mem_cons_self
    rw [List.filter_cons, List.filter_cons]
    rcases List.mem_cons.1 hy with rfl | hy
    · have ih := filter_le (l := l) fun z hz => h z (List.mem_cons_of_mem _ hz)
      rw [h2, h1]; simp; omega
    · have ih := filter_lt (l := l) (fun z hz => h z (List.mem_cons_of_mem _ hz)) hy h1 h2
      cases hp : P x with
      | false => cases hq : Q x <;> simp <;> omega
      | true => rw [hx hp]; simp; omega
theorem cntF_le {p : Pg} {sg sl : Nat} {S S' : FS} (h : ∀ f, S' f → S f) : cntF p sg sl S' ≤ cntF p sg sl S :=
  filter_le fun f _ hf => decide_eq_true (h f (of_decide_eq_true hf))
theorem cntF_all {p : Pg} {sg sl : Nat} {S : FS} : cntF p sg sl S ≤ (factsL p sg sl).length := List.length_filter_le _ _
theorem cntF_lt {p : Pg} {sg sl : Nat} {S S' : FS} (h : ∀ f, S' f → S f) {f : Fc} (hi : FactIn p sg sl f) (h1 : S f) (h2 : ¬ S' f) : cntF p sg sl S' < cntF p sg sl S :=
  filter_lt (fun f _ hf => decide_eq_true (h f (of_decide_eq_true hf))) (factsL_mem hi) (decide_eq_true h1) (decide_eq_false h2)
end
noncomputable def potF (p : Pg) (sg sl : Nat) : Option FS → Nat
  | none => (factsL p sg sl).length + 1
  | some S => cntF p sg sl S
/-- what is still to be done -/
noncomputable def workM (p : Pg) (sg sl : Nat) (A : Nat → Option FS) (wk : List Nat) : Nat := 2 * sumN p.code.length (fun k => potF p sg sl (A k)) + wk.length
section
variable {p : Pg} {sg sl : Nat} {A : Nat → Option FS} {wk : List Nat} {m : Nat} {s : FS}
theorem workM_pop {k : Nat} : workM p sg sl A (k :: wk) = workM p sg sl A wk + 1 := by unfold workM; simp; omega
theorem workM_put (hm : m < p.code.length) (h : potF p sg sl (some s) < potF p sg sl (A m)) : workM p sg sl (setA A m s) (wk ++ [m]) < workM p sg sl A wk := by
  have : sumN p.code.length (fun k => potF p sg sl (setA A m s k)) < sumN p.code.length (fun k => potF p sg sl (A k)) := by
    refine sumN_lt (fun k _ => ?_) hm (by simp only [setA_same]; exact h)
    by_cases e : k = m
    · subst e; simp only [setA_same]; omega
    · simp only [setA_ne e]; exact Nat.le_refl _
  unfold workM
  simp
  omega
theorem workM_new (hm : m < p.code.length) (h : A m = none) : workM p sg sl (setA A m s) (wk ++ [m]) < workM p sg sl A wk :=
  workM_put hm (by rw [h]; exact Nat.lt_succ_of_le cntF_all)
theorem workM_less {s1 : FS} (hm : m < p.code.length) (h : A m = some s1) (hs : ∀ f, s f → s1 f) {f : Fc} (hi : FactIn p sg sl f) (h1 : s1 f) (h2 : ¬ s f) : workM p sg sl (setA A m s) (wk ++ [m]) < workM p sg sl A wk :=
  workM_put hm (by rw [h]; exact cntF_lt hs hi h1 h2)
theorem workM_same {s1 : FS} (h : A m = some s1) (hs : ∀ f, s f ↔ s1 f) : workM p sg sl (setA A m s) wk = workM p sg sl A wk := by
  have : setA A m s = A := by
    funext x
    by_cases e : x = m
    · subst e
      rw [setA_same, h]
      congr 1
      funext f
      exact propext (hs f)
    · exact setA_ne e
  rw [this]
end
end Go.Proofs.Ytodmkjeankbieac

/- A queue: a slice of the call's own, popped ahead and appended to behind. No program in sight. -/
namespace Go.Proofs.Ytodmkjeankbieac
open Go.RowKit Go.Sort

/-- v is a slice of one-cell elements in a block of the call's own, from some cell on; it reads as l -/
def QRow (w : World) (base : Nat) (e : TypeId) (v : Value) (l : List Value) : Prop :=
  ∃ (g off cap : Nat) (cur : Array Value), v = .slice (some ⟨g, off, none⟩) l.length cap ∧ base ≤ g ∧ Blk w g e cur ∧ off + cap ≤ cur.size ∧ l.length ≤ cap ∧ cap ≤ maxLen ∧ ∀ j u, l[j]? = some u → cur[off + j]? = some u
section
variable {w w' : World} {base : Nat} {e : TypeId} {v : Value} {l : List Value}
theorem QRow.kept {S : Nat → Prop} (h : QRow w base e v l) (hk : Kept S w w') (hs : ∀ g, v.ownBlock = some g → ¬ S g) : QRow w' base e v l := by
  obtain ⟨g, off, cap, cur, rfl, hb, hB, r⟩ := h
  exact ⟨g, off, cap, cur, rfl, hb, hB.kept hk (hs g rfl), r⟩
theorem QRow.fr (h : QRow w base e v l) (hk : Fr w w') : QRow w' base e v l := h.kept hk (fun _ _ h => h)
theorem QRow.blk_ne {g : Nat} {t : TypeId} {cs : Array Value} (h : QRow w base e v l) (hg : Blk w g t cs) (hne : e ≠ t) : v.ownBlock ≠ some g := by
  obtain ⟨g', off, cap, cur, rfl, hb, hB, r⟩ := h
  intro he
  have : g' = g := by simpa [Value.ownBlock] using he
  subst this
  exact hB.ne_ hg hne rfl
theorem QRow.lt (h : QRow w base e v l) {g : Nat} (hg : v.ownBlock = some g) : base ≤ g ∧ g < w.heap.size := by
  obtain ⟨g', off, cap, cur, rfl, hb, hB, r⟩ := h
  have : g' = g := by simpa [Value.ownBlock] using hg
  subst this
  exact ⟨hb, hB.lt⟩
theorem QRow.one {g : Nat} {u : Value} (hb : base ≤ g) (hB : Blk w g e #[u]) : QRow w base e (.slice (some ⟨g, 0, none⟩) 1 1) [u] :=
  ⟨g, 0, 1, #[u], rfl, hb, hB, by simp, by simp, by decide, fun j x hj => by
    match j, hj with
    | 0, hj => simpa using hj⟩
theorem QRow.pop {x : Value} (h : QRow w base e v (x :: l)) : ∃ g off cap, v = .slice (some ⟨g, off, none⟩) (l.length + 1) cap ∧ g < w.heap.size ∧ l.length + 1 ≤ cap ∧ cap ≤ maxLen ∧ w.cell? ⟨g, off, none⟩ = some x ∧ QRow w base e (.slice (some ⟨g, off + 1, none⟩) l.length (cap - 1)) l := by
  obtain ⟨g, off, cap, cur, rfl, hb, hB, hs, hl, hm, hc⟩ := h
  simp only [List.length_cons] at hl
  refine ⟨g, off, cap, rfl, hB.lt, hl, hm, (hB.cell off).trans (hc 0 x rfl), g, off + 1, cap - 1, cur, rfl, hb, hB, by omega, by omega, by omega, fun j u hj => ?_⟩
  rw [show off + 1 + j = off + (j + 1) by omega]
  exact hc (j + 1) u (by simpa using hj)
theorem QRow.of_own {b n : Nat} {xs : List Value} (h : w.ownsRow b e 1 v n xs) (hn : 0 < n) (hb : base ≤ b) : QRow w base e v xs := by
  obtain ⟨hl, h2⟩ := h
  rcases h2 with ⟨_, h0⟩ | ⟨g, cap, cur, rfl, hg, hh, hnc, hcm, hcs, ht⟩
  · omega
  · have hl1 : xs.length = n := by omega
    refine ⟨g, 0, cap, cur, by rw [hl1], by omega, hh, by omega, by omega, hcm, fun j u hj => ?_⟩
    rw [← ht, List.getElem?_take] at hj
    split at hj
    · simpa using hj
    · cases hj
variable {P : Program}
theorem QRow.push {t : TypeId} {bytes : Nat} (hT : SlTy P t e 1 bytes) (h : QRow w base e v l) {R : Nat → Prop} {A : Option Addr} {c : Nat} {u : Value} (hr : Reads w R 1 A 1 [u]) (h1 : u.oneCell' = true)
    (hbytes : (l.length + 1) * bytes ≤ 140737488355328) (h63 : l.length + 1 ≤ maxLen) (hbase : base ≤ w.heap.size) (ty : TypeId) :
    ∃ v' w', (Builtin.append_ #[t, t] ty #[v, .slice A 1 c]).run P w = .ok v' w' ∧ QRow w' base e v' (l ++ [u]) ∧ Kept (fun k => v.ownBlock = some k) w w' ∧ (v'.ownBlock = v.ownBlock ∨ ∀ g, v'.ownBlock = some g → w.heap.size ≤ g) := by
  obtain ⟨i, z, hi, hz, hsize, hby, hzs⟩ := hT.ex
  obtain ⟨g, off, cap, cur, rfl, hb, hB, hs, hl, hm, hc⟩ := h
  obtain ⟨ba, oa, rfl, _, hca⟩ := hr.2 (by omega)
  have hnews : ∀ j x, [u][j]? = some x → w.cell? ((⟨ba, oa, none⟩ : Addr).add j) = some x := fun j x hj => by rw [add_none]; exact hca j x hj
  by_cases hroom : l.length + 1 ≤ cap
  · have hcell : (w.cell? ⟨g, off + l.length, none⟩).isSome = true := by
      rw [hB.cell, Array.getElem?_eq_getElem (by omega)]; rfl
    have hrun := run_append_room_cells (P := P) (w := w) t ty e i hT.ht hi g off l.length cap ⟨ba, oa, none⟩ 1 c [u] (by simp [hsize]) hnews (by simpa using h1) hroom
      (fun j hj => by
        have : j = 0 := by simpa using hj
        subst this; rw [hsize]; simpa using hcell)
      (fun j hj => by
        have : j = 0 := by simpa using hj
        subst this; rw [hsize]; simpa using hB.frozen (off + l.length))
    have hset : w.setCells g (off + l.length * i.size) [u] = w.setCell ⟨g, off + l.length, none⟩ u := by
      rw [hsize, Nat.mul_one]; rfl
    rw [hset] at hrun
    refine ⟨_, _, hrun, ⟨g, off, cap, _, by simp, hb, hB.set_ (off + l.length) u, by simpa using hs, by simpa using hroom, hm, fun j x hj => ?_⟩, ((Kept.refl (fun k => (Value.slice (some ⟨g, off, none⟩) l.length cap).ownBlock = some k) w).setCell (p := ⟨g, off + l.length, none⟩) (fun _ => rfl) u), Or.inl rfl⟩
    rw [Array.getElem?_setIfInBounds]
    by_cases ej : j = l.length
    · subst ej
      rw [if_pos rfl, if_pos (by omega)]
      simpa using hj
    · rw [if_neg (by omega)]
      have hjl : j < l.length := by
        have := (List.getElem?_eq_some_iff.1 hj).1
        simp at this; omega
      rw [List.getElem?_append_left hjl] at hj
      exact hc j x hj
  · obtain ⟨v', w', hrun, ho, hg⟩ := run_append_arg_grows (P := P) (w := w) t ty e i z 1 bytes hT.ht hi hz hsize hby hzs (by omega) ⟨g, off, none⟩ l.length cap l (by simp) (fun j x hj => by rw [add_none, hB.cell]; exact hc j x hj) ⟨ba, oa, none⟩ 1 c [u] (by simp) hnews (by omega) h63 hbytes
    exact ⟨v', w', hrun, QRow.of_own ho (by omega) hbase, (Kept.refl _ w).grown hg (fun k _ e => by cases e), Or.inr fun g hg => (own_lt ho hg).1⟩
theorem wp_push {o : Oper} {a : Act} {K : Act → World → Prop} {Q : Exit → Act → World → Prop} {t : TypeId} {bytes : Nat} (hT : SlTy P t e 1 bytes) (s x : Operand)
    (ho : o.op = .call { callee := .builtin .append, args := #[s, x], argTypes := #[t, t] })
    (hs : a.eval s = v) (h : QRow w base e v l) (R : Nat → Prop) (A : Option Addr) (c : Nat) (u : Value) (hx : a.eval x = .slice A 1 c) (hr : Reads w R 1 A 1 [u]) (h1 : u.oneCell' = true)
    (hbytes : (l.length + 1) * bytes ≤ 140737488355328) (h63 : l.length + 1 ≤ maxLen) (hbase : base ≤ w.heap.size)
    (hK : ∀ v' w', QRow w' base e v' (l ++ [u]) → Kept (fun k => v.ownBlock = some k) w w' → (v'.ownBlock = v.ownBlock ∨ ∀ g, v'.ownBlock = some g → w.heap.size ≤ g) → K (a.put o.dst v') w') : o.wp P a w K Q := by
  obtain ⟨v', w', hrun, h2, h3, h4⟩ := h.push hT hr h1 hbytes h63 hbase o.type
  unfold Oper.wp execOp
  simp only [ho, resolve, invoke, builtin, Sem.run_bind, Sem.run_pure, Result.andThen_ok, List.map_toArray, List.map_cons, List.map_nil, hs, hx]
  rw [hrun]
  exact hK v' w' h2 h3 h4
theorem wpList_push {ops : Array Oper} {rest : List Oper} {o : Oper} {a : Act} {Q : Exit → Act → World → Prop} (hgd : o.guard = none) {t : TypeId} {bytes : Nat} (hT : SlTy P t e 1 bytes) (s x : Operand)
    (ho : o.op = .call { callee := .builtin .append, args := #[s, x], argTypes := #[t, t] })
    (hs : a.eval s = v) (h : QRow w base e v l) (R : Nat → Prop) (A : Option Addr) (c : Nat) (u : Value) (hx : a.eval x = .slice A 1 c) (hr : Reads w R 1 A 1 [u]) (h1 : u.oneCell' = true)
    (hbytes : (l.length + 1) * bytes ≤ 140737488355328) (h63 : l.length + 1 ≤ maxLen) (hbase : base ≤ w.heap.size)
    (hK : ∀ v' w', QRow w' base e v' (l ++ [u]) → Kept (fun k => v.ownBlock = some k) w w' → (v'.ownBlock = v.ownBlock ∨ ∀ g, v'.ownBlock = some g → w.heap.size ≤ g) → wpList P ops Q rest (a.put o.dst v') w') : wpList P ops Q (o :: rest) a w :=
  wpList_plain hgd fun _ hK' => wp_push hT s x ho hs h R A c u hx hr h1 hbytes h63 hbase fun v' w' h2 h3 h4 => hK' _ _ (hK v' w' h2 h3 h4)
/-- the first is taken off; where there is no room behind it the row stays where it was -/
theorem QRow.popV {t : TypeId} {bytes : Nat} (hT : SlTy P t e 1 bytes) {x : Value} (h : QRow w base e v (x :: l)) : ∃ g off cap v', v = .slice (some ⟨g, off, none⟩) (l.length + 1) cap ∧ g < w.heap.size ∧ l.length + 1 ≤ cap ∧ cap ≤ maxLen ∧ w.cell? ⟨g, off, none⟩ = some x ∧ QRow w base e v' l ∧
    ∀ w2 : World, (Instr.slice t (.slice (some ⟨g, off, none⟩) (l.length + 1) cap) (some (.int .i64 1)) none none).run P w2 = .ok v' w2 := by
  obtain ⟨i, z, hi, hz, hsize, hby, hzs⟩ := hT.ex
  obtain ⟨g, off, cap, cur, rfl, hb, hB, hs, hl, hm, hc⟩ := h
  simp only [List.length_cons] at hl
  have hu := hT.ht
  by_cases hc1 : cap = 1
  · subst hc1
    have h0 : l.length = 0 := by omega
    have hl0 : l = [] := List.eq_nil_of_length_eq_zero h0
    subst hl0
    refine ⟨g, off, 1, .slice (some ⟨g, off, none⟩) 0 0, rfl, hB.lt, by simp, by decide, (hB.cell off).trans (hc 0 x rfl), ⟨g, off, 0, cur, rfl, hb, hB, by omega, by simp, by decide, fun j u hj => by simp at hj⟩, fun w2 => ?_⟩
    have h01 : (0 : Int) ≤ 1 ∧ (1 : Int) ≤ ((1 : Nat) : Int) := by omega
    simp [Instr.slice, Instr.sliceBounds, Instr.sliceBound, asIntOf, run_underlying hu, sizeOf, typeInfo, hi, hsize]
  · refine ⟨g, off, cap, .slice (some ⟨g, off + 1, none⟩) l.length (cap - 1), rfl, hB.lt, hl, hm, (hB.cell off).trans (hc 0 x rfl), ⟨g, off + 1, cap - 1, cur, rfl, hb, hB, by omega, by omega, by omega, fun j u hj => ?_⟩, fun w2 => ?_⟩
    · rw [show off + 1 + j = off + (j + 1) by omega]
      exact hc (j + 1) u (by simpa using hj)
    · have h01 : (1 : Int) ≤ (l.length : Int) + 1 := by omega
      simp [Instr.slice, Instr.sliceBounds, Instr.sliceBound, asIntOf, run_underlying hu, sizeOf, typeInfo, hi, hsize, h01, hc1, Addr.add]
end
end Go.Proofs.Ytodmkjeankbieac

/- Of a temporary at most one number is known. No program in sight. -/
namespace Go.Proofs.Ytodmkjeankbieac

/-- at most one number is known of a temporary -/
def Uni (s : FS) : Prop := ∀ t n n', s (knF t n) → s (knF t n') → n = n'
theorem kn_inj {t t' : Int} {n n' : Nat} (h : knF t n = knF t' n') : t = t' ∧ n = n' := by
  unfold knF at h
  injection h with _ _ h1 h2
  exact ⟨h1, h2⟩
section
variable {p : Pg} {sg sl : Int} {s : FS}
theorem moveF_kn (hu : InU p sg sl s) {m : Mv} (hm : mvB sg sl m = true) {t : Int} {n : Nat} (h : moveF p s m (knF t n)) : s (knF t n) := by
  have h0 := isB_kind (mvB_facts hm).1
  rcases h with h1 | ⟨_, _, h1⟩ | ⟨_, g, _, _, _, h1⟩ | ⟨_, g, _, _, ⟨_, _, h1⟩ | ⟨_, _, h1⟩⟩
  · exact h1.1
  · injection h1 with _ h1; cases h1
  · injection h1 with h1; rw [← h1] at h0; simp at h0
  · injection h1 with h1; rw [← h1] at h0; simp at h0
  · injection h1 with _ h1; cases h1
theorem movesF_kn : ∀ (l : List Mv) {s : FS}, InU p sg sl s → (∀ m ∈ l, mvB sg sl m = true) → ∀ {t : Int} {n : Nat}, movesF p s l (knF t n) → s (knF t n)
  | [], _, _, _, _, _, h => h
  | m :: l, _, hu, hm, _, _, h => moveF_kn hu (hm m (by simp)) (movesF_kn l (moveF_in hu (hm m (by simp))) (fun x hx => hm x (List.mem_cons_of_mem _ hx)) h)
theorem giveF_uni (hu : InU p sg sl s) {i : In} {a : PlaceV} (ha : isB sg sl a = true) (h : Uni s) : Uni (giveF s i a) := by
  have h0 := isB_kind ha
  have key : ∀ t n, giveF s i a (knF t n) → (s (knF t n) ∧ t ≠ i.d) ∨ (t = i.d ∧ i.op = 1 ∧ n = i.n) ∨ (t = i.d ∧ i.op = 2 ∧ s (knF i.a n)) := by
    intro t n h1
    rcases h1 with h1 | ⟨ho, h1⟩ | ⟨ho, h1⟩ | h1
    · left
      refine ⟨h1.1, ?_⟩
      rcases h1.2.2 with h2 | h2
      · cases h2
      · exact h2
    · rcases h1 with ⟨g, hg, ht, _, _, h1⟩ | h1 | h1
      · injection h1 with h1 _ _ _
        have := (factIn_num (hu g hg) ht).1
        rw [← h1] at this
        have := isB_kind this
        simp at this
      · obtain ⟨e1, e2⟩ := kn_inj h1
        exact Or.inr (Or.inl ⟨e1, ho, e2⟩)
      · injection h1 with _ h1; cases h1
    · rcases h1 with ⟨g, hg, ht, hga, h1⟩ | h1
      · rcases h1 with ⟨hk, h1 | h1⟩ | ⟨hk, _, h1⟩
        · obtain ⟨e1, e2⟩ := kn_inj h1
          obtain ⟨q1, q2, _⟩ := factIn_k0 (hu g hg) hk
          refine Or.inr (Or.inr ⟨e1, ho, ?_⟩)
          have : g = knF i.a n := by
            obtain ⟨gp, gt, g1, g2⟩ := g
            simp only at q1 q2 hga e2
            subst q1; subst q2; subst hga; subst e2; rfl
          rw [← this]; exact hg
        · injection h1 with _ h1; cases h1
        · injection h1 with h1
          rw [← h1] at hk; simp at hk
      · injection h1 with h1; rw [← h1] at h0; simp at h0
    · injection h1 with h1; rw [← h1] at h0; simp at h0
  intro t n n' h1 h2
  rcases key t n h1 with ⟨a1, a2⟩ | ⟨a1, a2, a3⟩ | ⟨a1, a2, a3⟩ <;> rcases key t n' h2 with ⟨b1, b2⟩ | ⟨b1, b2, b3⟩ | ⟨b1, b2, b3⟩
  · exact h _ _ _ a1 b1
  · exact absurd b1 a2
  · exact absurd b1 a2
  · exact absurd a1 b2
  · rw [a3, b3]
  · omega
  · exact absurd a1 b2
  · omega
  · exact h _ _ _ a3 b3
end

/-- what is known of a program's places: of each temporary at most one number -/
theorem Kn_uni {p : Pg} {sg : Int} {l : Pd} (hm : mayL p sg l = true) : ∀ k, Come p.code k → Uni (Kn p sg l k) := by
  obtain ⟨mB, tB, s0, s1, hl⟩ := mayL_facts hm
  apply Come.ind
  · intro t n n' h1 h2
    have e1 := ((Kn_sol (p := p) (sg := sg) (l := l)).1 _ h1).2
    have e2 := ((Kn_sol (p := p) (sg := sg) (l := l)).1 _ h2).2
    exact Eq.trans (b := 0) e1 e2.symm
  · intro k m hk hU hmk
    have hIn := Kn_in hm k hk
    have hkl := hk.lt (by have := mayB_len mB; omega)
    have hi := insOk (mayB_ins mB (inAt_mem hkl))
    obtain ⟨r1, r2, r3, _⟩ := rwB_facts (mayL_row hm hkl) hi.kn
    have hs := fun f h => (Kn_sol (p := p) (sg := sg) (l := l)).2 k hk m hmk f h
    have hM1 := movesF_in _ hIn r1
    have hU1 : Uni (movesF p (Kn p sg l k) (rwAt l.rows k).before) := fun t n n' a b => hU t n n' (movesF_kn _ hIn r1 a) (movesF_kn _ hIn r1 b)
    have hI : InU p sg l.slots (insF (movesF p (Kn p sg l k) (rwAt l.rows k).before) (inAt p.code k) (rwAt l.rows k).d) := by
      unfold insF
      split
      · rename_i hg
        exact giveF_in hM1 hi hg (r3 hg) (inAt_mem hkl)
      · exact hM1
    have hU2 : Uni (insF (movesF p (Kn p sg l k) (rwAt l.rows k).before) (inAt p.code k) (rwAt l.rows k).d) := by
      unfold insF
      split
      · rename_i hg
        exact giveF_uni hM1 (r3 hg).2 hU1
      · exact hU1
    intro t n n' a b
    exact hU2 t n n' (movesF_kn _ hI r2 (hs _ a)) (movesF_kn _ hI r2 (hs _ b))
end Go.Proofs.Ytodmkjeankbieac
