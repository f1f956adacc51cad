/- What is known of places, plainly: facts, what becomes of them, the greatest sets; what is taken. No program in sight. -/
import Derived.Test.YtodmkjeankbieabPlacePlain
import Derived.Test.YtodmkjeankbieabLivePlain
namespace Go.Proofs.Ytodmkjeankbieab

structure Fc where
  pl : PlaceV
  temp : Bool
  t : Int
  n : Nat
  deriving DecidableEq

def hasF (a : PlaceV) (t : Int) : Fc := ⟨a, true, t, 0⟩
def isF (a : PlaceV) (n : Nat) : Fc := ⟨a, false, 0, n⟩
def knF (t : Int) (n : Nat) : Fc := ⟨⟨0, 0⟩, true, t, n⟩

/-- is a number one that facts may be of? -/
def NumIn (p : Pg) (n : Nat) : Prop := n = 0 ∨ ∃ i ∈ p.code, i.op = 1 ∧ i.n = n
/-- may a place of a kind have a temporary? -/
def mayT (wide : List Bool) (k t : Int) : Bool := decide (k = 3) || (wd wide t == decide (k = 2))
def tempIn (p : Pg) (t : Int) : Prop := 0 ≤ t ∧ t < p.wide.length

/-- the facts that may be -/
def FactIn (p : Pg) (sg sl : Int) (f : Fc) : Prop :=
  (f.pl = ⟨0, 0⟩ ∧ f.temp = true ∧ tempIn p f.t ∧ wd p.wide f.t = false ∧ NumIn p f.n) ∨
  (isB sg sl f.pl = true ∧ f.temp = true ∧ f.n = 0 ∧ tempIn p f.t ∧ mayT p.wide f.pl.k f.t = true) ∨
  (isB sg sl f.pl = true ∧ f.temp = false ∧ f.t = 0 ∧ f.pl.k ≠ 2 ∧ NumIn p f.n)

abbrev FS := Fc → Prop

def beginF (p : Pg) (sg sl : Int) : FS := fun f => FactIn p sg sl f ∧ f.n = 0

/-- those whose place does not overlap one, and that are not of a temporary -/
def withoutF (s : FS) (a : PlaceV) (t : Int) : FS := fun f => s f ∧ (f.pl.k = 0 ∨ ovP f.pl a = false) ∧ (f.temp = false ∨ f.t ≠ t)

def moveF (p : Pg) (s : FS) (m : Mv) : FS := fun f =>
  withoutF s m.to (-1) f ∨ (m.c = true ∧ NumIn p m.n ∧ f = isF m.to m.n) ∨ (m.c = true ∧ ∃ g, s g ∧ g.pl.k = 0 ∧ g.n = m.n ∧ f = hasF m.to g.t) ∨
  (m.c = false ∧ ∃ g, s g ∧ g.pl = m.fr ∧ ((g.temp = true ∧ mayT p.wide m.to.k g.t = true ∧ f = hasF m.to g.t) ∨ (g.temp = false ∧ m.to.k ≠ 2 ∧ f = isF m.to g.n)))
def movesF (p : Pg) (s : FS) (l : List Mv) : FS := l.foldl (moveF p) s

def giveF (s : FS) (i : In) (a : PlaceV) : FS := fun f =>
  withoutF s a i.d f ∨
  (i.op = 1 ∧ ((∃ g, s g ∧ g.temp = false ∧ g.n = i.n ∧ ovP g.pl a = false ∧ f = hasF g.pl i.d) ∨ f = knF i.d i.n ∨ f = isF a i.n)) ∨
  (i.op = 2 ∧ ((∃ g, s g ∧ g.temp = true ∧ g.t = i.a ∧ ((g.pl.k = 0 ∧ (f = knF i.d g.n ∨ f = isF a g.n)) ∨ (g.pl.k ≠ 0 ∧ ovP g.pl a = false ∧ f = hasF g.pl i.d))) ∨ f = hasF a i.a)) ∨
  f = hasF a i.d
def insF (s : FS) (i : In) (a : PlaceV) : FS := if gvs i.op then giveF s i a else s

/-- behind an instruction and its moves -/
def thruF (p : Pg) (s : FS) (i : In) (r : Rw) : FS := movesF p (insF (movesF p s r.before) i r.d) r.after
/-- is what is taken where it says? -/
def tookF (p : Pg) (s : FS) (i : In) (r : Rw) : Prop :=
  (0 < many i.op → movesF p s r.before (hasF r.a i.a)) ∧ (1 < many i.op → movesF p s r.before (hasF r.b i.b))

section
variable {p : Pg} {s s' : FS}
theorem withoutF_mono (h : ∀ f, s f → s' f) (a : PlaceV) (t : Int) : ∀ f, withoutF s a t f → withoutF s' a t f := fun f hf => ⟨h f hf.1, hf.2⟩
theorem moveF_mono (h : ∀ f, s f → s' f) (m : Mv) : ∀ f, moveF p s m f → moveF p s' m f := by
  rintro f (h1 | h1 | ⟨h0, g, h1, h2⟩ | ⟨h0, g, h1, h2⟩)
  · exact Or.inl (withoutF_mono h _ _ f h1)
  · exact Or.inr (Or.inl h1)
  · exact Or.inr (Or.inr (Or.inl ⟨h0, g, h g h1, h2⟩))
  · exact Or.inr (Or.inr (Or.inr ⟨h0, g, h g h1, h2⟩))
theorem movesF_mono : ∀ (l : List Mv) {s s' : FS}, (∀ f, s f → s' f) → ∀ f, movesF p s l f → movesF p s' l f
  | [], _, _, h => h
  | m :: l, _, _, h => movesF_mono l (moveF_mono h m)
theorem giveF_mono (h : ∀ f, s f → s' f) (i : In) (a : PlaceV) : ∀ f, giveF s i a f → giveF s' i a f := by
  rintro f (h1 | ⟨h0, h1⟩ | ⟨h0, h1⟩ | h1)
  · exact Or.inl (withoutF_mono h _ _ f h1)
  · refine Or.inr (Or.inl ⟨h0, ?_⟩)
    rcases h1 with ⟨g, h1, h2⟩ | h1
    · exact Or.inl ⟨g, h g h1, h2⟩
    · exact Or.inr h1
  · refine Or.inr (Or.inr (Or.inl ⟨h0, ?_⟩))
    rcases h1 with ⟨g, h1, h2⟩ | h1
    · exact Or.inl ⟨g, h g h1, h2⟩
    · exact Or.inr h1
  · exact Or.inr (Or.inr (Or.inr h1))
theorem insF_mono (h : ∀ f, s f → s' f) (i : In) (a : PlaceV) : ∀ f, insF s i a f → insF s' i a f := by
  unfold insF
  split
  · exact giveF_mono h i a
  · exact h
theorem thruF_mono (h : ∀ f, s f → s' f) (i : In) (r : Rw) : ∀ f, thruF p s i r f → thruF p s' i r f :=
  movesF_mono _ (insF_mono (movesF_mono _ h) i r.d)
theorem tookF_mono (h : ∀ f, s f → s' f) {i : In} {r : Rw} (ht : tookF p s i r) : tookF p s' i r :=
  ⟨fun hm => movesF_mono _ h _ (ht.1 hm), fun hm => movesF_mono _ h _ (ht.2 hm)⟩
end

/-! ### the greatest sets -/
/-- a way leads from the first instruction there -/
def ComeN (code : List In) : Nat → Nat → Prop
  | 0, k => k = 0
  | n + 1, k => ∃ j, ComeN code n j ∧ k ∈ nx code j
def Come (code : List In) (k : Nat) : Prop := ∃ n, ComeN code n k
theorem Come.zero (code : List In) : Come code 0 := ⟨0, rfl⟩
theorem Come.next {code : List In} {k m : Nat} (h : Come code k) (hm : m ∈ nx code k) : Come code m := let ⟨n, hn⟩ := h; ⟨n + 1, k, hn, hm⟩
theorem Come.ind {code : List In} {C : Nat → Prop} (h0 : C 0) (hs : ∀ k m, Come code k → C k → m ∈ nx code k → C m) : ∀ k, Come code k → C k := by
  rintro k ⟨n, h⟩
  induction n generalizing k with
  | zero => cases h; exact h0
  | succ n ih =>
    obtain ⟨j, hj, hk⟩ := h
    exact hs j k ⟨n, hj⟩ (ih j hj) hk
theorem nx_lt {code : List In} {k m : Nat} (h : m ∈ nx code k) : m < code.length := by
  unfold nx at h
  simpa using (List.mem_filter.1 h).2
theorem Come.lt {code : List In} {k : Nat} (h : Come code k) (h0 : 0 < code.length) : k < code.length := by
  obtain ⟨n, h⟩ := h
  cases n with
  | zero => cases h; exact h0
  | succ n => obtain ⟨j, _, hk⟩ := h; exact nx_lt hk

section
variable (p : Pg) (sg : Int) (l : Pd)
/-- sets that are at the beginning, and behind each that leads there -/
def IsSol (Y : Nat → FS) : Prop :=
  (∀ f, Y 0 f → beginF p sg l.slots f) ∧ ∀ k, Come p.code k → ∀ m ∈ nx p.code k, ∀ f, Y m f → thruF p (Y k) (inAt p.code k) (rwAt l.rows k) f
/-- the greatest ones -/
def Kn (k : Nat) : FS := fun f => Come p.code k ∧ ∃ Y, IsSol p sg l Y ∧ Y k f
def Taken : Prop := ∀ k, Come p.code k → tookF p (Kn p sg l k) (inAt p.code k) (rwAt l.rows k)
end

section
variable {p : Pg} {sg : Int} {l : Pd}
theorem Kn_sol : IsSol p sg l (Kn p sg l) := by
  refine ⟨fun f ⟨_, Y, hY, hf⟩ => hY.1 f hf, ?_⟩
  rintro k hk m hm f ⟨_, Y, hY, hf⟩
  exact thruF_mono (fun g hg => ⟨hk, Y, hY, hg⟩) _ _ f (hY.2 k hk m hm f hf)
theorem Kn_max {Y : Nat → FS} (hY : IsSol p sg l Y) {k : Nat} (hk : Come p.code k) {f : Fc} (hf : Y k f) : Kn p sg l k f := ⟨hk, Y, hY, hf⟩
theorem taken_of_sol {Y : Nat → FS} (hY : IsSol p sg l Y) (ht : ∀ k, Come p.code k → tookF p (Y k) (inAt p.code k) (rwAt l.rows k)) : Taken p sg l :=
  fun k hk => tookF_mono (fun _ hf => Kn_max hY hk hf) (ht k hk)
end

end Go.Proofs.Ytodmkjeankbieab
