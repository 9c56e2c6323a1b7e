import Derived.Orders
import Derived.Below
import Derived.Deep.AppendSrc
import Derived.Deep.MidRow
import Derived.Laws.Strings
import Derived.Laws.StructEq
import Derived.Laws.AppendOwn
import Derived.Deep.Upon
import Derived.Laws.BytesString
import Derived.Lib.ConvBytes
import Derived.Lib.UnsafeStr
import Derived.MapKept
import Derived.Scope
import Derived.Test.YtdfgfjnpllncdaaGreatDoorProg
import Derived.Lib.Builder
import Derived.WalkKit
import Derived.Deep.Slices
import Derived.ChangeArms
import Derived.Deep.Quiet
import Derived.Deep.Draws
import Derived.Deep.AppendLies
import Derived.Maps.AppendAt
import Derived.OwnWalk
import Derived.Laws.BytesArg
import Derived.Laws.MakeOwn
import Derived.Laws.OwnMore
import Derived.Deep.OwnRows
import Derived.Tactics
import Derived.Laws.Slices
import Derived.KernelRfl
import Derived.RowKit3
import Derived.Deep.LoopGhost
import Derived.Deep.QuietTactic
import Derived.BigQuiet
import Derived.WideLaws
import Derived.Deep.DeepCutAuto
import Derived.Deep.CutBlock
import Derived.Deep.RegionHeld3
import Derived.Laws.Rows
import Derived.Lib.AppendStr
import Derived.ArgAppend
import Derived.Laws.IdiomCopy
import Derived.RowKit
import Derived.WalkSpells
import Derived.WalkLawsBesides
import Derived.Lib.Hide
import Derived.Shelf.Strings.Builder1
import Derived.Shelf.Strings.Builder2
import Derived.Shelf.Strings.OnBuilder
import Derived.Shelf.Strings.Trim
import Derived.Shelf.Small.Utf8
import Derived.Shelf.Small.Strs
import Derived.Shelf.Small.Wraps
import Derived.Shelf.Strings.BuilderF
import Derived.Shelf.Strings.BuilderK
import Derived.Shelf.Strings.Builder2Cap
import Derived.Shelf.Strconv.Atoi
import Derived.Shelf.Strconv.Itoa0
import Derived.Shelf.Strconv.Itoa1
import Derived.Shelf.LaysM
import Derived.Shelf.Strconv.Itoa2
import Derived.Shelf.Strconv.Itoa3
import Derived.Shelf.Strconv.Itoa4
import Derived.Shelf.Strconv.AtoiErrFast
import Derived.Shelf.Strconv.ParseIntEmpty
import Derived.Shelf.Strconv.AtoiFail
import Derived.Shelf.Strconv.Clone
import Derived.Shelf.Strconv.SyntaxError
import Derived.Shelf.LaysC
import Derived.Shelf.Strconv.ToError
import Derived.Shelf.Strconv.AtoiErr
import Derived.Shelf.Strconv.ErrVar
import Derived.Shelf.Strconv.Lower
import Derived.Shelf.Strconv.ParseUint10
import Derived.Shelf.Strconv.ParseUint10Empty
import Derived.Shelf.Strconv.ParseUint10Any
import Derived.Shelf.Strconv.ParseInt10
import Derived.Shelf.Strconv.AtoiLong
import Derived.Shelf.Strconv.AtoiInnerAll
import Derived.Shelf.Strconv.RangeError
import Derived.Shelf.Strconv.ToErrorRange
import Derived.Shelf.Strconv.AtoiAll
import Derived.Shelf.Strconv.ErrVarAll
import Derived.Shelf.Strconv.ParseUintEmpty
import Derived.Shelf.Strconv.ParseUint10b64
import Derived.Shelf.Strconv.ParseUint10b32
import Derived.Shelf.Strconv.ParseUint10b16
import Derived.Shelf.Strconv.ParseUint10b8
import Derived.Shelf.Strconv.ParseUint10At
import Derived.Shelf.Strconv.ParseInt10At64
import Derived.Shelf.Strconv.ParseInt10At32
import Derived.Shelf.Strconv.ParseInt10At16
import Derived.Shelf.Strconv.ParseInt10At8
import Derived.Shelf.Strconv.ParseInt10All
import Derived.Shelf.Strconv.ParseIntPublic10
import Derived.Shelf.Strconv.ErrVarParseInt
import Derived.Shelf.Strings.Search1
import Derived.Shelf.Strings.Search2
import Derived.Shelf.Strings.Search3
import Derived.Shelf.Strings.Shaped
import Derived.Shelf.GgClosure.StringsIndexFunc
import Derived.Ground.GgwProg
import Derived.Shelf.GgClosure.StringsIndexFuncTop
import Derived.Shelf.GgClosure.StringsRunes
import Derived.Shelf.Strings.Prefix
import Derived.Shelf.Strings.Fields
import Derived.Shelf.Unicode.Latin
import Derived.Shelf.Strings.Runes
import Derived.Shelf.Strings.AsciiSet
import Derived.Shelf.Unicode.DecodeSlow
import Derived.Shelf.Unicode.DecodeAny
import Derived.Shelf.Unicode.Is16White
import Derived.Shelf.Unicode.IsSpaceAny
import Derived.Shelf.Unicode.DecodeLast
import Derived.Shelf.Unicode.Is16WhiteD
import Derived.Shelf.Unicode.IsSpaceAnyD
import Derived.Shelf.Strings.FieldsAny
import Derived.Shelf.Strings.FieldsFuncAny
import Derived.Shelf.Unicode.Is16Any
import Derived.Shelf.Unicode.Is32Any
import Derived.Shelf.Unicode.ExclAny
import Derived.Shelf.Strings.FuncGrows
import Derived.Shelf.Strings.BuilderCap
import Derived.Shelf.Slices.Turned
import Derived.Lib.AsciiSet
import Derived.Deep.WholeRow
import Derived.Laws.RangeString
import Derived.Lib.LaidTab
import Derived.Lib.LazyBuf
import Derived.Lib.Walk
import Derived.Lib.SliceRun
import Derived.Lib.AppendZerosOnto
import Derived.Lib.AtoiAll
import Derived.Lib.ParseIntB
import Derived.Lib.ItoaLen
import Derived.OpenShut
import Derived.Lib.Small
import Derived.Lib.Join
import Derived.IntWalk
import Derived.Laws.BitsAllLaws
import Derived.Laws.BitsLemmas
import Derived.JoinedCond
import Derived.SizedLaws
import Derived.LaidLaws
import Derived.Test.YtdfgfjnpllncdaaGreatDoorRows
import Derived.Lib.LaidU8
import Derived.Lib.SmallJoins
import Derived.ProofKit
import Derived.ShutString
import Derived.ChangeOld
import Derived.Carry
import Derived.MakeChecks
import Derived.Lay
import Derived.ChangeShapes
import Derived.Test.YtdfgfjnpllncdaaGreatDoorCards
import Derived.Test.YtdfgfjnpllncdaaGreatDoorTie
set_option linter.unusedSimpArgs false
set_option linter.unusedVariables false
namespace Go.Proofs.YtdfgfjnpllncdaaGreatDoor.I
open Go.RowKit
set_option linter.unusedVariables false

inductive Tree (α : Type) where
  | node (v : α) (kids : List (Tree α))
def Tree.val {α : Type} : Tree α → α | .node v _ => v
def Tree.kids {α : Type} : Tree α → List (Tree α) | .node _ k => k

/-- The kinds of data. A struct is a chain of pairs that ends in unit; 'tree p': a struct of p's cells and a slice of itself. -/
inductive Kd where
  | int (k : IntKind) | bool | str | slice (e : Kd) | unit | pair (a b : Kd) | tree (p : Kd) | fn (f : Nat) | fb (T : Nat) | err
  deriving DecidableEq
@[reducible] def Kd.T : Kd → Type
  | .int _ => Int
  | .bool => Bool
  | .str => ByteArray
  | .slice e => List e.T
  | .unit => Unit
  | .pair a b => a.T × b.T
  | .tree p => Tree p.T
  | .fn _ => Unit
  | .fb _ => Int
  | .err => Bool
def Kd.wd : Kd → Nat
  | .unit => 0
  | .pair a b => a.wd + b.wd
  | .tree p => p.wd + 1
  | _ => 1
/-- Is a value of this kind a struct (more cells than one, or one in a box of its own)? -/
def Kd.isAgg : Kd → Bool
  | .unit | .pair _ _ | .tree _ => true
  | _ => false

abbrev oneCell : Value → Bool := Value.oneCell'

/-- An error, or none. -/
def errR : Bool → List Value → Prop
  | true, vs => ∃ t x, vs = [.iface t x]
  | false, vs => vs = [.nilIface]
section rep
variable (w : World) (M : Nat → Prop)
def reps {α : Type} (R : α → List Value → Prop) : List α → List Value → Prop
  | [], _ => True
  | x :: xs, vs => ∃ a b, vs = a ++ b ∧ R x a ∧ reps R xs b
/-- The cells from an address on, in a block that nobody writes. -/
def memAt (ad : Addr) (f : List Value → Prop) : Prop :=
  ad.spot = none ∧ ¬ M ad.block ∧ ∃ c t fr, w.heap[ad.block]? = some (.cells c t fr) ∧ f (c.toList.drop ad.off)
def sliceRep {α : Type} (R : α → List Value → Prop) (xs : List α) (v : Value) : Prop :=
  ∃ A cap, v = .slice A xs.length cap ∧ xs.length ≤ cap ∧ (xs ≠ [] → ∃ ad, A = some ad ∧ memAt w M ad (reps R xs))
mutual
def treeRep {α : Type} (R : α → List Value → Prop) : Tree α → List Value → Prop
  | .node v ks, vs => ∃ u A cap, vs = u ++ [.slice A ks.length cap] ∧ R v u ∧ ks.length ≤ cap ∧ (ks ≠ [] → ∃ ad, A = some ad ∧ memAt w M ad (treesRep R ks))
def treesRep {α : Type} (R : α → List Value → Prop) : List (Tree α) → List Value → Prop
  | [], _ => True
  | t :: ts, vs => ∃ a b, vs = a ++ b ∧ treeRep R t a ∧ treesRep R ts b
end
def rep : (e : Kd) → e.T → List Value → Prop
  | .int k, n, vs => vs = [.int k n]
  | .bool, b, vs => vs = [.bool b]
  | .str, s, vs => vs = [.string s]
  | .slice e, xs, vs => ∃ v, vs = [v] ∧ sliceRep w M (rep e) xs v
  | .unit, _, vs => vs = []
  | .pair a b, x, vs => ∃ u v, vs = u ++ v ∧ rep a x.1 u ∧ rep b x.2 v
  | .tree p, t, vs => treeRep w M (rep p) t vs
  | .fn f, _, vs => vs = [.func (.func f) #[] #[]]
  | .fb _, n, vs => vs = [.int .u8 n]
  | .err, b, vs => errR b vs
end rep

theorem treesRep_eq (w : World) (M : Nat → Prop) {α : Type} (R : α → List Value → Prop) : ∀ (ts : List (Tree α)) (vs : List Value), treesRep w M R ts vs ↔ reps (treeRep w M R) ts vs
  | [], vs => by simp [treesRep, reps]
  | t :: ts, vs => by
    simp only [treesRep, reps]
    constructor
    · rintro ⟨a, b, h1, h2, h3⟩; exact ⟨a, b, h1, h2, (treesRep_eq w M R ts b).1 h3⟩
    · rintro ⟨a, b, h1, h2, h3⟩; exact ⟨a, b, h1, h2, (treesRep_eq w M R ts b).2 h3⟩
theorem rep_tree {w : World} {M : Nat → Prop} {p : Kd} {t : Tree p.T} {vs : List Value} : rep w M (.tree p) t vs ↔ ∃ u v, vs = u ++ [v] ∧ rep w M p t.val u ∧ sliceRep w M (rep w M (.tree p)) t.kids v := by
  cases t with
  | node x ks =>
    simp only [rep, treeRep, Tree.val, Tree.kids, sliceRep]
    constructor
    · rintro ⟨u, A, cap, h1, h2, h3, h4⟩
      refine ⟨u, _, h1, h2, A, cap, rfl, h3, fun h => ?_⟩
      obtain ⟨ad, e, s, m, c, t, fr, hh, hr⟩ := h4 h
      exact ⟨ad, e, s, m, c, t, fr, hh, (treesRep_eq _ _ _ _ _).1 hr⟩
    · rintro ⟨u, v, h1, h2, A, cap, rfl, h3, h4⟩
      refine ⟨u, A, cap, h1, h2, h3, fun h => ?_⟩
      obtain ⟨ad, e, s, m, c, t, fr, hh, hr⟩ := h4 h
      exact ⟨ad, e, s, m, c, t, fr, hh, (treesRep_eq _ _ _ _ _).2 hr⟩

theorem errR_len : ∀ {b : Bool} {vs : List Value}, errR b vs → vs.length = 1
  | true, _, ⟨_, _, h⟩ => by subst h; rfl
  | false, _, h => by simp only [errR] at h; subst h; rfl
theorem errR_one : ∀ {b : Bool} {vs : List Value}, errR b vs → ∀ v ∈ vs, oneCell v = true
  | true, _, ⟨_, _, h⟩ => by subst h; simp [oneCell, Value.oneCell']
  | false, _, h => by simp only [errR] at h; subst h; simp [oneCell, Value.oneCell']
theorem rep_len {w : World} {M : Nat → Prop} : ∀ {e : Kd} {x : e.T} {vs : List Value}, rep w M e x vs → vs.length = e.wd
  | .err, _, _, h => errR_len h
  | .int _, _, _, h | .bool, _, _, h | .str, _, _, h | .fn _, _, _, h | .fb _, _, _, h => by simp only [rep] at h; subst h; rfl
  | .slice _, _, _, h => by obtain ⟨v, h, _⟩ := h; subst h; rfl
  | .unit, _, _, h => by simp only [rep] at h; subst h; rfl
  | .pair a b, _, _, h => by
    obtain ⟨u, v, h, h1, h2⟩ := h
    subst h
    rw [List.length_append, rep_len h1, rep_len h2]; rfl
  | .tree p, t, _, h => by
    obtain ⟨u, v, h, h1, _⟩ := rep_tree.1 h
    subst h
    rw [List.length_append, rep_len h1]; rfl
theorem sliceRep_one {w : World} {M : Nat → Prop} {α : Type} {R : α → List Value → Prop} {xs : List α} {v : Value} (h : sliceRep w M R xs v) : oneCell v = true := by
  obtain ⟨A, cap, rfl, _⟩ := h; rfl
theorem rep_one {w : World} {M : Nat → Prop} : ∀ {e : Kd} {x : e.T} {vs : List Value}, rep w M e x vs → ∀ v ∈ vs, oneCell v = true
  | .err, _, _, h => errR_one h
  | .int _, _, _, h | .bool, _, _, h | .str, _, _, h | .fn _, _, _, h | .fb _, _, _, h => by simp only [rep] at h; subst h; simp [oneCell, Value.oneCell']
  | .slice _, _, _, h => by
    obtain ⟨v, h, h2⟩ := h; subst h
    simpa using sliceRep_one h2
  | .unit, _, _, h => by simp only [rep] at h; subst h; simp
  | .pair a b, _, _, h => by
    obtain ⟨u, v, h, h1, h2⟩ := h
    subst h
    intro x hx
    rcases List.mem_append.1 hx with hx | hx
    · exact rep_one h1 x hx
    · exact rep_one h2 x hx
  | .tree p, t, _, h => by
    obtain ⟨u, v, h, h1, h2⟩ := rep_tree.1 h
    subst h
    intro x hx
    rcases List.mem_append.1 hx with hx | hx
    · exact rep_one h1 x hx
    · simp at hx; subst hx; exact sliceRep_one h2

/-- What was read stays, where no block turns but such that nobody reads. -/
def Keeps (w : World) (M : Nat → Prop) (w' : World) (M' : Nat → Prop) : Prop := ∀ b c t fr, ¬ M b → w.heap[b]? = some (.cells c t fr) → w'.heap[b]? = some (.cells c t fr) ∧ ¬ M' b
theorem Keeps.refl (w : World) (M : Nat → Prop) : Keeps w M w M := fun _ _ _ _ h h' => ⟨h', h⟩
theorem Keeps.trans {a b c : World} {M N O : Nat → Prop} (h : Keeps a M b N) (k : Keeps b N c O) : Keeps a M c O := fun i x t fr h1 h2 => by
  obtain ⟨h3, h4⟩ := h i x t fr h1 h2
  exact k i x t fr h4 h3
theorem reps_imp {α : Type} {R R' : α → List Value → Prop} : ∀ {xs : List α} {vs : List Value}, (∀ x ∈ xs, ∀ u, R x u → R' x u) → reps R xs vs → reps R' xs vs
  | [], _, _, _ => trivial
  | x :: xs, _, h, ⟨a, b, e, h1, h2⟩ => ⟨a, b, e, h x (by simp) _ h1, reps_imp (fun y hy => h y (by simp [hy])) h2⟩
theorem memAt_keeps {w w' : World} {M M' : Nat → Prop} (hk : Keeps w M w' M') {ad : Addr} {f g : List Value → Prop} (hf : ∀ l, f l → g l) (h : memAt w M ad f) : memAt w' M' ad g := by
  obtain ⟨h1, h2, c, t, fr, h3, h4⟩ := h
  obtain ⟨h5, h6⟩ := hk _ _ _ _ h2 h3
  exact ⟨h1, h6, c, t, fr, h5, hf _ h4⟩
theorem sliceRep_keeps {w w' : World} {M M' : Nat → Prop} (hk : Keeps w M w' M') {α : Type} {R R' : α → List Value → Prop} {xs : List α} (hR : ∀ x ∈ xs, ∀ u, R x u → R' x u) {v : Value} (h : sliceRep w M R xs v) : sliceRep w' M' R' xs v := by
  obtain ⟨A, cap, h1, h2, h3⟩ := h
  refine ⟨A, cap, h1, h2, fun hx => ?_⟩
  obtain ⟨ad, e, h4⟩ := h3 hx
  exact ⟨ad, e, memAt_keeps hk (fun l hl => reps_imp hR hl) h4⟩
mutual
theorem treeRep_keeps {w w' : World} {M M' : Nat → Prop} (hk : Keeps w M w' M') {α : Type} {R R' : α → List Value → Prop} (hR : ∀ x u, R x u → R' x u) : ∀ {t : Tree α} {vs : List Value}, treeRep w M R t vs → treeRep w' M' R' t vs
  | .node v ks, vs, h => by
    simp only [treeRep] at h ⊢
    obtain ⟨u, A, cap, h1, h2, h3, h4⟩ := h
    refine ⟨u, A, cap, h1, hR _ _ h2, h3, fun hx => ?_⟩
    obtain ⟨ad, e, h5⟩ := h4 hx
    exact ⟨ad, e, memAt_keeps hk (fun l hl => treesRep_keeps hk hR hl) h5⟩
theorem treesRep_keeps {w w' : World} {M M' : Nat → Prop} (hk : Keeps w M w' M') {α : Type} {R R' : α → List Value → Prop} (hR : ∀ x u, R x u → R' x u) : ∀ {ts : List (Tree α)} {vs : List Value}, treesRep w M R ts vs → treesRep w' M' R' ts vs
  | [], vs, h => by simp only [treesRep]
  | t :: ts, vs, h => by
    simp only [treesRep] at h ⊢
    obtain ⟨a, b, h1, h2, h3⟩ := h
    exact ⟨a, b, h1, treeRep_keeps hk hR h2, treesRep_keeps hk hR h3⟩
end
theorem rep_keeps {w w' : World} {M M' : Nat → Prop} (hk : Keeps w M w' M') : ∀ {e : Kd} {x : e.T} {vs : List Value}, rep w M e x vs → rep w' M' e x vs
  | .int _, _, _, h | .bool, _, _, h | .str, _, _, h | .unit, _, _, h | .fn _, _, _, h | .fb _, _, _, h | .err, _, _, h => h
  | .slice _, _, _, ⟨v, h1, h2⟩ => ⟨v, h1, sliceRep_keeps hk (fun x _ u h => rep_keeps hk h) h2⟩
  | .pair a b, _, _, ⟨u, v, h, h1, h2⟩ => ⟨u, v, h, rep_keeps hk h1, rep_keeps hk h2⟩
  | .tree p, t, _, h => treeRep_keeps hk (fun x u h => rep_keeps hk h) h

/-- The element at a place: its cells. -/
theorem reps_at {α : Type} {R : α → List Value → Prop} {n : Nat} (hR : ∀ x u, R x u → u.length = n) : ∀ {xs : List α} {vs : List Value} {i : Nat} {x : α}, reps R xs vs → xs[i]? = some x → ∃ u, R x u ∧ (vs.drop (i * n)).take n = u
  | [], _, i, x, _, h => by simp at h
  | y :: ys, vs, 0, x, ⟨a, b, e, h1, h2⟩, h => by
    simp at h; subst h e
    refine ⟨a, h1, ?_⟩
    simp [← hR _ _ h1]
  | y :: ys, vs, i + 1, x, ⟨a, b, e, h1, h2⟩, h => by
    simp at h; subst e
    obtain ⟨u, h3, h4⟩ := reps_at hR h2 h
    refine ⟨u, h3, ?_⟩
    rw [← h4, Nat.succ_mul, Nat.add_comm, ← List.drop_drop, ← hR _ _ h1, List.drop_left]
theorem reps_length {α : Type} {R : α → List Value → Prop} {n : Nat} (hR : ∀ x u, R x u → u.length = n) : ∀ {xs : List α} {vs : List Value}, reps R xs vs → xs.length * n ≤ vs.length
  | [], _, _ => by simp
  | y :: ys, vs, ⟨a, b, e, h1, h2⟩ => by
    subst e
    have := reps_length hR h2
    have := hR _ _ h1
    rw [List.length_cons, List.length_append, Nat.succ_mul]; omega
theorem reps_drop {α : Type} {R : α → List Value → Prop} {n : Nat} (hR : ∀ x u, R x u → u.length = n) : ∀ {xs : List α} {vs : List Value} (i : Nat), i ≤ xs.length → reps R xs vs → reps R (xs.drop i) (vs.drop (i * n))
  | xs, vs, 0, _, h => by simpa using h
  | [], vs, i + 1, hi, h => by simp at hi
  | y :: ys, vs, i + 1, hi, ⟨a, b, e, h1, h2⟩ => by
    subst e
    have := reps_drop hR i (by simpa using hi) h2
    have ha := hR _ _ h1
    rw [Nat.succ_mul, List.drop_append, List.drop_of_length_le (l := a) (by omega), show i * n + n - a.length = i * n by omega]
    simpa using this
theorem reps_take {α : Type} {R : α → List Value → Prop} : ∀ {xs : List α} {vs : List Value} (i : Nat), reps R xs vs → reps R (xs.take i) vs
  | xs, vs, 0, _ => by simp [reps]
  | [], vs, i + 1, h => by simp [reps]
  | y :: ys, vs, i + 1, ⟨a, b, e, h1, h2⟩ => ⟨a, b, e, h1, reps_take i h2⟩
/-- Another element at a place. -/
theorem reps_set {α : Type} {R : α → List Value → Prop} {n : Nat} (hR : ∀ x u, R x u → u.length = n) : ∀ {xs : List α} {vs : List Value} {i : Nat} {x : α} {u : List Value}, i < xs.length → reps R xs vs → R x u → reps R (xs.set i x) (vs.take (i * n) ++ u ++ vs.drop (i * n + n))
  | [], _, i, x, u, hi, _, _ => by simp at hi
  | y :: ys, vs, 0, x, u, hi, ⟨a, b, e, h1, h2⟩, h => by
    subst e
    refine ⟨u, b, ?_, h, h2⟩
    simp [← hR _ _ h1]
  | y :: ys, vs, i + 1, x, u, hi, ⟨a, b, e, h1, h2⟩, h => by
    subst e
    have := reps_set hR (by simpa using hi) h2 h
    refine ⟨a, _, ?_, h1, this⟩
    have ha := hR _ _ h1
    rw [Nat.succ_mul, List.take_append, List.drop_append, ha]
    have e1 : i * n + n - n = i * n := by omega
    have e2 : i * n + n + n - n = i * n + n := by omega
    have e3 : List.take (i * n + n) a = a := List.take_of_length_le (by omega)
    have e4 : List.drop (i * n + n + n) a = [] := List.drop_of_length_le (by omega)
    rw [e1, e2, e3, e4]
    simp
theorem reps_append {α : Type} {R : α → List Value → Prop} {n : Nat} (hR : ∀ x u, R x u → u.length = n) : ∀ {xs ys : List α} {vs us : List Value}, reps R xs vs → reps R ys us → vs.length = xs.length * n → reps R (xs ++ ys) (vs ++ us)
  | [], ys, vs, us, _, h, hl => by
    have : vs = [] := List.eq_nil_of_length_eq_zero (by simpa using hl)
    subst this; simpa using h
  | x :: xs, ys, vs, us, ⟨a, b, e, h1, h2⟩, h, hl => by
    subst e
    rw [List.length_append, List.length_cons, Nat.succ_mul, hR _ _ h1] at hl
    exact ⟨a, b ++ us, by simp, h1, reps_append hR h2 h (by omega)⟩
/-- More cells behind do not matter; nor does what stands behind. -/
theorem reps_prefix {α : Type} {R : α → List Value → Prop} {n : Nat} (hR : ∀ x u, R x u → u.length = n) : ∀ {xs : List α} {vs us : List Value}, reps R xs vs → vs.take (xs.length * n) <+: us → reps R xs us
  | [], _, _, _, _ => trivial
  | x :: xs, vs, us, ⟨a, b, e, h1, h2⟩, h => by
    subst e
    have ha := hR _ _ h1
    obtain ⟨t, ht⟩ := h
    have hl := reps_length hR h2
    rw [List.length_cons, Nat.succ_mul, List.take_append, ha, List.take_of_length_le (by omega : a.length ≤ _), show xs.length * n + n - n = xs.length * n by omega] at ht
    refine ⟨a, b.take (xs.length * n) ++ t, by rw [← ht]; simp, h1, reps_prefix hR h2 ⟨t, rfl⟩⟩
end Go.Proofs.YtdfgfjnpllncdaaGreatDoor.I

namespace Go.Proofs.YtdfgfjnpllncdaaGreatDoor.I
open Go.RowKit
set_option linter.unusedVariables false
set_option linter.unusedSectionVars false

/-- A value as the walk knows it. 'ptr l off': a cell of the variable l; 'own l': the slice whose row is the label l; 'fz': a slice of memory that nobody writes; 'eptr', 'fptr': the address of a cell of an element; 'err': some error; 'errb b': an error, or none; 'self T': some pointer; as a cell: nil, or a pointer to the variable whose cell it is, and that is of type T; 'mapr l': the map l; 'bptr l off': the address of a cell that nobody writes and that holds a pointer to that cell of the variable l. -/
inductive AV where
  | any | bool (b : Bool) | int (k : IntKind) (n : Int) | str (s : ByteArray)
  | nilp | ptr (l off : Nat)
  | nils | own (l : Nat) | fz (e : Kd) (xs : List e.T)
  | eptr (l i wd off : Nat) | fptr (e : Kd) (xs : List e.T) (i off : Nat)
  | fn (f : Nat) (caps : List AV) | nilfn | nili | err | errb (b : Bool) | self (T : Nat) | mapr (l : Nat) | bptr (l off : Nat)
  | agg (cs : List AV) | tup (vs : List AV)
inductive Blk where
  | var (cs : List AV) | arr (e : Kd) (xs : List e.T) (own : Bool) | dead | mp (es : List (Value × Value))
def Blk.mutl : Blk → Bool
  | .var _ => true
  | .arr _ _ o => o
  | .dead => false
  | .mp _ => true
abbrev Hp := List (Nat × Blk)
def Hp.get : Hp → Nat → Option Blk
  | [], _ => none
  | (l, B) :: h, k => match Nat.beq l k with
    | true => some B
    | false => Hp.get h k
theorem Hp.get_cons {l k : Nat} {B : Blk} {h : Hp} : Hp.get ((l, B) :: h) k = if l = k then some B else h.get k := by
  simp only [Hp.get]
  cases e : Nat.beq l k with
  | true => rw [if_pos (Nat.eq_of_beq_eq_true e)]
  | false => rw [if_neg (Nat.ne_of_beq_eq_false e)]
abbrev Lab := Nat → Option Nat

/-- A cell of its own (no struct). -/
def AV.one : AV → Bool
  | .any | .agg _ | .tup _ => false
  | _ => true

section rep
variable (h : Hp) (φ : Lab) (w : World) (M : Nat → Prop)
mutual
def repV : AV → Value → Prop
  | .any, _ => True
  | .bool b, v => v = .bool b
  | .int k n, v => v = .int k n
  | .str s, v => v = .string s
  | .nilp, v => v = .pointer none
  | .ptr l off, v => ∃ b, φ l = some b ∧ v = .pointer (some ⟨b, off, none⟩)
  | .nils, v => v = .slice none 0 0
  | .own l, v => ∃ A n cap, v = .slice A n cap ∧ h.get l ≠ none ∧ ∀ e xs o, h.get l = some (.arr e xs o) → n = xs.length ∧ n ≤ cap ∧ A = (φ l).map (fun b => ⟨b, 0, none⟩) ∧ (φ l = none → cap = 0) ∧
      ∀ b, φ l = some b → ∃ c t fr, w.heap[b]? = some (.cells c t fr) ∧ cap * e.wd ≤ c.size
  | .fz e xs, v => sliceRep w M (rep w M e) xs v
  | .eptr l i wd off, v => ∃ b, φ l = some b ∧ v = .pointer (some ⟨b, i * wd + off, none⟩)
  | .fptr e xs i off, v => i < xs.length ∧ ∃ ad : Addr, v = .pointer (some (ad.add (i * e.wd + off))) ∧ memAt w M ad (reps (rep w M e) xs)
  | .fn f caps, v => ∃ cs, v = .func (.func f) #[] cs ∧ repVs caps cs.toList
  | .nilfn, v => v = .nilFunc
  | .nili, v => v = .nilIface
  | .err, v => ∃ t x, v = .iface t x
  | .errb b, v => errR b [v]
  | .self _, v => ∃ p, v = .pointer p
  | .mapr l, v => ∃ b, φ l = some b ∧ v = .map (some b)
  | .bptr l off, v => ∃ b a c t fr, φ l = some b ∧ v = .pointer (some ⟨a, 0, none⟩) ∧ ¬ M a ∧ w.heap[a]? = some (.cells c t fr) ∧ c.toList = [.pointer (some ⟨b, off, none⟩)]
  | .agg cs, v => ∃ a, v = .agg a ∧ repVs cs a.toList
  | .tup vs, v => ∃ a, v = .tuple a ∧ repVs vs a.toList
def repVs : List AV → List Value → Prop
  | [], vs => vs = []
  | x :: xs, vs => ∃ v vs', vs = v :: vs' ∧ repV x v ∧ repVs xs vs'
end
/-- What the cells 'self' say. -/
def AV.isSelf : AV → Bool
  | .self _ => true
  | _ => false
/-- A value that may be stored as a cell. -/
def AV.stor (v : AV) : Bool := match v.isSelf with
  | true => false
  | false => v.one
def selfs (o : Option Nat) (t : TypeId) (cs : List AV) (vs : List Value) : Prop := ∀ (i : Nat) (v : Value) (T : Nat), cs[i]? = some (.self T) → vs[i]? = some v → t = T ∧ i = 0 ∧ (v = .pointer none ∨ ∃ b, o = some b ∧ v = .pointer (some ⟨b, 0, none⟩))
/-- Which cells of a row may be frozen: none; of a builder's row those below its length. -/
def frFree (fr : Nat × Nat) (n : Nat) : Prop := fr.1 = fr.2 ∨ n ≤ fr.1
def frRow (e : Kd) (t : TypeId) (len : Nat) (fr : Nat × Nat) (n : Nat) : Prop := match e with
  | .fb T => t = T ∧ (fr.1 = fr.2 ∨ fr.2 ≤ len)
  | _ => frFree fr n
def blkRep (l : Nat) : Blk → Prop
  | .var cs => ∃ b c t fr, φ l = some b ∧ w.heap[b]? = some (.cells c t fr) ∧ frFree fr c.size ∧ repVs h φ w M cs c.toList ∧ cs.all AV.one = true ∧ selfs (φ l) t cs c.toList
  | .arr e xs o => (φ l = none ∧ xs = []) ∨ ∃ b c t fr, φ l = some b ∧ w.heap[b]? = some (.cells c t fr) ∧ frRow e t xs.length fr c.size ∧ reps (rep w M e) xs c.toList
  | .dead => True
  | .mp es => ∃ b c k, φ l = some b ∧ w.heap[b]? = some (.map c k) ∧ (c.toList.map fun e => (e.key, e.val)) = es
end rep
def ownB (h : Hp) (φ : Lab) (b : Nat) : Prop := ∃ l B, h.get l = some B ∧ B.mutl = true ∧ φ l = some b
def MB (X : Nat → Prop) (h : Hp) (φ : Lab) (b : Nat) : Prop := X b ∨ ownB h φ b

structure Sat (X : Nat → Prop) (h : Hp) (φ : Lab) (w : World) : Prop where
  blk : ∀ l B, h.get l = some B → blkRep h φ w (MB X h φ) l B
  inj : ∀ l l' B B' b, h.get l = some B → h.get l' = some B' → B.mutl = true → B'.mutl = true → φ l = some b → φ l' = some b → l = l'
  out : ∀ l B b, h.get l = some B → B.mutl = true → φ l = some b → ¬ X b
  frz : ∀ l e xs b, h.get l = some (.arr e xs false) → φ l = some b → ¬ MB X h φ b
  non : ∀ l, h.get l = none → φ l = none
  xlt : ∀ b, X b → b < w.heap.size

/-- Blocks of cells keep their size. -/
def CellsStay (w w' : World) : Prop := ∀ (b : Nat) (c : Array Value) (t : TypeId) (fr : Nat × Nat), w.heap[b]? = some (Obj.cells c t fr) → ∃ c' t' fr', w'.heap[b]? = some (Obj.cells c' t' fr') ∧ c'.size = c.size
/-- What a later block of a label may be. -/
def Later : Blk → Blk → Prop
  | .arr e xs _, .arr e' ys _ => e = e' ∧ xs.length = ys.length
  | _, .arr _ _ _ => False
  | _, _ => True
theorem Later.refl (B : Blk) : Later B B := by cases B <;> simp [Later]
/-- Only blocks of O have turned; nothing else of the world. -/
structure Chg (O : Nat → Prop) (w w' : World) : Prop where
  os : w'.os = w.os
  tape : w'.tape = w.tape
  output : w'.output = w.output
  size : w.heap.size ≤ w'.heap.size
  same : ∀ b, b < w.heap.size → ¬ O b → w'.heap[b]? = w.heap[b]?
  cells : CellsStay w w'
theorem Chg.refl (O : Nat → Prop) (w : World) : Chg O w w := ⟨rfl, rfl, rfl, Nat.le_refl _, fun _ _ _ => rfl, fun _ c t fr h => ⟨c, t, fr, h, rfl⟩⟩
theorem Chg.trans {O O' : Nat → Prop} {a b c : World} (h : Chg O a b) (k : Chg O' b c) (hO : ∀ i, O' i → O i ∨ a.heap.size ≤ i) : Chg O a c :=
  ⟨k.os.trans h.os, k.tape.trans h.tape, k.output.trans h.output, Nat.le_trans h.size k.size, fun i hi hn => by
    rw [k.same i (by have := h.size; omega) (fun ho => by rcases hO i ho with h1 | h1; exact hn h1; omega), h.same i hi hn],
    fun i x t fr hx => by
      obtain ⟨x', t', fr', h1, h2⟩ := h.cells i x t fr hx
      obtain ⟨x'', t'', fr'', h3, h4⟩ := k.cells i x' t' fr' h1
      exact ⟨x'', t'', fr'', h3, h4.trans h2⟩⟩
theorem Chg.mono {O O' : Nat → Prop} {a b : World} (h : Chg O a b) (hO : ∀ i, O i → O' i) : Chg O' a b :=
  ⟨h.os, h.tape, h.output, h.size, fun i hi hn => h.same i hi (fun ho => hn (hO i ho)), h.cells⟩
theorem heap_lt {w : World} {b : Nat} {o : Obj} (h : w.heap[b]? = some o) : b < w.heap.size := (Array.getElem?_eq_some_iff.1 h).1

structure Up (h : Hp) (φ : Lab) (w : World) (M : Nat → Prop) (h' : Hp) (φ' : Lab) (w' : World) (M' : Nat → Prop) : Prop where
  lab : ∀ l, h.get l ≠ none → φ' l = φ l
  later : ∀ l B, h.get l = some B → ∃ B', h'.get l = some B' ∧ Later B B'
  keeps : Keeps w M w' M'
  cells : CellsStay w w'
section up
variable {h h' : Hp} {φ φ' : Lab} {w w' : World} {M M' : Nat → Prop} (hu : Up h φ w M h' φ' w' M') (hn : ∀ l, h.get l = none → φ l = none)
include hu hn
theorem Up.some {l b : Nat} (e : φ l = some b) : φ' l = some b := by
  rw [hu.lab l (fun he => by rw [hn l he] at e; cases e)]; exact e
mutual
theorem Up.repV : ∀ {x : AV} {v : Value}, repV h φ w M x v → repV h' φ' w' M' x v
  | .any, _, _ => by simp only [I.repV]
  | .bool _, _, e | .int _ _, _, e | .str _, _, e | .nilp, _, e | .nils, _, e | .nilfn, _, e | .nili, _, e | .err, _, e | .errb _, _, e | .self _, _, e => by simpa only [I.repV] using e
  | .ptr l off, _, e => by
    simp only [I.repV] at e ⊢
    obtain ⟨b, h1, h2⟩ := e
    exact ⟨b, hu.some hn h1, h2⟩
  | .eptr l i wd off, _, e => by
    simp only [I.repV] at e ⊢
    obtain ⟨b, h1, h2⟩ := e
    exact ⟨b, hu.some hn h1, h2⟩
  | .mapr l, _, e => by
    simp only [I.repV] at e ⊢
    obtain ⟨b, h1, h2⟩ := e
    exact ⟨b, hu.some hn h1, h2⟩
  | .bptr l off, _, e => by
    simp only [I.repV] at e ⊢
    obtain ⟨b, a, c, t, fr, h1, h2, h3, h4, h5⟩ := e
    obtain ⟨h6, h7⟩ := hu.keeps a c t fr h3 h4
    exact ⟨b, a, c, t, fr, hu.some hn h1, h2, h7, h6, h5⟩
  | .own l, _, e => by
    simp only [I.repV] at e ⊢
    obtain ⟨A, n, cap, h1, h2, h3⟩ := e
    cases hB : h.get l with
    | none => exact absurd hB h2
    | some B =>
      obtain ⟨B', h4, h5⟩ := hu.later l B hB
      refine ⟨A, n, cap, h1, by rw [h4]; simp, fun e ys o h6 => ?_⟩
      rw [h4] at h6
      injection h6 with h6
      subst h6
      cases B with
      | var _ => exact h5.elim
      | dead => exact h5.elim
      | mp _ => exact h5.elim
      | arr e0 xs o0 =>
        obtain ⟨rfl, h7⟩ := h5
        obtain ⟨g1, g2, g3, g4, g5⟩ := h3 _ _ _ hB
        have hl : φ' l = φ l := hu.lab l h2
        refine ⟨by omega, g2, by rw [hl]; exact g3, by rw [hl]; exact g4, fun b hb => ?_⟩
        rw [hl] at hb
        obtain ⟨c, t, fr, k1, k2⟩ := g5 b hb
        obtain ⟨c', t', fr', k3, k4⟩ := hu.cells _ _ _ _ k1
        exact ⟨c', t', fr', k3, by omega⟩
  | .fz e xs, _, g => by
    simp only [I.repV] at g ⊢
    exact sliceRep_keeps hu.keeps (fun x _ u h => rep_keeps hu.keeps h) g
  | .fptr e xs i off, _, g => by
    simp only [I.repV] at g ⊢
    obtain ⟨h1, ad, h2, h3⟩ := g
    exact ⟨h1, ad, h2, memAt_keeps hu.keeps (fun l hl => reps_imp (fun x _ u h => rep_keeps hu.keeps h) hl) h3⟩
  | .fn f caps, _, g => by
    simp only [I.repV] at g ⊢
    obtain ⟨cs, h1, h2⟩ := g
    exact ⟨cs, h1, Up.repVs h2⟩
  | .agg caps, _, g => by
    simp only [I.repV] at g ⊢
    obtain ⟨cs, h1, h2⟩ := g
    exact ⟨cs, h1, Up.repVs h2⟩
  | .tup caps, _, g => by
    simp only [I.repV] at g ⊢
    obtain ⟨cs, h1, h2⟩ := g
    exact ⟨cs, h1, Up.repVs h2⟩
theorem Up.repVs : ∀ {xs : List AV} {vs : List Value}, repVs h φ w M xs vs → repVs h' φ' w' M' xs vs
  | [], _, e => by simpa only [I.repVs] using e
  | x :: xs, _, e => by
    simp only [I.repVs] at e ⊢
    obtain ⟨v, vs', h1, h2, h3⟩ := e
    exact ⟨v, vs', h1, Up.repV h2, Up.repVs h3⟩
end
/-- A label whose block has not turned. -/
theorem Up.blk {l : Nat} {B : Blk} (hB : h.get l = Option.some B) (hb : ∀ b, φ l = Option.some b → w'.heap[b]? = w.heap[b]?) (g : blkRep h φ w M l B) : blkRep h' φ' w' M' l B := by
  have hl : φ' l = φ l := hu.lab l (by rw [hB]; simp)
  cases B with
  | dead => trivial
  | mp es =>
    obtain ⟨b, c, k, h1, h2, h3⟩ := g
    exact ⟨b, c, k, by rw [hl]; exact h1, by rw [hb b h1]; exact h2, h3⟩
  | var cs =>
    obtain ⟨b, c, t, fr, h1, h2, h3, h4, h5, h6⟩ := g
    exact ⟨b, c, t, fr, by rw [hl]; exact h1, by rw [hb b h1]; exact h2, h3, hu.repVs hn h4, h5, by rw [hl]; exact h6⟩
  | arr e xs o =>
    rcases g with ⟨h1, h2⟩ | ⟨b, c, t, fr, h1, h2, h3, h4⟩
    · exact .inl ⟨by rw [hl]; exact h1, h2⟩
    · exact .inr ⟨b, c, t, fr, by rw [hl]; exact h1, by rw [hb b h1]; exact h2, h3, reps_imp (fun x _ u h => rep_keeps hu.keeps h) h4⟩
end up

/-- What a step leaves. -/
structure Post (X : Nat → Prop) (h : Hp) (φ : Lab) (w : World) (h' : Hp) (φ' : Lab) (w' : World) : Prop where
  sat : Sat X h' φ' w'
  up : Up h φ w (MB X h φ) h' φ' w' (MB X h' φ')
  chg : Chg (ownB h φ) w w'
  grow : ∀ b, ownB h' φ' b → ownB h φ b ∨ w.heap.size ≤ b
theorem keeps_of {X : Nat → Prop} {h h' : Hp} {φ φ' : Lab} {w w' : World} (hc : Chg (ownB h φ) w w') (hg : ∀ b, ownB h' φ' b → ownB h φ b ∨ w.heap.size ≤ b) : Keeps w (MB X h φ) w' (MB X h' φ') := fun b c t fr hm hb => by
  have hlt := heap_lt hb
  refine ⟨by rw [hc.same b hlt (fun ho => hm (.inr ho))]; exact hb, ?_⟩
  rintro (hx | ho)
  · exact hm (.inl hx)
  · rcases hg b ho with h1 | h1
    · exact hm (.inr h1)
    · omega
theorem Up.refl (h : Hp) (φ : Lab) (w : World) (M : Nat → Prop) : Up h φ w M h φ w M := ⟨fun _ _ => rfl, fun l B hB => ⟨B, hB, Later.refl B⟩, Keeps.refl _ _, fun b c t fr hb => ⟨c, t, fr, hb, rfl⟩⟩
theorem Post.refl {X : Nat → Prop} {h : Hp} {φ : Lab} {w : World} (hs : Sat X h φ w) : Post X h φ w h φ w := ⟨hs, Up.refl _ _ _ _, Chg.refl _ _, fun _ ho => .inl ho⟩
theorem Later.trans {A B C : Blk} (h : Later A B) (k : Later B C) : Later A C := by
  cases A <;> cases B <;> cases C <;> simp_all [Later]
theorem Up.trans {h h' h'' : Hp} {φ φ' φ'' : Lab} {w w' w'' : World} {M M' M'' : Nat → Prop} (a : Up h φ w M h' φ' w' M') (b : Up h' φ' w' M' h'' φ'' w'' M'') : Up h φ w M h'' φ'' w'' M'' :=
  ⟨fun l hl => by
      cases hB : h.get l with
      | none => exact absurd hB hl
      | some B =>
        obtain ⟨B', h1, _⟩ := a.later l B hB
        rw [b.lab l (by rw [h1]; simp), a.lab l hl],
    fun l B hB => by
      obtain ⟨B', h1, h2⟩ := a.later l B hB
      obtain ⟨B'', h3, h4⟩ := b.later l B' h1
      exact ⟨B'', h3, h2.trans h4⟩,
    a.keeps.trans b.keeps, fun i c t fr hc => by
      obtain ⟨x', t', fr', h1, h2⟩ := a.cells i c t fr hc
      obtain ⟨x'', t'', fr'', h3, h4⟩ := b.cells i x' t' fr' h1
      exact ⟨x'', t'', fr'', h3, h4.trans h2⟩⟩
theorem Post.trans {X : Nat → Prop} {h h' h'' : Hp} {φ φ' φ'' : Lab} {w w' w'' : World} (a : Post X h φ w h' φ' w') (b : Post X h' φ' w' h'' φ'' w'') : Post X h φ w h'' φ'' w'' :=
  ⟨b.sat, a.up.trans b.up, a.chg.trans b.chg a.grow, fun i hi => by
    rcases b.grow i hi with h1 | h1
    · exact a.grow i h1
    · exact .inr (Nat.le_trans a.chg.size h1)⟩
end Go.Proofs.YtdfgfjnpllncdaaGreatDoor.I

namespace Go.Proofs.YtdfgfjnpllncdaaGreatDoor.I
open Go.RowKit
set_option linter.unusedVariables false

theorem post_of {X : Nat → Prop} {h h' : Hp} {φ φ' : Lab} {w w' : World} (hs : Sat X h φ w) (lab : ∀ l, h.get l ≠ none → φ' l = φ l)
    (later : ∀ l B, h.get l = some B → ∃ B', h'.get l = some B' ∧ Later B B') (chg : Chg (ownB h φ) w w') (grow : ∀ b, ownB h' φ' b → ownB h φ b ∨ w.heap.size ≤ b)
    (blk : Up h φ w (MB X h φ) h' φ' w' (MB X h' φ') → ∀ l B, h'.get l = some B → (h.get l = some B ∧ ∀ b, φ l = some b → w'.heap[b]? = w.heap[b]?) ∨ blkRep h' φ' w' (MB X h' φ') l B)
    (inj : ∀ l l' B B' b, h'.get l = some B → h'.get l' = some B' → B.mutl = true → B'.mutl = true → φ' l = some b → φ' l' = some b → l = l')
    (frz : ∀ l e xs b, h'.get l = some (.arr e xs false) → φ' l = some b → h.get l = some (.arr e xs false) ∨ ¬ MB X h' φ' b)
    (non : ∀ l, h'.get l = none → φ' l = none) : Post X h φ w h' φ' w' := by
  have hup : Up h φ w (MB X h φ) h' φ' w' (MB X h' φ') := ⟨lab, later, keeps_of chg grow, chg.cells⟩
  refine ⟨⟨fun l B hB => ?_, inj, fun l B b hB hm hb hx => ?_, fun l e xs b hB hb => ?_, non, fun b hx => Nat.lt_of_lt_of_le (hs.xlt b hx) chg.size⟩, hup, chg, grow⟩
  · rcases blk hup l B hB with ⟨h1, h2⟩ | h1
    · exact hup.blk hs.non h1 h2 (hs.blk l B h1)
    · exact h1
  · rcases grow b ⟨l, B, hB, hm, hb⟩ with ⟨l0, B0, h1, h2, h3⟩ | h1
    · exact hs.out l0 B0 b h1 h2 h3 hx
    · have := hs.xlt b hx; omega
  · rcases frz l e xs b hB hb with h1 | h1
    · have hb' : φ l = some b := by rw [lab l (by rw [h1]; simp)] at hb; exact hb
      have hlt : b < w.heap.size := by
        rcases hs.blk l _ h1 with ⟨h2, _⟩ | ⟨b', c, t, fr, h2, h3, _⟩
        · rw [h2] at hb'; cases hb'
        · rw [h2] at hb'; injection hb' with hb'; subst hb'; exact heap_lt h3
      have hn := hs.frz l e xs b h1 hb'
      rintro (hx | ho)
      · exact hn (.inl hx)
      · rcases grow b ho with h4 | h4
        · exact hn (.inr h4)
        · omega
    · exact h1

def Lab.set (φ : Lab) (f : Nat) (b : Nat) : Lab := fun l => if l = f then some b else φ l
theorem Lab.set_eq (φ : Lab) (f b : Nat) : φ.set f b f = some b := by simp [Lab.set]
theorem Lab.set_ne {φ : Lab} {f b l : Nat} (h : l ≠ f) : φ.set f b l = φ l := by simp [Lab.set, h]
theorem own_lt {X : Nat → Prop} {h : Hp} {φ : Lab} {w : World} (hs : Sat X h φ w) {b : Nat} (ho : ownB h φ b) : b < w.heap.size := by
  obtain ⟨l, B, h1, h2, h3⟩ := ho
  have h4 := hs.blk l B h1
  cases B with
  | var cs => obtain ⟨b', c, t, fr, h5, h6, _⟩ := h4; rw [h5] at h3; injection h3 with h3; subst h3; exact heap_lt h6
  | dead => cases h2
  | mp es => obtain ⟨b', c, k, h5, h6, _⟩ := h4; rw [h5] at h3; injection h3 with h3; subst h3; exact heap_lt h6
  | arr e xs o =>
    rcases h4 with ⟨h5, _⟩ | ⟨b', c, t, fr, h5, h6, _⟩
    · rw [h5] at h3; cases h3
    · rw [h5] at h3; injection h3 with h3; subst h3; exact heap_lt h6

theorem blk_lt {X : Nat → Prop} {h : Hp} {φ : Lab} {w : World} (hs : Sat X h φ w) {l : Nat} {B : Blk} (hl : h.get l = some B) : B = .dead ∨ ∀ b, φ l = some b → b < w.heap.size := by
  have h4 := hs.blk l B hl
  cases B with
  | var cs => obtain ⟨b', c, t, fr, h5, h6, _⟩ := h4; exact .inr fun b hb => by rw [h5] at hb; injection hb with hb; subst hb; exact heap_lt h6
  | dead => exact .inl rfl
  | mp es => obtain ⟨b', c, k, h5, h6, _⟩ := h4; exact .inr fun b hb => by rw [h5] at hb; injection hb with hb; subst hb; exact heap_lt h6
  | arr e xs o =>
    rcases h4 with ⟨h5, _⟩ | ⟨b', c, t, fr, h5, h6, _⟩
    · exact .inr fun b hb => by rw [h5] at hb; cases hb
    · exact .inr fun b hb => by rw [h5] at hb; injection hb with hb; subst hb; exact heap_lt h6

/-- A new block under a new label. -/
theorem post_newO {X : Nat → Prop} {h : Hp} {φ : Lab} {w w' : World} (hs : Sat X h φ w) {f : Nat} (hf : h.get f = none) {O : Obj}
    (hw : w'.os = w.os ∧ w'.tape = w.tape ∧ w'.output = w.output) (hat : w'.heap[w.heap.size]? = some O) (hold : ∀ b, b < w.heap.size → w'.heap[b]? = w.heap[b]?) (hsize : w.heap.size ≤ w'.heap.size) {B : Blk} (hm : B.mutl = true)
    (hB : ∀ h' φ' M', Up h φ w (MB X h φ) h' φ' w' M' → φ' f = some w.heap.size → w'.heap[w.heap.size]? = some O → blkRep h' φ' w' M' f B) :
    Post X h φ w ((f, B) :: h) (φ.set f w.heap.size) w' := by
  have hlt : ∀ l B b, h.get l = some B → B.mutl = true → φ l = some b → b < w.heap.size := fun l B b h1 h2 h3 => own_lt hs ⟨l, B, h1, h2, h3⟩
  refine post_of hs (fun l hl => Lab.set_ne (fun e => hl (e ▸ hf))) (fun l B' hl => ⟨B', ?_, Later.refl _⟩) ⟨hw.1, hw.2.1, hw.2.2, hsize, fun b hb _ => hold b hb, fun b c t fr hb => ⟨c, t, fr, by rw [hold b (heap_lt hb)]; exact hb, rfl⟩⟩ ?_ ?_ ?_ ?_ ?_
  · rw [Hp.get_cons, if_neg (fun e => by subst e; rw [hf] at hl; cases hl)]; exact hl
  · rintro b ⟨l, B', h1, h2, h3⟩
    rw [Hp.get_cons] at h1
    by_cases e : f = l
    · subst e; rw [Lab.set_eq] at h3; injection h3 with h3; exact .inr (by omega)
    · rw [if_neg e] at h1; rw [Lab.set_ne (Ne.symm e)] at h3; exact .inl ⟨l, B', h1, h2, h3⟩
  · intro hu l B' hl
    rw [Hp.get_cons] at hl
    by_cases e : f = l
    · subst e; rw [if_pos rfl] at hl; injection hl with hl; subst hl
      exact .inr (hB _ _ _ hu (Lab.set_eq _ _ _) hat)
    · rw [if_neg e] at hl
      rcases blk_lt hs hl with rfl | hbl
      · exact .inr trivial
      · exact .inl ⟨hl, fun b hb => hold b (hbl b hb)⟩
  · intro l l' B1 B2 b h1 h2 m1 m2 e1 e2
    rw [Hp.get_cons] at h1 h2
    by_cases p : f = l <;> by_cases q : f = l'
    · exact p.symm.trans q
    · subst p; rw [if_neg q] at h2; rw [Lab.set_ne (Ne.symm q)] at e2; rw [Lab.set_eq] at e1; injection e1 with e1
      have := hlt _ _ _ h2 m2 e2; omega
    · subst q; rw [if_neg p] at h1; rw [Lab.set_ne (Ne.symm p)] at e1; rw [Lab.set_eq] at e2; injection e2 with e2
      have := hlt _ _ _ h1 m1 e1; omega
    · rw [if_neg p] at h1; rw [if_neg q] at h2; rw [Lab.set_ne (Ne.symm p)] at e1; rw [Lab.set_ne (Ne.symm q)] at e2
      exact hs.inj _ _ _ _ _ h1 h2 m1 m2 e1 e2
  · intro l e xs b hl hb
    rw [Hp.get_cons] at hl
    by_cases p : f = l
    · rw [if_pos p] at hl; injection hl with hl; subst hl; cases hm
    · rw [if_neg p] at hl; exact .inl hl
  · intro l hl
    rw [Hp.get_cons] at hl
    by_cases p : f = l
    · rw [if_pos p] at hl; cases hl
    · rw [if_neg p] at hl; rw [Lab.set_ne (Ne.symm p)]; exact hs.non l hl

theorem post_new' {X : Nat → Prop} {h : Hp} {φ : Lab} {w w' : World} (hs : Sat X h φ w) {f : Nat} (hf : h.get f = none) {c : Array Value} {t : TypeId} {fr : Nat × Nat}
    (hw : w'.os = w.os ∧ w'.tape = w.tape ∧ w'.output = w.output) (hat : w'.heap[w.heap.size]? = some (.cells c t fr)) (hold : ∀ b, b < w.heap.size → w'.heap[b]? = w.heap[b]?) (hsize : w.heap.size ≤ w'.heap.size) {B : Blk} (hm : B.mutl = true)
    (hB : ∀ h' φ' M', Up h φ w (MB X h φ) h' φ' w' M' → φ' f = some w.heap.size → w'.heap[w.heap.size]? = some (.cells c t fr) → blkRep h' φ' w' M' f B) :
    Post X h φ w ((f, B) :: h) (φ.set f w.heap.size) w' := post_newO hs hf hw hat hold hsize hm hB
theorem post_new {X : Nat → Prop} {h : Hp} {φ : Lab} {w w' : World} (hs : Sat X h φ w) {f : Nat} (hf : h.get f = none) {c : Array Value} {t : TypeId} {fr : Nat × Nat}
    (hw : w'.os = w.os ∧ w'.tape = w.tape ∧ w'.output = w.output) (hheap : w'.heap = w.heap.push (.cells c t fr)) {B : Blk} (hm : B.mutl = true)
    (hB : ∀ h' φ' M', Up h φ w (MB X h φ) h' φ' w' M' → φ' f = some w.heap.size → w'.heap[w.heap.size]? = some (.cells c t fr) → blkRep h' φ' w' M' f B) :
    Post X h φ w ((f, B) :: h) (φ.set f w.heap.size) w' :=
  post_new' hs hf hw (by rw [hheap]; simp) (fun b hb => by rw [hheap, Array.getElem?_push, if_neg (by omega)]) (by rw [hheap]; simp) hm hB
/-- A store into a block that is written. -/
theorem post_setO {X : Nat → Prop} {h : Hp} {φ : Lab} {w w' : World} (hs : Sat X h φ w) {l b : Nat} {B B' : Blk} (hl : h.get l = some B) (hm : B.mutl = true) (hb : φ l = some b)
    (hcs : ∀ (c : Array Value) (t : TypeId) (fr : Nat × Nat), w.heap[b]? = some (.cells c t fr) → ∃ c' t' fr', w'.heap[b]? = some (.cells c' t' fr') ∧ c'.size = c.size) (hw : w'.os = w.os ∧ w'.tape = w.tape ∧ w'.output = w.output) (hsize : w'.heap.size = w.heap.size) (hsame : ∀ k, k ≠ b → w'.heap[k]? = w.heap[k]?)
    (hm' : B'.mutl = true) (hlat : Later B B')
    (hB : Up h φ w (MB X h φ) ((l, B') :: h) φ w' (MB X ((l, B') :: h) φ) → blkRep ((l, B') :: h) φ w' (MB X ((l, B') :: h) φ) l B') : Post X h φ w ((l, B') :: h) φ w' := by
  have hown : ownB h φ b := ⟨l, B, hl, hm, hb⟩
  have key : ∀ k D, Hp.get ((l, B') :: h) k = some D → D.mutl = true → ∃ D', h.get k = some D' ∧ D'.mutl = true := by
    intro k D hk hD
    rw [Hp.get_cons] at hk
    by_cases e : l = k
    · subst e; exact ⟨B, hl, hm⟩
    · rw [if_neg e] at hk; exact ⟨D, hk, hD⟩
  refine post_of hs (fun _ _ => rfl) (fun k D hk => ?_) ⟨hw.1, hw.2.1, hw.2.2, by omega, fun k _ hn => hsame k (fun e => hn (e ▸ hown)), fun k d u g hk => ?_⟩ ?_ ?_ ?_ ?_ ?_
  · rw [Hp.get_cons]
    by_cases e : l = k
    · subst e; rw [if_pos rfl]; rw [hl] at hk; injection hk with hk; subst hk; exact ⟨_, rfl, hlat⟩
    · rw [if_neg e]; exact ⟨D, hk, Later.refl _⟩
  · by_cases e : k = b
    · subst e; exact hcs d u g hk
    · exact ⟨d, u, g, by rw [hsame k e]; exact hk, rfl⟩
  · rintro k ⟨l', D, h1, h2, h3⟩
    obtain ⟨D', h4, h5⟩ := key l' D h1 h2
    exact .inl ⟨l', D', h4, h5, h3⟩
  · intro hu k D hk
    rw [Hp.get_cons] at hk
    by_cases e : l = k
    · subst e; rw [if_pos rfl] at hk; injection hk with hk; subst hk; exact .inr (hB hu)
    · rw [if_neg e] at hk
      cases hD : D.mutl with
      | true => exact .inl ⟨hk, fun i hi => hsame i (fun e' => e (by subst e'; exact hs.inj _ _ _ _ _ hl hk hm hD hb hi))⟩
      | false =>
        cases D with
        | var _ => cases hD
        | dead => exact .inr trivial
        | mp _ => cases hD
        | arr e1 xs o =>
          have ho : o = false := hD
          subst ho
          exact .inl ⟨hk, fun i hi => hsame i (fun e' => by subst e'; exact hs.frz _ _ _ _ hk hi (.inr hown))⟩
  · intro k k' D D' i h1 h2 m1 m2 e1 e2
    obtain ⟨C, h3, h4⟩ := key k D h1 m1
    obtain ⟨C', h5, h6⟩ := key k' D' h2 m2
    exact hs.inj _ _ _ _ _ h3 h5 h4 h6 e1 e2
  · intro k e xs i hk hi
    rw [Hp.get_cons] at hk
    by_cases e' : l = k
    · rw [if_pos e'] at hk; injection hk with hk; subst hk; cases hm'
    · rw [if_neg e'] at hk; exact .inl hk
  · intro k hk
    rw [Hp.get_cons] at hk
    by_cases e : l = k
    · rw [if_pos e] at hk; cases hk
    · rw [if_neg e] at hk; exact hs.non k hk

theorem post_set {X : Nat → Prop} {h : Hp} {φ : Lab} {w w' : World} (hs : Sat X h φ w) {l b : Nat} {B B' : Blk} (hl : h.get l = some B) (hm : B.mutl = true) (hb : φ l = some b) {c c' : Array Value} {t : TypeId} {fr fr' : Nat × Nat}
    (hc : w.heap[b]? = some (.cells c t fr)) (hsz : c'.size = c.size) (hw : w'.os = w.os ∧ w'.tape = w.tape ∧ w'.output = w.output) (hsize : w'.heap.size = w.heap.size) (hsame : ∀ k, k ≠ b → w'.heap[k]? = w.heap[k]?)
    (hnew : w'.heap[b]? = some (.cells c' t fr')) (hm' : B'.mutl = true) (hlat : Later B B')
    (hB : Up h φ w (MB X h φ) ((l, B') :: h) φ w' (MB X ((l, B') :: h) φ) → blkRep ((l, B') :: h) φ w' (MB X ((l, B') :: h) φ) l B') : Post X h φ w ((l, B') :: h) φ w' :=
  post_setO hs hl hm hb (fun d u g hk => by rw [hc] at hk; injection hk with hk; injection hk with h1 h2 h3; subst h1; exact ⟨_, _, _, hnew, hsz⟩) hw hsize hsame hm' hlat hB

def Lab.put (φ : Lab) (f : Nat) (o : Option Nat) : Lab := fun l => if l = f then o else φ l
theorem Lab.put_eq (φ : Lab) (f : Nat) (o : Option Nat) : φ.put f o f = o := by simp [Lab.put]
theorem Lab.put_ne {φ : Lab} {f l : Nat} {o : Option Nat} (h : l ≠ f) : φ.put f o l = φ l := by simp [Lab.put, h]
/-- A row goes to a new label; the old one is dead. -/
theorem post_move {X : Nat → Prop} {h : Hp} {φ : Lab} {w w' : World} (hs : Sat X h φ w) {l f : Nat} {B B' : Blk} (hl : h.get l = some B) (hf : h.get f = none) (hm : B.mutl = true)
    (hw : w'.os = w.os ∧ w'.tape = w.tape ∧ w'.output = w.output) (hsize : w'.heap.size = w.heap.size) (hsame : ∀ k, φ l ≠ some k → w'.heap[k]? = w.heap[k]?) (hst : CellsStay w w') (hm' : B'.mutl = true)
    (hlat : Later B .dead)
    (hB : Up h φ w (MB X h φ) ((l, .dead) :: (f, B') :: h) (φ.put f (φ l)) w' (MB X ((l, .dead) :: (f, B') :: h) (φ.put f (φ l))) → blkRep ((l, .dead) :: (f, B') :: h) (φ.put f (φ l)) w' (MB X ((l, .dead) :: (f, B') :: h) (φ.put f (φ l))) f B') :
    Post X h φ w ((l, .dead) :: (f, B') :: h) (φ.put f (φ l)) w' := by
  have hne : l ≠ f := fun e => by subst e; rw [hl] at hf; cases hf
  have hg : ∀ k, Hp.get ((l, .dead) :: (f, B') :: h) k = if l = k then some .dead else if f = k then some B' else h.get k := fun k => by rw [Hp.get_cons, Hp.get_cons]
  have key : ∀ k D i, Hp.get ((l, .dead) :: (f, B') :: h) k = some D → D.mutl = true → (φ.put f (φ l)) k = some i → ∃ k' D', h.get k' = some D' ∧ D'.mutl = true ∧ φ k' = some i ∧ ((k = f ∧ k' = l) ∨ (k ≠ f ∧ k ≠ l ∧ k' = k)) := by
    intro k D i hk hD hi
    rw [hg] at hk
    by_cases e : l = k
    · rw [if_pos e] at hk; injection hk with hk; subst hk; cases hD
    · rw [if_neg e] at hk
      by_cases e' : f = k
      · subst e'; rw [Lab.put_eq] at hi; exact ⟨l, B, hl, hm, hi, .inl ⟨rfl, rfl⟩⟩
      · rw [if_neg e'] at hk; rw [Lab.put_ne (Ne.symm e')] at hi; exact ⟨k, D, hk, hD, hi, .inr ⟨Ne.symm e', Ne.symm e, rfl⟩⟩
  refine post_of hs (fun k hk => Lab.put_ne (fun e => hk (e ▸ hf))) (fun k D hk => ?_) ⟨hw.1, hw.2.1, hw.2.2, by omega, fun k _ hn => hsame k (fun e => hn ⟨l, B, hl, hm, e⟩), hst⟩ ?_ ?_ ?_ ?_ ?_
  · rw [hg]
    by_cases e : l = k
    · subst e; rw [if_pos rfl]; rw [hl] at hk; injection hk with hk; subst hk; exact ⟨_, rfl, hlat⟩
    · rw [if_neg e, if_neg (fun e' => by subst e'; rw [hf] at hk; cases hk)]; exact ⟨D, hk, Later.refl _⟩
  · rintro k ⟨l', D, h1, h2, h3⟩
    obtain ⟨k', D', h4, h5, h6, _⟩ := key l' D k h1 h2 h3
    exact .inl ⟨k', D', h4, h5, h6⟩
  · intro hu k D hk
    have hk' := hk
    rw [hg] at hk
    by_cases e : l = k
    · rw [if_pos e] at hk; injection hk with hk; subst hk; exact .inr trivial
    · rw [if_neg e] at hk
      by_cases e' : f = k
      · subst e'; rw [if_pos rfl] at hk; injection hk with hk; subst hk; exact .inr (hB hu)
      · rw [if_neg e'] at hk
        cases hD : D.mutl with
        | true => exact .inl ⟨hk, fun i hi => hsame i (fun e'' => e (hs.inj _ _ _ _ _ hl hk hm hD e'' hi))⟩
        | false =>
          cases D with
          | var _ => cases hD
          | dead => exact .inr trivial
          | mp _ => cases hD
          | arr e1 xs o =>
            have ho : o = false := hD
            subst ho
            exact .inl ⟨hk, fun i hi => hsame i (fun e'' => hs.frz _ _ _ _ hk hi (.inr ⟨l, B, hl, hm, e''⟩))⟩
  · intro k k' D D' i h1 h2 m1 m2 e1 e2
    obtain ⟨j, C, h3, h4, h5, h6⟩ := key k D i h1 m1 e1
    obtain ⟨j', C', h7, h8, h9, h10⟩ := key k' D' i h2 m2 e2
    have := hs.inj _ _ _ _ _ h3 h7 h4 h8 h5 h9
    rcases h6 with ⟨a, b⟩ | ⟨a, a', b⟩ <;> rcases h10 with ⟨c, d⟩ | ⟨c, c', d⟩ <;> subst_vars <;> simp_all
  · intro k e xs i hk hi
    rw [hg] at hk
    by_cases e1 : l = k
    · rw [if_pos e1] at hk; cases hk
    · rw [if_neg e1] at hk
      by_cases e' : f = k
      · rw [if_pos e'] at hk; injection hk with hk; subst hk; cases hm'
      · rw [if_neg e'] at hk; exact .inl hk
  · intro k hk
    rw [hg] at hk
    by_cases e : l = k
    · rw [if_pos e] at hk; cases hk
    · rw [if_neg e] at hk
      by_cases e' : f = k
      · rw [if_pos e'] at hk; cases hk
      · rw [if_neg e'] at hk; rw [Lab.put_ne (Ne.symm e')]; exact hs.non k hk

/-- From now on nobody writes the row (or nobody asks for it). -/
theorem post_keep {X : Nat → Prop} {h : Hp} {φ : Lab} {w : World} (hs : Sat X h φ w) {l : Nat} {B B' : Blk} (hl : h.get l = some B) (hlat : Later B B')
    (hB : B' = .dead ∨ ∃ e xs o, B = .arr e xs o ∧ B' = .arr e xs false) : Post X h φ w ((l, B') :: h) φ w := by
  have hm' : B'.mutl = false := by rcases hB with rfl | ⟨e, xs, o, _, rfl⟩ <;> rfl
  have key : ∀ k D, Hp.get ((l, B') :: h) k = some D → D.mutl = true → k ≠ l ∧ h.get k = some D := by
    intro k D hk hD
    rw [Hp.get_cons] at hk
    by_cases e : l = k
    · rw [if_pos e] at hk; injection hk with hk; subst hk; rw [hm'] at hD; cases hD
    · rw [if_neg e] at hk; exact ⟨Ne.symm e, hk⟩
  refine post_of hs (fun _ _ => rfl) (fun k D hk => ?_) (Chg.refl _ _) ?_ ?_ ?_ ?_ ?_
  · rw [Hp.get_cons]
    by_cases e : l = k
    · subst e; rw [if_pos rfl]; rw [hl] at hk; injection hk with hk; subst hk; exact ⟨_, rfl, hlat⟩
    · rw [if_neg e]; exact ⟨D, hk, Later.refl _⟩
  · rintro k ⟨l', D, h1, h2, h3⟩
    exact .inl ⟨l', D, (key l' D h1 h2).2, h2, h3⟩
  · intro hu k D hk
    rw [Hp.get_cons] at hk
    by_cases e : l = k
    · subst e; rw [if_pos rfl] at hk; injection hk with hk; subst hk
      rcases hB with rfl | ⟨e, xs, o, rfl, rfl⟩
      · exact .inr trivial
      · exact .inr (by
          rcases hs.blk _ _ hl with h1 | ⟨b, c, t, fr, h1, h2, h3, h4⟩
          · exact .inl h1
          · exact .inr ⟨b, c, t, fr, h1, h2, h3, reps_imp (fun x _ u g => rep_keeps hu.keeps g) h4⟩)
    · rw [if_neg e] at hk; exact .inl ⟨hk, fun _ _ => rfl⟩
  · intro k k' D D' i h1 h2 m1 m2 e1 e2
    exact hs.inj _ _ _ _ _ (key k D h1 m1).2 (key k' D' h2 m2).2 m1 m2 e1 e2
  · intro k e xs i hk hi
    rw [Hp.get_cons] at hk
    by_cases e' : l = k
    · subst e'; rw [if_pos rfl] at hk; injection hk with hk; subst hk
      rcases hB with hB | ⟨e, xs, o, rfl, hB⟩
      · cases hB
      · cases hB
        cases o with
        | false => exact .inl hl
        | true =>
          refine .inr ?_
          rintro (hx | ⟨k', D, h1, h2, h3⟩)
          · exact hs.out _ _ _ hl rfl hi hx
          · obtain ⟨h4, h5⟩ := key k' D h1 h2
            exact h4 (hs.inj _ _ _ _ _ h5 hl h2 rfl h3 hi)
    · rw [if_neg e'] at hk; exact .inl hk
  · intro k hk
    rw [Hp.get_cons] at hk
    by_cases e : l = k
    · rw [if_pos e] at hk; cases hk
    · rw [if_neg e] at hk; exact hs.non k hk
/-- A slice that is nil, under a new label. -/
theorem post_nil {X : Nat → Prop} {h : Hp} {φ : Lab} {w : World} (hs : Sat X h φ w) {f : Nat} (hf : h.get f = none) (e : Kd) : Post X h φ w ((f, .arr e [] true) :: h) φ w := by
  have hn := hs.non f hf
  refine post_of hs (fun _ _ => rfl) (fun k D hk => ⟨D, ?_, Later.refl _⟩) (Chg.refl _ _) ?_ ?_ ?_ ?_ ?_
  · rw [Hp.get_cons, if_neg (fun e => by subst e; rw [hf] at hk; cases hk)]; exact hk
  · rintro b ⟨l, B, h1, h2, h3⟩
    rw [Hp.get_cons] at h1
    by_cases e' : f = l
    · subst e'; rw [hn] at h3; cases h3
    · rw [if_neg e'] at h1; exact .inl ⟨l, B, h1, h2, h3⟩
  · intro hu k D hk
    rw [Hp.get_cons] at hk
    by_cases e' : f = k
    · subst e'; rw [if_pos rfl] at hk; injection hk with hk; subst hk; exact .inr (.inl ⟨hn, rfl⟩)
    · rw [if_neg e'] at hk; exact .inl ⟨hk, fun _ _ => rfl⟩
  · intro k k' D D' i h1 h2 m1 m2 e1 e2
    rw [Hp.get_cons] at h1 h2
    by_cases p : f = k
    · subst p; rw [hn] at e1; cases e1
    · by_cases q : f = k'
      · subst q; rw [hn] at e2; cases e2
      · rw [if_neg p] at h1; rw [if_neg q] at h2
        exact hs.inj _ _ _ _ _ h1 h2 m1 m2 e1 e2
  · intro k e' xs i hk hi
    rw [Hp.get_cons] at hk
    by_cases p : f = k
    · rw [if_pos p] at hk; cases hk
    · rw [if_neg p] at hk; exact .inl hk
  · intro k hk
    rw [Hp.get_cons] at hk
    by_cases p : f = k
    · rw [if_pos p] at hk; cases hk
    · rw [if_neg p] at hk; exact hs.non k hk
end Go.Proofs.YtdfgfjnpllncdaaGreatDoor.I

namespace Go.Proofs.YtdfgfjnpllncdaaGreatDoor.I
open Go.RowKit
set_option linter.unusedVariables false

/-- The cells of a datum, as the walk knows them. -/
def Kd.av : (e : Kd) → e.T → List AV
  | .int k, n => [.int k n]
  | .bool, b => [.bool b]
  | .str, s => [.str s]
  | .slice e, xs => [.fz e xs]
  | .unit, _ => []
  | .pair a b, x => a.av x.1 ++ b.av x.2
  | .tree p, t => p.av t.val ++ [.fz (.tree p) t.kids]
  | .fn f, _ => [.fn f []]
  | .fb _, n => [.int .u8 n]
  | .err, b => [.errb b]
def castXs {e e' : Kd} (h : e' = e) (xs : List e'.T) : List e.T := h ▸ xs
/-- A datum out of cells. -/
def Kd.enc : (e : Kd) → List AV → Option (e.T × List AV)
  | .int k, cs => match cs with
    | .int k' n :: r => if k = k' then some (n, r) else none
    | _ => none
  | .bool, cs => match cs with
    | .bool b :: r => some (b, r)
    | _ => none
  | .str, cs => match cs with
    | .str s :: r => some (s, r)
    | _ => none
  | .slice e, cs => match cs with
    | .fz e' xs :: r => if h : e' = e then some (castXs h xs, r) else none
    | .nils :: r => some ([], r)
    | _ => none
  | .unit, r => some ((), r)
  | .pair a b, r => match a.enc r with
    | some (x, r) => match b.enc r with
      | some (y, r) => some ((x, y), r)
      | none => none
    | none => none
  | .tree p, r => match p.enc r with
    | some (x, r) => match r with
      | .fz e' xs :: r => if h : e' = .tree p then some (.node x (castXs h xs), r) else none
      | .nils :: r => some (.node x [], r)
      | _ => none
    | none => none
  | .fb _, cs => match cs with
    | .int k n :: r => if k = .u8 then some (n, r) else none
    | _ => none
  | .err, cs => match cs with
    | .errb b :: r => some (b, r)
    | _ => none
  | .fn f, cs => match cs with
    | .fn f' c :: r => match c with
      | [] => if f' = f then some ((), r) else none
      | _ => none
    | _ => none
/-- A value of a kind. -/
def Kd.val (e : Kd) (x : e.T) : AV := match e.isAgg with
  | true => .agg (e.av x)
  | false => (e.av x).headD .any
def AV.cells : AV → List AV
  | .agg cs => cs
  | v => [v]

theorem stor_one {v : AV} (h : v.stor = true) : v.one = true := by
  unfold AV.stor at h
  split at h
  · cases h
  · exact h
theorem stor_self {v : AV} {T : Nat} (h : v.stor = true) : v ≠ .self T := by rintro rfl; cases h
theorem stors_one {cs : List AV} (h : cs.all AV.stor = true) : cs.all AV.one = true := by
  rw [List.all_eq_true] at h ⊢
  exact fun x hx => stor_one (h x hx)
theorem selfs_stor {o : Option Nat} {t : TypeId} {cs : List AV} {vs : List Value} (h : cs.all AV.stor = true) : selfs o t cs vs := fun i v T h1 _ => by
  rw [List.all_eq_true] at h
  exact absurd rfl (stor_self (h _ (List.mem_of_getElem? h1)))
theorem selfs_splice {o : Option Nat} {t : TypeId} {cs us : List AV} {vs xs : List Value} {off : Nat} (h : selfs o t cs vs) (hl : cs.length = vs.length) (hu : us.length = xs.length) (hn : us.all AV.stor = true) : selfs o t (cs.take off ++ (us ++ cs.drop (off + us.length))) (vs.take off ++ (xs ++ vs.drop (off + xs.length))) := by
  intro i v T h1 h2
  have e1 : (cs.take off).length = (vs.take off).length := by simp [hl]
  rw [List.getElem?_append] at h1 h2
  rw [e1] at h1
  split at h1
  · rename_i hi
    rw [if_pos hi] at h2
    rw [List.getElem?_take] at h1 h2
    split at h1
    · rename_i hj
      rw [if_pos hj] at h2
      exact h i v T h1 h2
    · cases h1
  · rename_i hi
    rw [if_neg hi] at h2
    rw [List.getElem?_append] at h1 h2
    rw [hu] at h1
    split at h1
    · rw [List.all_eq_true] at hn
      exact absurd rfl (stor_self (hn _ (List.mem_of_getElem? h1)))
    · rename_i hj
      rw [if_neg hj] at h2
      rw [List.getElem?_drop] at h1 h2
      obtain ⟨q1, q2, q3⟩ := h _ v T h1 h2
      have q4 : (vs.take off).length ≤ off := by rw [List.length_take]; omega
      exact ⟨q1, by omega, q3⟩

section
variable {h : Hp} {φ : Lab} {w : World} {M : Nat → Prop}
theorem repVs_append : ∀ {a b : List AV} {vs : List Value}, repVs h φ w M (a ++ b) vs ↔ ∃ u v, vs = u ++ v ∧ repVs h φ w M a u ∧ repVs h φ w M b v
  | [], b, vs => by
    simp only [List.nil_append, repVs]
    exact ⟨fun g => ⟨[], vs, rfl, rfl, g⟩, fun ⟨u, v, e, e1, g⟩ => by subst e1 e; simpa using g⟩
  | x :: a, b, vs => by
    simp only [List.cons_append, repVs]
    constructor
    · rintro ⟨v, vs', e, h1, h2⟩
      obtain ⟨u, t, e', h3, h4⟩ := repVs_append.1 h2
      subst e e'
      exact ⟨v :: u, t, rfl, ⟨v, u, rfl, h1, h3⟩, h4⟩
    · rintro ⟨u, t, e, ⟨v, u', e', h1, h2⟩, h3⟩
      subst e e'
      exact ⟨v, u' ++ t, rfl, h1, repVs_append.2 ⟨u', t, rfl, h2, h3⟩⟩
theorem repVs_len : ∀ {a : List AV} {vs : List Value}, repVs h φ w M a vs → a.length = vs.length
  | [], _, e => by simp only [repVs] at e; subst e; rfl
  | x :: a, _, e => by
    simp only [repVs] at e
    obtain ⟨v, vs', e, _, h2⟩ := e
    subst e
    simp [repVs_len h2]
theorem repVs_get : ∀ {a : List AV} {vs : List Value} {i : Nat} {x : AV}, repVs h φ w M a vs → a[i]? = some x → ∃ v, vs[i]? = some v ∧ repV h φ w M x v
  | [], _, _, _, _, e => by simp at e
  | y :: a, _, i, x, g, e => by
    simp only [repVs] at g
    obtain ⟨v, vs', rfl, h1, h2⟩ := g
    cases i with
    | zero => simp at e; subst e; exact ⟨v, rfl, h1⟩
    | succ i => simp at e; simpa using repVs_get h2 e
theorem repVs_drop : ∀ {a : List AV} {vs : List Value} (n : Nat), repVs h φ w M a vs → repVs h φ w M (a.drop n) (vs.drop n)
  | a, vs, 0, g => by simpa using g
  | [], _, n + 1, g => by simp only [repVs] at g; subst g; simp [repVs]
  | y :: a, _, n + 1, g => by
    simp only [repVs] at g
    obtain ⟨v, vs', rfl, h1, h2⟩ := g
    simpa using repVs_drop n h2
theorem repVs_take : ∀ {a : List AV} {vs : List Value} (n : Nat), repVs h φ w M a vs → repVs h φ w M (a.take n) (vs.take n)
  | a, vs, 0, g => by simp [repVs]
  | [], _, n + 1, g => by simp only [repVs] at g; subst g; simp [repVs]
  | y :: a, _, n + 1, g => by
    simp only [repVs] at g
    obtain ⟨v, vs', rfl, h1, h2⟩ := g
    simp only [List.take_succ_cons, repVs]
    exact ⟨v, _, rfl, h1, repVs_take n h2⟩
theorem rep_av : ∀ {e : Kd} {x : e.T} {vs : List Value}, rep w M e x vs → repVs h φ w M (e.av x) vs
  | .int k, n, vs, g => by simp only [rep] at g; subst g; exact ⟨_, [], rfl, rfl, rfl⟩
  | .bool, n, vs, g => by simp only [rep] at g; subst g; exact ⟨_, [], rfl, rfl, rfl⟩
  | .str, n, vs, g => by simp only [rep] at g; subst g; exact ⟨_, [], rfl, rfl, rfl⟩
  | .fn f, n, vs, g => by simp only [rep] at g; subst g; exact ⟨_, [], rfl, ⟨#[], rfl, rfl⟩, rfl⟩
  | .fb _, n, vs, g => by simp only [rep] at g; subst g; exact ⟨_, [], rfl, rfl, rfl⟩
  | .err, n, vs, g => by
    simp only [rep] at g
    match n, vs, g with
    | true, _, ⟨t, x, rfl⟩ => exact ⟨_, [], rfl, ⟨t, x, rfl⟩, rfl⟩
    | false, _, g => simp only [errR] at g; subst g; exact ⟨_, [], rfl, rfl, rfl⟩
  | .slice e, xs, vs, g => by
    obtain ⟨v, e1, g⟩ := g
    subst e1
    exact ⟨v, [], rfl, by simpa only [repV] using g, rfl⟩
  | .unit, _, vs, g => by simp only [rep] at g; subst g; rfl
  | .pair a b, x, vs, g => by
    obtain ⟨u, v, e, h1, h2⟩ := g
    subst e
    exact repVs_append.2 ⟨u, v, rfl, rep_av h1, rep_av h2⟩
  | .tree p, t, vs, g => by
    obtain ⟨u, v, e, h1, h2⟩ := rep_tree.1 g
    subst e
    exact repVs_append.2 ⟨u, [v], rfl, rep_av h1, v, [], rfl, by simpa only [repV] using h2, rfl⟩
theorem nils_rep {α : Type} {R : α → List Value → Prop} : sliceRep w M R [] (.slice none 0 0) := ⟨none, 0, rfl, by simp, fun h => absurd rfl h⟩
theorem enc_rep : ∀ {e : Kd} {cs r : List AV} {x : e.T} {vs : List Value}, e.enc cs = some (x, r) → repVs h φ w M cs vs → ∃ u v, vs = u ++ v ∧ rep w M e x u ∧ repVs h φ w M r v
  | .int k, cs, r, x, vs, g, hv => by
    simp only [Kd.enc] at g
    split at g
    · split at g
      · simp only [Option.some.injEq, Prod.mk.injEq] at g
        obtain ⟨g1, g2⟩ := g
        subst_vars
        obtain ⟨v, vs', e, h1, h2⟩ := hv
        simp only [repV] at h1
        subst e h1
        exact ⟨[_], vs', rfl, rfl, h2⟩
      · cases g
    · cases g
  | .bool, cs, r, x, vs, g, hv => by
    simp only [Kd.enc] at g
    split at g
    · simp only [Option.some.injEq, Prod.mk.injEq] at g
      obtain ⟨g1, g2⟩ := g
      subst_vars
      obtain ⟨v, vs', e, h1, h2⟩ := hv
      simp only [repV] at h1
      subst e h1
      exact ⟨[_], vs', rfl, rfl, h2⟩
    · cases g
  | .str, cs, r, x, vs, g, hv => by
    simp only [Kd.enc] at g
    split at g
    · simp only [Option.some.injEq, Prod.mk.injEq] at g
      obtain ⟨g1, g2⟩ := g
      subst_vars
      obtain ⟨v, vs', e, h1, h2⟩ := hv
      simp only [repV] at h1
      subst e h1
      exact ⟨[_], vs', rfl, rfl, h2⟩
    · cases g
  | .fb _, cs, r, x, vs, g, hv => by
    simp only [Kd.enc] at g
    split at g
    · split at g
      · simp only [Option.some.injEq, Prod.mk.injEq] at g
        obtain ⟨g1, g2⟩ := g
        subst_vars
        obtain ⟨v, vs', e, h1, h2⟩ := hv
        simp only [repV] at h1
        subst e h1
        exact ⟨[_], vs', rfl, rfl, h2⟩
      · cases g
    · cases g
  | .err, cs, r, x, vs, g, hv => by
    simp only [Kd.enc] at g
    split at g
    · simp only [Option.some.injEq, Prod.mk.injEq] at g
      obtain ⟨g1, g2⟩ := g
      subst_vars
      obtain ⟨v, vs', e, h1, h2⟩ := hv
      simp only [repV] at h1
      subst e
      exact ⟨[_], vs', rfl, h1, h2⟩
    · cases g
  | .fn f, cs, r, x, vs, g, hv => by
    simp only [Kd.enc] at g
    split at g
    · split at g
      · split at g
        · rename_i hf
          simp only [Option.some.injEq, Prod.mk.injEq] at g
          obtain ⟨g1, g2⟩ := g
          subst_vars
          obtain ⟨v, vs', e, ⟨cs, h0, h1⟩, h2⟩ := hv
          simp only [repVs] at h1
          have : cs = #[] := by cases cs; simpa using h1
          subst e h0 this
          exact ⟨[_], vs', rfl, rfl, h2⟩
        · cases g
      · cases g
    · cases g
  | .slice e, cs, r, x, vs, g, hv => by
    simp only [Kd.enc] at g
    split at g
    · split at g
      · rename_i he
        subst he
        simp only [Option.some.injEq, Prod.mk.injEq] at g
        obtain ⟨g1, g2⟩ := g
        subst g1 g2
        obtain ⟨v, vs', e, h1, h2⟩ := hv
        subst e
        simp only [repV] at h1
        exact ⟨[v], vs', rfl, ⟨v, rfl, h1⟩, h2⟩
      · cases g
    · simp only [Option.some.injEq, Prod.mk.injEq] at g
      obtain ⟨g1, g2⟩ := g
      subst g1 g2
      obtain ⟨v, vs', e, h1, h2⟩ := hv
      simp only [repV] at h1
      subst e h1
      exact ⟨[_], vs', rfl, ⟨_, rfl, nils_rep⟩, h2⟩
    · cases g
  | .unit, cs, r, x, vs, g, hv => by
    simp only [Kd.enc, Option.some.injEq, Prod.mk.injEq] at g
    obtain ⟨g1, g2⟩ := g
    subst g2
    exact ⟨[], vs, rfl, rfl, hv⟩
  | .pair a b, cs, r, x, vs, g, hv => by
    simp only [Kd.enc] at g
    split at g
    · rename_i y r1 e1
      split at g
      · rename_i z r2 e2
        simp only [Option.some.injEq, Prod.mk.injEq] at g
        obtain ⟨g1, g2⟩ := g
        subst g1 g2
        obtain ⟨u, v, h1, h2, h3⟩ := enc_rep e1 hv
        obtain ⟨u', v', h4, h5, h6⟩ := enc_rep e2 h3
        subst h1 h4
        exact ⟨u ++ u', v', by simp, ⟨u, u', rfl, h2, h5⟩, h6⟩
      · cases g
    · cases g
  | .tree p, cs, r, x, vs, g, hv => by
    simp only [Kd.enc] at g
    split at g
    · rename_i y r1 e1
      obtain ⟨u, v, h1, h2, h3⟩ := enc_rep e1 hv
      subst h1
      split at g
      · split at g
        · rename_i e' xs r' he
          simp only [Option.some.injEq, Prod.mk.injEq] at g
          obtain ⟨g1, g2⟩ := g
          subst g1 g2
          obtain ⟨v, vs', e, h4, h5⟩ := h3
          subst e he
          simp only [repV] at h4
          exact ⟨u ++ [v], vs', by simp, rep_tree.2 ⟨u, v, rfl, h2, h4⟩, h5⟩
        · cases g
      · simp only [Option.some.injEq, Prod.mk.injEq] at g
        obtain ⟨g1, g2⟩ := g
        subst g1 g2
        obtain ⟨v, vs', e, h4, h5⟩ := h3
        simp only [repV] at h4
        subst e h4
        exact ⟨u ++ [_], vs', by simp, rep_tree.2 ⟨u, _, rfl, h2, nils_rep⟩, h5⟩
      · cases g
    · cases g
end
end Go.Proofs.YtdfgfjnpllncdaaGreatDoor.I

namespace Go.Proofs.YtdfgfjnpllncdaaGreatDoor.I
open Go.RowKit
set_option linter.unusedVariables false

/-- An answer that reads the walk's state: slots, labels; it may branch, and may fail. -/
inductive RM : Type 1 where
  | ret (v : AV) (ws : Hp)
  | fail
  | getT (n : Nat) (k : AV → RM)
  | getH (l : Nat) (k : Blk → RM)
  | ite (b : Bool) (x y : RM)
  | opt {α : Type} (o : Option α) (k : α → RM)
def RM.eval (tm : Nat → AV) (H : Nat → Option Blk) : RM → Option (AV × Hp)
  | .ret v ws => some (v, ws)
  | .fail => none
  | .getT n k => (k (tm n)).eval tm H
  | .getH l k => match H l with
    | some B => (k B).eval tm H
    | none => none
  | .ite b x y => match b with
    | true => x.eval tm H
    | false => y.eval tm H
  | .opt o k => match o with
    | some x => (k x).eval tm H
    | none => none

section
variable {tm : Nat → AV} {H : Nat → Option Blk}
theorem eval_opt {α : Type} {o : Option α} {k : α → RM} : (RM.opt o k).eval tm H = match o with
  | some x => (k x).eval tm H
  | none => none := by cases o <;> rfl
theorem eval_getH {l : Nat} {k : Blk → RM} : (RM.getH l k).eval tm H = match H l with
  | some B => (k B).eval tm H
  | none => none := by simp only [RM.eval]
theorem eval_ite {b : Bool} {x y : RM} : (RM.ite b x y).eval tm H = match b with
  | true => x.eval tm H
  | false => y.eval tm H := by cases b <;> rfl
end

/-- A scalar that the text names. -/
def avS : Value → AV
  | .bool b => .bool b
  | .int k n => .int k n
  | .string s => .str s
  | .pointer none => .nilp
  | .slice none n c => if n = 0 ∧ c = 0 then .nils else .any
  | .nilFunc => .nilfn
  | .nilIface => .errb false
  | .func (.func f) a b => if a = #[] ∧ b.toList = [] then .fn f [] else .any
  | _ => .any
def avV : Value → AV
  | .agg cs => .agg (cs.toList.map avS)
  | v => avS v
def opv (tm : Nat → AV) : Operand → AV
  | .tmp t => tm t
  | .const v => avV v
  | .func f => .fn f []
  | .global _ => .any
def rd : Operand → (AV → RM) → RM
  | .tmp t, k => .getT t k
  | .const v, k => k (avV v)
  | .func f, k => k (.fn f [])
  | .global _, k => k .any
def rds : List Operand → (List AV → RM) → RM
  | [], k => k []
  | x :: xs, k => rd x fun v => rds xs fun vs => k (v :: vs)
theorem rd_eval {tm : Nat → AV} {H : Nat → Option Blk} {x : Operand} {k : AV → RM} : (rd x k).eval tm H = (k (opv tm x)).eval tm H := by
  cases x <;> rfl
theorem rds_eval {tm : Nat → AV} {H : Nat → Option Blk} : ∀ {xs : List Operand} {k : List AV → RM}, (rds xs k).eval tm H = (k (xs.map (opv tm))).eval tm H
  | [], _ => rfl
  | x :: xs, k => by rw [rds, rd_eval, rds_eval]; rfl

section
variable {h : Hp} {φ : Lab} {w : World} {M : Nat → Prop}
theorem avS_rep : ∀ (v : Value), repV h φ w M (avS v) v
  | .bool b | .int k n | .string s | .nilFunc | .nilIface => by simp [avS, repV, errR]
  | .pointer a => by cases a <;> simp [avS, repV]
  | .slice a n c => by
    cases a with
    | some a => simp [avS, repV]
    | none =>
      simp only [avS]
      split
      · rename_i e; obtain ⟨rfl, rfl⟩ := e; simp [repV]
      · simp [repV]
  | .func f a b => by
    cases f with
    | func f =>
      simp only [avS]
      split
      · rename_i e; obtain ⟨rfl, e⟩ := e
        simp only [repV, repVs]
        exact ⟨b, rfl, e⟩
      · simp [repV]
    | _ => simp [avS, repV]
  | .float _ _ | .complex _ _ _ | .map _ | .chan _ | .iface _ _ | .agg _ | .tuple _ => by simp [avS, repV]
theorem avS_reps : ∀ (vs : List Value), repVs h φ w M (vs.map avS) vs
  | [] => rfl
  | v :: vs => ⟨v, vs, rfl, avS_rep v, avS_reps vs⟩
theorem avV_rep (v : Value) : repV h φ w M (avV v) v := by
  cases v with
  | agg cs => simp only [avV, repV]; exact ⟨cs, rfl, avS_reps _⟩
  | _ => unfold avV; exact avS_rep _
/-- The slots hold what the walk says. -/
def Tm (h : Hp) (φ : Lab) (w : World) (M : Nat → Prop) (tm : Nat → AV) (a : Act) : Prop := ∀ t, repV h φ w M (tm t) (a.tmps.getD t undef)
theorem opv_rep {tm : Nat → AV} {a : Act} (ht : Tm h φ w M tm a) (x : Operand) : repV h φ w M (opv tm x) (a.eval x) := by
  cases x with
  | tmp t => exact ht t
  | const v => exact avV_rep v
  | func f => simp only [opv, repV, repVs]; exact ⟨#[], rfl, rfl⟩
  | global g => simp [opv, repV]
theorem opvs_rep {tm : Nat → AV} {a : Act} (ht : Tm h φ w M tm a) : ∀ (xs : List Operand), repVs h φ w M (xs.map (opv tm)) (xs.map a.eval)
  | [] => rfl
  | x :: xs => ⟨_, _, rfl, opv_rep ht x, opvs_rep ht xs⟩
theorem rep_one_of : ∀ {x : AV} {v : Value}, x.one = true → repV h φ w M x v → v.oneCell' = true
  | .bool _, _, _, e | .int _ _, _, _, e | .str _, _, _, e | .nilp, _, _, e | .nils, _, _, e | .nilfn, _, _, e | .nili, _, _, e => by simp only [repV] at e; subst e; rfl
  | .err, _, _, e => by simp only [repV] at e; obtain ⟨_, _, rfl⟩ := e; rfl
  | .ptr _ _, _, _, e => by simp only [repV] at e; obtain ⟨_, _, rfl⟩ := e; rfl
  | .eptr _ _ _ _, _, _, e => by simp only [repV] at e; obtain ⟨_, _, rfl⟩ := e; rfl
  | .own _, _, _, e => by simp only [repV] at e; obtain ⟨_, _, _, rfl, _⟩ := e; rfl
  | .fz _ _, _, _, e => by simp only [repV] at e; exact sliceRep_one e
  | .fptr _ _ _ _, _, _, e => by simp only [repV] at e; obtain ⟨_, _, rfl, _⟩ := e; rfl
  | .fn _ _, _, _, e => by simp only [repV] at e; obtain ⟨_, rfl, _⟩ := e; rfl
  | .self _, _, _, e => by simp only [repV] at e; obtain ⟨_, rfl⟩ := e; rfl
  | .mapr _, _, _, e => by simp only [repV] at e; obtain ⟨_, _, rfl⟩ := e; rfl
  | .bptr _ _, _, _, e => by simp only [repV] at e; obtain ⟨_, _, _, _, _, _, rfl, _⟩ := e; rfl
  | .errb _, _, _, e => by simp only [repV] at e; exact errR_one e _ (by simp)
  | .any, _, h, _ | .agg _, _, h, _ | .tup _, _, h, _ => by cases h
theorem reps_one_of : ∀ {xs : List AV} {vs : List Value}, xs.all AV.one = true → repVs h φ w M xs vs → ∀ v ∈ vs, v.oneCell' = true
  | [], _, _, e => by simp only [repVs] at e; subst e; simp
  | x :: xs, _, h, e => by
    simp only [repVs] at e
    obtain ⟨v, vs, rfl, h1, h2⟩ := e
    simp only [List.all_cons, Bool.and_eq_true] at h
    intro u hu
    rcases List.mem_cons.1 hu with rfl | hu
    · exact rep_one_of h.1 h1
    · exact reps_one_of h.2 h2 u hu
/-- The cells of a value. -/
theorem cells_rep {x : AV} {v : Value} (h1 : x.cells.all AV.one = true) (hr : repV h φ w M x v) : repVs h φ w M x.cells v.cells.toList := by
  cases x
  case agg cs =>
    simp only [repV] at hr
    obtain ⟨a, rfl, hr⟩ := hr
    exact hr
  all_goals
    have ho : v.oneCell' = true := rep_one_of (by simpa [AV.cells] using h1) hr
    have hc : v.cells = #[v] := by cases v <;> first | rfl | cases ho
    rw [hc]
    exact ⟨v, [], rfl, hr, rfl⟩
end

/-- What an operation may come to. -/
def Comes (P : Program) (X : Nat → Prop) (h : Hp) (φ : Lab) (w : World) (v : AV) (h' : Hp) : Result Next → Prop
  | .ok (.value u) w' => ∃ φ', Post X h φ w h' φ' w' ∧ repV h' φ' w' (MB X h' φ') v u
  | .ok .skip w' => ∃ φ', Post X h φ w h' φ' w' ∧ v = .any
  | .ok (.enter g args) w0 => w0 = w ∧ Calls P g args w fun e w' => ∃ u φ', e = .returned u ∧ Post X h φ w h' φ' w' ∧ repV h' φ' w' (MB X h' φ') v u
  | _ => False
theorem comes_val {P : Program} {X : Nat → Prop} {h : Hp} {φ : Lab} {w : World} {v : AV} {u : Value} (hs : Sat X h φ w) (hr : repV h φ w (MB X h φ) v u) : Comes P X h φ w v h (.ok (.value u) w) := ⟨φ, Post.refl hs, hr⟩
end Go.Proofs.YtdfgfjnpllncdaaGreatDoor.I

namespace Go.Proofs.YtdfgfjnpllncdaaGreatDoor.I
open Go.RowKit
set_option linter.unusedVariables false

def binI (op : BinOp) (k : IntKind) (x y : Int) : RM :=
  match op with
  | .add => .ret (.int k (k.wrap (x + y))) []
  | .sub => .ret (.int k (k.wrap (x - y))) []
  | .mul => .ret (.int k (k.wrap (x * y))) []
  | .quo => .ite (decide (y = 0)) .fail (.ret (.int k (k.wrap (x.tdiv y))) [])
  | .rem => .ite (decide (y = 0)) .fail (.ret (.int k (x.tmod y)) [])
  | .and => .ret (.int k (k.wrap ((BitVec.ofInt k.bits x &&& BitVec.ofInt k.bits y).toNat : Int))) []
  | .or => .ret (.int k (k.wrap ((BitVec.ofInt k.bits x ||| BitVec.ofInt k.bits y).toNat : Int))) []
  | .xor => .ret (.int k (k.wrap ((BitVec.ofInt k.bits x ^^^ BitVec.ofInt k.bits y).toNat : Int))) []
  | .andNot => .ret (.int k (k.wrap ((BitVec.ofInt k.bits x &&& ~~~BitVec.ofInt k.bits y).toNat : Int))) []
  | .eql => .ret (.bool (decide (x = y))) []
  | .neq => .ret (.bool (!decide (x = y))) []
  | .lss => .ret (.bool (decide (x < y))) []
  | .leq => .ret (.bool (decide (x ≤ y))) []
  | .gtr => .ret (.bool (decide (y < x))) []
  | .geq => .ret (.bool (decide (y ≤ x))) []
  | _ => .fail
def binSh (op : BinOp) (k : IntKind) (x y : Int) : RM :=
  match op with
  | .shl => .ite (decide (y < 0)) .fail (.ret (.int k (k.wrap (x * 2 ^ (min y.toNat k.bits)))) [])
  | .shr => .ite (decide (y < 0)) .fail (.ret (.int k (x.fdiv (2 ^ (min y.toNat k.bits)))) [])
  | _ => .fail
/-- The order of strings. -/
def strLt (x y : ByteArray) : Bool := Op.bytesLess x.toList y.toList
def binS (op : BinOp) (x y : ByteArray) : RM :=
  match op with
  | .add => .ite (decide (9223372036854775807 < x.size + y.size)) .fail (.ret (.str (x ++ y)) [])
  | .eql => .ret (.bool (decide (x = y))) []
  | .neq => .ret (.bool (!decide (x = y))) []
  | .lss => .ret (.bool (strLt x y)) []
  | .leq => .ret (.bool (strLt x y || decide (x = y))) []
  | .gtr => .ret (.bool !(strLt x y || decide (x = y))) []
  | .geq => .ret (.bool !strLt x y) []
  | _ => .fail
def isSh : BinOp → Bool
  | .shl | .shr => true
  | _ => false
/-- Whether a value is nil; none: that is not known. -/
def isNil : AV → Option Bool
  | .nilp | .nilfn | .nils | .nili => some true
  | .errb b => some (!b)
  | .ptr _ _ | .eptr _ _ _ _ | .fptr _ _ _ _ | .fn _ _ | .err => some false
  | _ => none
def nilKind : AV → Nat
  | .nilp | .ptr _ _ | .eptr _ _ _ _ | .fptr _ _ _ _ => 1
  | .nilfn | .fn _ _ => 2
  | .nili | .err | .errb _ => 3
  | .nils => 4
  | _ => 0
def isConst : Operand → Bool
  | .const _ => true
  | _ => false
def undK (P : Program) (t : TypeId) : Nat := match P.underlying t with
  | some (.pointer _) => 1
  | some (.func _ _ _) => 2
  | some (.interface _) => 3
  | some (.slice _) => 4
  | some .bool => 5
  | _ => 0
def szOf (P : Program) (t : TypeId) : Option Nat := (P.info? t).map (·.size)
def aggOf (P : Program) (t : TypeId) : Bool := match P.underlying t with
  | some (.struct _) | some (.array _ _) => true
  | _ => false
def eqFs (P : Program) (eq : TypeId → List AV → List AV → Option Bool) (xs ys : List AV) : List Field → Option Bool
  | [] => some true
  | f :: fs => if f.name = "_" then none else match szOf P f.type with
    | none => none
    | some n => match (if (aggOf P f.type || Nat.beq n 1) = true then eq f.type ((xs.drop f.offset).take n) ((ys.drop f.offset).take n) else none) with
      | none => none
      | some a => match fs with
        | [] => some a
        | _ => match eqFs P eq xs ys fs with
          | none => none
          | some b => some (a && b)
/-- '==' of structs, cell by cell. -/
def eqStr (P : Program) : Nat → TypeId → List AV → List AV → Option Bool
  | 0, _, _, _ => none
  | n + 1, t, xs, ys => match P.underlying t with
    | some (.int _) => match xs, ys with
      | [.int k a], [.int k' b] => if k = k' then some (decide (a = b)) else none
      | _, _ => none
    | some .bool => match xs, ys with
      | [.bool a], [.bool b] => some (decide (a = b))
      | _, _ => none
    | some .string => match xs, ys with
      | [.str a], [.str b] => some (decide (a = b))
      | _, _ => none
    | some (.struct fs) => if P.stoodInHeld t = true then none else eqFs P (eqStr P n) xs ys fs.toList
    | _ => none
def binV (P : Program) (op : BinOp) (t : TypeId) (kst : Bool) (u v : AV) : RM :=
  match u, v with
  | .int k a, .int k' b => if isSh op = true then binSh op k a b else if k = k' then binI op k a b else .fail
  | .str a, .str b => binS op a b
  | .bool a, .bool b => if undK P t = 5 then match op with
      | .eql => .ret (.bool (decide (a = b))) []
      | .neq => .ret (.bool (!decide (a = b))) []
      | _ => .fail
    else .fail
  | .agg xs, .agg ys => if (P.eqGuardType P.depth t || !aggOf P t) = true then .fail else match eqStr P 20 t xs ys with
    | none => .fail
    | some r => match op with
      | .eql => .ret (.bool r) []
      | .neq => .ret (.bool !r) []
      | _ => .fail
  | u, v => match isNil u, isNil v with
    | some p, some q => if (q || p) && kst && Nat.beq (nilKind u) (nilKind v) && Nat.beq (undK P t) (nilKind u) then match op with
        | .eql => .ret (.bool (q && p)) []
        | .neq => .ret (.bool (!(q && p))) []
        | _ => .fail
      else .fail
    | _, _ => .fail
def unV (op : UnOp) (u : AV) : RM :=
  match op, u with
  | .neg, .int k n => .ret (.int k (k.wrap (0 - n))) []
  | .xor, .int k n => .ret (.int k (k.wrap ((BitVec.ofInt k.bits (if k.signed then -1 else k.max) ^^^ BitVec.ofInt k.bits n).toNat : Int))) []
  | .not, .bool b => .ret (.bool !b) []
  | _, _ => .fail

section
variable {P : Program} {X : Nat → Prop} {h : Hp} {φ : Lab} {w : World} {tm : Nat → AV} {v : AV} {ws : Hp}
/-- What a value is for which the walk has a scalar. -/
theorem ba_beq (x y : ByteArray) : (x.toList == y.toList) = decide (x = y) := by
  have : (x.toList == y.toList) = true ↔ x = y := by
    rw [beq_iff_eq]
    constructor
    · intro e
      have h : x.data.toList = y.data.toList := by rw [← Go.ByteArray.toList_eq, ← Go.ByteArray.toList_eq]; exact e
      exact ByteArray.ext (Array.ext' h)
    · rintro rfl; rfl
  by_cases e : x = y
  · rw [decide_eq_true e]; exact this.2 e
  · rw [decide_eq_false e]; exact Bool.eq_false_iff.2 fun g => e (this.1 g)
theorem binI_ok {op : BinOp} {k : IntKind} {x y : Int} (hsh : isSh op = false) (he : (binI op k x y).eval tm h.get = some (v, ws)) : ∀ t : TypeId, ws = [] ∧ ∃ u, (binOp op t (.int k x) (.int k y)).run P w = .ok u w ∧ repV h φ w (MB X h φ) v u := by
  intro t
  cases op <;> simp only [binI, RM.eval, isSh] at he hsh
  all_goals first | (cases hsh; done) | (cases he; done) | skip
  all_goals first
    | (simp only [Option.some.injEq, Prod.mk.injEq] at he
       obtain ⟨rfl, rfl⟩ := he
       refine ⟨rfl, ?_⟩
       simp only [binOp, ne_eq, not_true_eq_false, if_false, Op.intArith, Op.intBits, Op.intCmp, Sem.run_pure]
       exact ⟨_, rfl, by simp only [repV]; try rfl⟩)
    | (split at he
       · cases he
       · rename_i hy
         simp only [Option.some.injEq, Prod.mk.injEq] at he
         obtain ⟨rfl, rfl⟩ := he
         have hy : y ≠ 0 := by simpa using hy
         refine ⟨rfl, ?_⟩
         simp only [binOp, ne_eq, not_true_eq_false, if_false, Op.intDiv, hy, Sem.run_pure]
         exact ⟨_, rfl, by simp only [repV]⟩)
theorem binSh_ok {op : BinOp} {k k' : IntKind} {x y : Int} (he : (binSh op k x y).eval tm h.get = some (v, ws)) : ∀ t : TypeId, ws = [] ∧ ∃ u, (binOp op t (.int k x) (.int k' y)).run P w = .ok u w ∧ repV h φ w (MB X h φ) v u := by
  intro t
  cases op <;> simp only [binSh, RM.eval] at he
  all_goals first | (cases he; done) | skip
  all_goals
    split at he
    · cases he
    · rename_i hy
      simp only [Option.some.injEq, Prod.mk.injEq] at he
      obtain ⟨rfl, rfl⟩ := he
      have hy : ¬ y < 0 := by simpa using hy
      refine ⟨rfl, ?_⟩
      simp only [binOp, Op.shift, hy, if_false, Sem.run_pure]
      exact ⟨_, rfl, by simp only [repV]⟩
theorem binS_ok {op : BinOp} {x y : ByteArray} (hsh : isSh op = false) (he : (binS op x y).eval tm h.get = some (v, ws)) : ∀ t : TypeId, ws = [] ∧ ∃ u, (binOp op t (.string x) (.string y)).run P w = .ok u w ∧ repV h φ w (MB X h φ) v u := by
  intro t
  cases op <;> simp only [binS, RM.eval, isSh] at he hsh
  all_goals first | (cases hsh; done) | (cases he; done) | skip
  case add =>
    split at he
    · cases he
    · rename_i hy
      simp only [Option.some.injEq, Prod.mk.injEq] at he
      obtain ⟨rfl, rfl⟩ := he
      have hy' : ¬ (9223372036854775807 < x.size + y.size) := by simpa using hy
      refine ⟨rfl, ?_⟩
      have hm : ¬ (((x.size + y.size : Nat) : Int) > IntKind.i64.max) := by
        have : IntKind.i64.max = 9223372036854775807 := by decide
        rw [this]; omega
      simp only [binOp, Op.stringOp, hm, if_false, Sem.run_pure]
      exact ⟨_, rfl, by simp only [repV]⟩
  all_goals
    simp only [Option.some.injEq, Prod.mk.injEq] at he
    obtain ⟨rfl, rfl⟩ := he
    refine ⟨rfl, ?_⟩
    simp only [binOp, Op.stringOp, Sem.run_pure]
    exact ⟨_, rfl, by simp only [repV, strLt, ba_beq]⟩
theorem eqGuard_plain {op : BinOp} {t : TypeId} {x y : Operand} {a b : Value} (h1 : ∀ cs, a ≠ .agg cs) (h2 : a = .nilIface → b = .nilIface → isConst x = true ∨ isConst y = true) : (eqGuard op t x y a b).run P w = .ok () w := by
  unfold eqGuard
  split <;> simp only [Bool.not_true, Bool.not_false, Bool.false_eq_true, if_false, if_true]
  · split
    · rcases h2 rfl rfl with e | e
      · cases x <;> first | (cases e; done) | skip
        simp
      · cases y <;> first | (cases e; done) | skip
        simp
    · exact absurd rfl (h1 _)
    · rfl
  · split
    · rcases h2 rfl rfl with e | e
      · cases x <;> first | (cases e; done) | skip
        simp
      · cases y <;> first | (cases e; done) | skip
        simp
    · exact absurd rfl (h1 _)
    · rfl
  · rfl
theorem unV_ok {op : UnOp} {u : AV} {uv : Value} (hu : repV h φ w (MB X h φ) u uv) (he : (unV op u).eval tm h.get = some (v, ws)) : ws = [] ∧ ∃ r, (Op.unary op uv).run P w = .ok r w ∧ repV h φ w (MB X h φ) v r := by
  unfold unV at he
  split at he <;> simp only [RM.eval] at he
  case h_4 => cases he
  all_goals
    simp only [Option.some.injEq, Prod.mk.injEq] at he
    obtain ⟨rfl, rfl⟩ := he
    simp only [repV] at hu
    subst hu
    refine ⟨rfl, ?_⟩
    simp only [Op.unary, Op.intArith, Op.intBits, Sem.run_pure]
    exact ⟨_, rfl, by simp only [repV]⟩

/-- What is nil, and of which kind. -/
theorem nil_rep {u : AV} {uv : Value} {p : Bool} (hu : repV h φ w (MB X h φ) u uv) (hp : isNil u = some p) :
    (∀ cs, uv ≠ .agg cs) ∧ ((nilKind u = 1 ∧ ∃ a : Option Addr, uv = .pointer a ∧ a.isNone = p) ∨ (nilKind u = 2 ∧ (if p then uv = .nilFunc else ∃ f a b, uv = .func f a b)) ∨ (nilKind u = 3 ∧ (if p then uv = .nilIface else ∃ t x, uv = .iface t x)) ∨ (nilKind u = 4 ∧ p = true ∧ uv = .slice none 0 0)) := by
  cases u <;> simp only [isNil, Option.some.injEq, reduceCtorEq] at hp <;> subst hp <;> simp only [repV] at hu
  case nilp => subst hu; exact ⟨by simp, .inl ⟨rfl, none, rfl, rfl⟩⟩
  case ptr => obtain ⟨b, _, rfl⟩ := hu; exact ⟨by simp, .inl ⟨rfl, _, rfl, rfl⟩⟩
  case nils => subst hu; exact ⟨by simp, .inr (.inr (.inr ⟨rfl, rfl, rfl⟩))⟩
  case eptr => obtain ⟨b, _, rfl⟩ := hu; exact ⟨by simp, .inl ⟨rfl, _, rfl, rfl⟩⟩
  case fptr => obtain ⟨_, ad, rfl, _⟩ := hu; exact ⟨by simp, .inl ⟨rfl, _, rfl, rfl⟩⟩
  case fn => obtain ⟨cs, rfl, _⟩ := hu; exact ⟨by simp, .inr (.inl ⟨rfl, by simp⟩)⟩
  case nilfn => subst hu; exact ⟨by simp, .inr (.inl ⟨rfl, by simp⟩)⟩
  case nili => subst hu; exact ⟨by simp, .inr (.inr (.inl ⟨rfl, by simp⟩))⟩
  case errb b =>
    cases b with
    | true => obtain ⟨t, x, h⟩ := hu; injection h with h; subst h; exact ⟨by simp, .inr (.inr (.inl ⟨rfl, by simp⟩))⟩
    | false => simp only [errR, List.cons.injEq, and_true] at hu; subst hu; exact ⟨by simp, .inr (.inr (.inl ⟨rfl, by simp⟩))⟩
  case err => obtain ⟨t, x, rfl⟩ := hu; exact ⟨by simp, .inr (.inr (.inl ⟨rfl, by simp⟩))⟩
theorem undK_cases (P : Program) (t : TypeId) : (undK P t = 1 ∧ ∃ e, P.underlying t = some (.pointer e)) ∨ (undK P t = 2 ∧ ∃ x y z, P.underlying t = some (.func x y z)) ∨ (undK P t = 3 ∧ ∃ m, P.underlying t = some (.interface m)) ∨ (undK P t = 4 ∧ ∃ e, P.underlying t = some (.slice e)) ∨ (undK P t = 5 ∧ P.underlying t = some .bool) ∨ undK P t = 0 := by
  unfold undK
  split
  · exact .inl ⟨rfl, _, by assumption⟩
  · exact .inr (.inl ⟨rfl, _, _, _, by assumption⟩)
  · exact .inr (.inr (.inl ⟨rfl, _, by assumption⟩))
  · exact .inr (.inr (.inr (.inl ⟨rfl, _, by assumption⟩)))
  · exact .inr (.inr (.inr (.inr (.inl ⟨rfl, by assumption⟩))))
  · exact .inr (.inr (.inr (.inr (.inr rfl))))
theorem equal_nil {t : TypeId} {a b : Value} {r : Bool} (h : ∀ d, (Op.equalIn (d + 1) t a b).run P w = .ok r w) : (Op.equal t a b).run P w = .ok r w := h 9999
theorem binNil {u v' : AV} {uv vv : Value} {t : TypeId} {p q : Bool} (hu : repV h φ w (MB X h φ) u uv) (hv : repV h φ w (MB X h φ) v' vv) (hp : isNil u = some p) (hq : isNil v' = some q) (hk : nilKind u = nilKind v') (ht : undK P t = nilKind u) (hpq : (p || q) = true) :
    (Op.equal t uv vv).run P w = .ok (p && q) w := by
  refine equal_nil fun d => ?_
  unfold Op.equalIn
  obtain ⟨-, h1⟩ := nil_rep hu hp
  obtain ⟨-, h2⟩ := nil_rep hv hq
  have hund : ∃ D, P.underlying t = some D ∧ ((nilKind u = 1 ∧ ∃ e, D = .pointer e) ∨ (nilKind u = 2 ∧ ∃ x y z, D = .func x y z) ∨ (nilKind u = 3 ∧ ∃ m, D = .interface m) ∨ (nilKind u = 4 ∧ ∃ e, D = .slice e)) := by
    rw [← ht]
    have hpos : undK P t ≠ 0 ∧ undK P t ≠ 5 := by rw [ht]; rcases h1 with ⟨e, _⟩ | ⟨e, _⟩ | ⟨e, _⟩ | ⟨e, _⟩ <;> rw [e] <;> decide
    rcases undK_cases P t with ⟨e, x, hx⟩ | ⟨e, x, y, z, hx⟩ | ⟨e, x, hx⟩ | ⟨e, x, hx⟩ | ⟨e, _⟩ | e
    · exact ⟨_, hx, .inl ⟨e, x, rfl⟩⟩
    · exact ⟨_, hx, .inr (.inl ⟨e, x, y, z, rfl⟩)⟩
    · exact ⟨_, hx, .inr (.inr (.inl ⟨e, x, rfl⟩))⟩
    · exact ⟨_, hx, .inr (.inr (.inr ⟨e, x, rfl⟩))⟩
    · exact absurd e hpos.2
    · exact absurd e hpos.1
  obtain ⟨D, hD, hD2⟩ := hund
  rw [Sem.run_bind, run_underlying hD, Result.andThen_ok]
  rcases h1 with ⟨e, a, rfl, ha⟩ | ⟨e, hx⟩ | ⟨e, hx⟩ | ⟨e, rfl, rfl⟩
  · rcases h2 with ⟨e', b, rfl, hb⟩ | ⟨e', _⟩ | ⟨e', _⟩ | ⟨e', _⟩ <;> try omega
    rcases hD2 with ⟨_, t', rfl⟩ | ⟨e2, _⟩ | ⟨e2, _⟩ | ⟨e2, _⟩ <;> try omega
    cases a <;> cases b <;> simp_all <;> (subst ha hb; rfl)
  · rcases h2 with ⟨e', _⟩ | ⟨e', hy⟩ | ⟨e', _⟩ | ⟨e', _⟩ <;> try omega
    rcases hD2 with ⟨e2, _⟩ | ⟨_, x, y, z, rfl⟩ | ⟨e2, _⟩ | ⟨e2, _⟩ <;> try omega
    cases p <;> cases q <;> simp at hx hy hpq
    · obtain ⟨f, a, b, rfl⟩ := hx; subst hy; rfl
    · obtain ⟨f, a, b, rfl⟩ := hy; subst hx; rfl
    · subst hx hy; rfl
  · rcases h2 with ⟨e', _⟩ | ⟨e', _⟩ | ⟨e', hy⟩ | ⟨e', _⟩ <;> try omega
    rcases hD2 with ⟨e2, _⟩ | ⟨e2, _⟩ | ⟨_, m, rfl⟩ | ⟨e2, _⟩ <;> try omega
    cases p <;> cases q <;> simp at hx hy hpq
    · obtain ⟨f, a, rfl⟩ := hx; subst hy; rfl
    · obtain ⟨f, a, rfl⟩ := hy; subst hx; rfl
    · subst hx hy; rfl
  · rcases h2 with ⟨e', _⟩ | ⟨e', _⟩ | ⟨e', _⟩ | ⟨e', rfl, rfl⟩ <;> try omega
    rcases hD2 with ⟨e2, _⟩ | ⟨e2, _⟩ | ⟨e2, _⟩ | ⟨_, t', rfl⟩ <;> try omega
    rfl

def valOf (g : Bool) (cs : List Value) : Value := if g then .agg cs.toArray else cs.headD undef
theorem run_isAgg {t : TypeId} {d : TypeDesc} (hu : P.underlying t = some d) (w : World) : (isAgg t).run P w = .ok (aggOf P t) w := by
  unfold isAgg aggOf
  rw [Sem.run_bind, run_underlying hu, Result.andThen_ok, hu]
  cases d <;> rfl
theorem run_sizeOf {t : TypeId} {n : Nat} (hs : szOf P t = some n) (w : World) : (sizeOf t).run P w = .ok n w := by
  unfold szOf at hs
  cases hi : P.info? t with
  | none => rw [hi] at hs; cases hs
  | some i =>
    rw [hi] at hs
    simp only [Option.map_some, Option.some.injEq] at hs
    simp [sizeOf, typeInfo, hi, hs]
/-- A part of a struct. -/
theorem run_part {t : TypeId} {d : TypeDesc} {n : Nat} (hu : P.underlying t = some d) (hs : szOf P t = some n) (cs : Array Value) (off : Nat) (h1 : aggOf P t = false → off < cs.size ∧ n = 1) (w : World) :
    (part t cs off).run P w = .ok (valOf (aggOf P t) ((cs.toList.drop off).take n)) w := by
  unfold part
  rw [Sem.run_bind, run_isAgg hu, Result.andThen_ok]
  cases hg : aggOf P t with
  | true =>
    simp only [if_true, Sem.run_bind, run_sizeOf hs, Result.andThen_ok, Sem.run_pure, valOf]
    congr 2
    apply Array.ext'
    rw [Array.toList_extract, List.extract_eq_take_drop]
    simp
  | false =>
    obtain ⟨h2, rfl⟩ := h1 hg
    simp only [Bool.false_eq_true, if_false, Array.getElem?_eq_getElem h2, Sem.run_pure, valOf]
    congr 1
    rw [List.drop_eq_getElem_cons (by simpa using h2)]
    simp
theorem eqFs_ok {n : Nat} (ih : ∀ {t : TypeId} {xs ys : List AV} {aas bs : List Value} {r : Bool}, eqStr P n t xs ys = some r → repVs h φ w (MB X h φ) xs aas → repVs h φ w (MB X h φ) ys bs →
      (∃ d, P.underlying t = some d) ∧ (aggOf P t = false → aas.length = 1 ∧ bs.length = 1) ∧ ∀ d, (Op.equalIn (n + d) t (valOf (aggOf P t) aas) (valOf (aggOf P t) bs)).run P w = .ok r w) {xs ys : List AV} {aas bs : Array Value} (hx : repVs h φ w (MB X h φ) xs aas.toList) (hy : repVs h φ w (MB X h φ) ys bs.toList) (d : Nat) :
    ∀ {fs : List Field} {r : Bool}, eqFs P (eqStr P n) xs ys fs = some r → (Op.eqFields (n + d) aas bs fs).run P w = .ok r w
  | [], r, e => by
    simp only [eqFs, Option.some.injEq] at e
    subst e; rfl
  | f :: fs, r, e => by
    simp only [eqFs] at e
    split at e
    · cases e
    · rename_i hn
      split at e
      · cases e
      · rename_i m hm
        split at e
        · cases e
        · rename_i a ha
          split at ha
          case isFalse => cases ha
          rename_i hcond
          obtain ⟨⟨dd, hd⟩, h1, h2⟩ := ih ha (repVs_take m (repVs_drop f.offset hx)) (repVs_take m (repVs_drop f.offset hy))
          have hlen : ∀ cs : Array Value, aggOf P f.type = false → ((cs.toList.drop f.offset).take m).length = 1 → f.offset < cs.size := fun cs hg hl => by
            simp at hl; omega
          have hm1 : aggOf P f.type = false → m = 1 := fun hg => by
            rw [hg, Bool.false_or] at hcond
            exact Nat.eq_of_beq_eq_true hcond
          simp only [Op.eqFields, ne_eq, hn, not_false_eq_true, if_true, Sem.run_bind]
          rw [run_part hd hm aas f.offset (fun hg => ⟨hlen aas hg (h1 hg).1, hm1 hg⟩), Result.andThen_ok]
          rw [run_part hd hm bs f.offset (fun hg => ⟨hlen bs hg (h1 hg).2, hm1 hg⟩), Result.andThen_ok, h2 d, Result.andThen_ok]
          cases a with
          | false =>
            simp only [Bool.not_false, if_true, Sem.run_pure]
            split at e
            · injection e with e; subst e; rfl
            · split at e
              · cases e
              · injection e with e; subst e; rfl
          | true =>
            simp only [Bool.not_true, Bool.false_eq_true, if_false]
            split at e
            · injection e with e; subst e; rfl
            · split at e
              · cases e
              · rename_i b hb
                injection e with e
                subst e
                exact eqFs_ok ih hx hy d hb
theorem eqStr_ok : ∀ {n : Nat} {t : TypeId} {xs ys : List AV} {aas bs : List Value} {r : Bool}, eqStr P n t xs ys = some r → repVs h φ w (MB X h φ) xs aas → repVs h φ w (MB X h φ) ys bs →
      (∃ d, P.underlying t = some d) ∧ (aggOf P t = false → aas.length = 1 ∧ bs.length = 1) ∧ ∀ d, (Op.equalIn (n + d) t (valOf (aggOf P t) aas) (valOf (aggOf P t) bs)).run P w = .ok r w
  | 0, _, _, _, _, _, _, e, _, _ => by cases e
  | n + 1, t, xs, ys, aas, bs, r, e, hx, hy => by
    simp only [eqStr] at e
    have hsc : ∀ {x y : AV}, xs = [x] → ys = [y] → ∃ u v, aas = [u] ∧ bs = [v] ∧ repV h φ w (MB X h φ) x u ∧ repV h φ w (MB X h φ) y v := by
      rintro x y rfl rfl
      obtain ⟨u, _, e1, h1, rfl⟩ := hx
      obtain ⟨v, _, e2, h2, rfl⟩ := hy
      exact ⟨u, v, e1, e2, h1, h2⟩
    split at e
    · rename_i k hu
      have hg : aggOf P t = false := by unfold aggOf; rw [hu]
      refine ⟨⟨_, hu⟩, ?_⟩
      split at e
      · split at e
        · rename_i k1 a k2 b hk
          subst hk
          obtain ⟨u, v, rfl, rfl, h1, h2⟩ := hsc rfl rfl
          simp only [repV] at h1 h2
          subst h1 h2
          injection e with e
          subst e
          refine ⟨fun _ => ⟨rfl, rfl⟩, fun d => ?_⟩
          rw [hg, show n + 1 + d = (n + d) + 1 by omega]
          simp only [valOf, Bool.false_eq_true, if_false, List.headD_cons]
          rw [run_equalIn_int w (n + d) t k1 k a b hu]
          rfl
        · cases e
      · cases e
    · rename_i hu
      have hg : aggOf P t = false := by unfold aggOf; rw [hu]
      refine ⟨⟨_, hu⟩, ?_⟩
      split at e
      · rename_i a b
        obtain ⟨u, v, rfl, rfl, h1, h2⟩ := hsc rfl rfl
        simp only [repV] at h1 h2
        subst h1 h2
        injection e with e
        subst e
        refine ⟨fun _ => ⟨rfl, rfl⟩, fun d => ?_⟩
        rw [hg, show n + 1 + d = (n + d) + 1 by omega]
        simp only [valOf, Bool.false_eq_true, if_false, List.headD_cons]
        rw [run_equalIn_bool' w (n + d) t a b hu]
        congr 1
      · cases e
    · rename_i hu
      have hg : aggOf P t = false := by unfold aggOf; rw [hu]
      refine ⟨⟨_, hu⟩, ?_⟩
      split at e
      · rename_i a b
        obtain ⟨u, v, rfl, rfl, h1, h2⟩ := hsc rfl rfl
        simp only [repV] at h1 h2
        subst h1 h2
        injection e with e
        subst e
        refine ⟨fun _ => ⟨rfl, rfl⟩, fun d => ?_⟩
        rw [hg, show n + 1 + d = (n + d) + 1 by omega]
        simp only [valOf, Bool.false_eq_true, if_false, List.headD_cons]
        rw [run_equalIn_string w (n + d) t a b hu, ba_beq]
      · cases e
    · rename_i fs hu
      have hg : aggOf P t = true := by unfold aggOf; rw [hu]
      refine ⟨⟨_, hu⟩, (fun hf => absurd hf (by rw [hg]; simp)), fun d => ?_⟩
      split at e
      · cases e
      · rename_i hst
        have hf : P.fieldsOf t = fs := by unfold Program.fieldsOf; rw [hu]
        rw [hg, show n + 1 + d = (n + d) + 1 by omega]
        simp only [valOf, if_true]
        rw [run_equalIn_struct w (n + d) t _ _ (by rw [hf]; exact hu) (by simpa using hst), hf]
        exact eqFs_ok (aas := aas.toArray) (bs := bs.toArray) (fun e1 h1 h2 => eqStr_ok e1 h1 h2) (by simpa using hx) (by simpa using hy) d e
    · cases e
theorem binV_ok {op : BinOp} {t : TypeId} {x y : Operand} {u v' : AV} {uv vv : Value} (hu : repV h φ w (MB X h φ) u uv) (hv : repV h φ w (MB X h φ) v' vv) (he : (binV P op t (isConst x || isConst y) u v').eval tm h.get = some (v, ws)) :
    ws = [] ∧ ∃ r, (do eqGuard op t x y uv vv; binOp op t uv vv : Sem Value).run P w = .ok r w ∧ repV h φ w (MB X h φ) v r := by
  unfold binV at he
  split at he
  · rename_i k a k' b
    simp only [repV] at hu hv
    subst hu hv
    rw [Sem.run_bind, eqGuard_plain (by simp) (by simp), Result.andThen_ok]
    split at he
    · exact binSh_ok he t
    · split at he
      · rename_i hs hkk
        subst hkk
        exact binI_ok (by simpa using hs) he t
      · cases he
  · simp only [repV] at hu hv
    subst hu hv
    rw [Sem.run_bind, eqGuard_plain (by simp) (by simp), Result.andThen_ok]
    refine binS_ok ?_ he t
    cases op <;> first | rfl | (simp [binS, RM.eval] at he)
  · rename_i a b
    simp only [repV] at hu hv
    subst hu hv
    rw [Sem.run_bind, eqGuard_plain (by simp) (by simp), Result.andThen_ok]
    split at he
    · rename_i h5
      have hb : P.underlying t = some .bool := by
        rcases undK_cases P t with ⟨e, _⟩ | ⟨e, _⟩ | ⟨e, _⟩ | ⟨e, _⟩ | ⟨_, e⟩ | e <;> first | exact e | omega
      split at he <;> simp only [RM.eval] at he
      · simp only [Option.some.injEq, Prod.mk.injEq] at he
        obtain ⟨rfl, rfl⟩ := he
        refine ⟨rfl, .bool (decide (a = b)), ?_, by simp only [repV]⟩
        have := run_equalIn_bool' (P := P) w 9999 t a b hb
        simp only [binOp, Op.equal, Op.maxDepth, Sem.run_bind, this, Result.andThen_ok, Sem.run_pure]
        congr 1
      · simp only [Option.some.injEq, Prod.mk.injEq] at he
        obtain ⟨rfl, rfl⟩ := he
        refine ⟨rfl, .bool (!decide (a = b)), ?_, by simp only [repV]⟩
        have := run_equalIn_bool' (P := P) w 9999 t a b hb
        simp only [binOp, Op.equal, Op.maxDepth, Sem.run_bind, this, Result.andThen_ok, Sem.run_pure]
        congr 1
      · cases he
    · cases he
  · rename_i xs ys
    simp only [repV] at hu hv
    obtain ⟨aas, rfl, hu⟩ := hu
    obtain ⟨bs, rfl, hv⟩ := hv
    split at he
    · cases he
    · rename_i hg
      split at he
      · cases he
      · rename_i r hr
        obtain ⟨⟨d, hd⟩, h1, h2⟩ := eqStr_ok hr hu hv
        have h3 := h2 9980
        have hg : P.eqGuardType P.depth t = false ∧ aggOf P t = true := by simpa using hg
        have ha := hg.2
        have hg := hg.1
        rw [ha] at h3
        simp only [valOf, if_true, Array.toArray_toList] at h3
        rw [Sem.run_bind, run_eqGuard_agg w op t x y aas bs hg, Result.andThen_ok]
        split at he <;> simp only [RM.eval] at he
        · simp only [Option.some.injEq, Prod.mk.injEq] at he
          obtain ⟨rfl, rfl⟩ := he
          exact ⟨rfl, .bool r, by rw [run_eql_struct, h3]; rfl, by simp only [repV]⟩
        · simp only [Option.some.injEq, Prod.mk.injEq] at he
          obtain ⟨rfl, rfl⟩ := he
          exact ⟨rfl, .bool (!r), by rw [run_neq_struct, h3]; rfl, by simp only [repV]⟩
        · cases he
  · split at he
    · rename_i p q hp hq
      split at he
      · rename_i hc
        simp only [Bool.and_eq_true] at hc
        obtain ⟨⟨⟨hpq, hk⟩, hn⟩, ht⟩ := hc
        have hn := Nat.eq_of_beq_eq_true hn
        have ht := Nat.eq_of_beq_eq_true ht
        have heq := binNil (P := P) (t := t) hu hv hp hq hn ht (by rw [Bool.or_comm]; exact hpq)
        rw [Bool.and_comm] at heq
        have hno := nil_rep hu hp
        rw [Sem.run_bind, eqGuard_plain hno.1 (fun _ _ => by simpa using hk), Result.andThen_ok]
        have hb : ∀ o : BinOp, (o = .eql ∨ o = .neq) → (binOp o t uv vv).run P w = ((Op.equal t uv vv).run P w).andThen fun b w' => .ok (.bool (if o = .eql then b else !b)) w' := by
          intro o ho
          have hno' := nil_rep hv hq
          rcases hno.2 with ⟨e, a, rfl, _⟩ | ⟨e, hx⟩ | ⟨e, hx⟩ | ⟨e, _, rfl⟩ <;> rcases hno'.2 with ⟨e', b, rfl, _⟩ | ⟨e', hy⟩ | ⟨e', hy⟩ | ⟨e', _, rfl⟩ <;> first | omega | skip
          · rcases ho with rfl | rfl <;> simp [binOp]
          · have hx : uv = .nilFunc ∨ ∃ f a b, uv = .func f a b := by cases p <;> simp at hx <;> simp [hx]
            have hy : vv = .nilFunc ∨ ∃ f a b, vv = .func f a b := by cases q <;> simp at hy <;> simp [hy]
            rcases hx with rfl | ⟨_, _, _, rfl⟩ <;> rcases hy with rfl | ⟨_, _, _, rfl⟩ <;> rcases ho with rfl | rfl <;> simp [binOp]
          · have hx : uv = .nilIface ∨ ∃ t x, uv = .iface t x := by cases p <;> simp at hx <;> simp [hx]
            have hy : vv = .nilIface ∨ ∃ t x, vv = .iface t x := by cases q <;> simp at hy <;> simp [hy]
            rcases hx with rfl | ⟨_, _, rfl⟩ <;> rcases hy with rfl | ⟨_, _, rfl⟩ <;> rcases ho with rfl | rfl <;> simp [binOp]
          · rcases ho with rfl | rfl <;> simp [binOp]
        split at he <;> simp only [RM.eval] at he
        · simp only [Option.some.injEq, Prod.mk.injEq] at he
          obtain ⟨rfl, rfl⟩ := he
          exact ⟨rfl, .bool (q && p), by rw [hb _ (.inl rfl), heq]; rfl, by simp only [repV]⟩
        · simp only [Option.some.injEq, Prod.mk.injEq] at he
          obtain ⟨rfl, rfl⟩ := he
          exact ⟨rfl, .bool (!(q && p)), by rw [hb _ (.inr rfl), heq]; rfl, by simp only [repV]⟩
        · cases he
      · cases he
    · cases he
end
end Go.Proofs.YtdfgfjnpllncdaaGreatDoor.I

namespace Go.Proofs.YtdfgfjnpllncdaaGreatDoor.I
open Go.RowKit
set_option linter.unusedVariables false

theorem cell_blk {w : World} {b off : Nat} {c : Array Value} {t : TypeId} {fr : Nat × Nat} (hb : w.heap[b]? = some (.cells c t fr)) : w.cell? ⟨b, off, none⟩ = c[off]? := by
  simp [World.cell?, hb]
theorem frozen_blk {w : World} {b off : Nat} {c : Array Value} {t : TypeId} {fr : Nat × Nat} (hb : w.heap[b]? = some (.cells c t fr)) (hf : frFree fr c.size) (ho : off < c.size) : w.frozen? ⟨b, off, none⟩ = false := by
  obtain ⟨lo, hi⟩ := fr
  simp only [World.frozen?, hb]
  unfold frFree at hf
  simp only at hf
  simp only [Bool.and_eq_false_iff, decide_eq_false_iff_not]
  omega
/-- What a store of cells leaves. -/
structure Stored (w w' : World) (b off : Nat) (vs : List Value) (c : Array Value) (t : TypeId) (fr : Nat × Nat) : Prop where
  rest : w'.os = w.os ∧ w'.tape = w.tape ∧ w'.output = w.output
  size : w'.heap.size = w.heap.size
  same : ∀ k, k ≠ b → w'.heap[k]? = w.heap[k]?
  new : ∃ c', w'.heap[b]? = some (.cells c' t fr) ∧ c'.size = c.size ∧ c'.toList = c.toList.take off ++ vs ++ c.toList.drop (off + vs.length)
theorem setCells_stored (b : Nat) (t : TypeId) (fr : Nat × Nat) : ∀ (vs : List Value) (off : Nat) (w : World) (c : Array Value), w.heap[b]? = some (.cells c t fr) → off + vs.length ≤ c.size → Stored w (w.setCells b off vs) b off vs c t fr
  | [], off, w, c, hb, hl => ⟨⟨rfl, rfl, rfl⟩, rfl, fun _ _ => rfl, c, hb, rfl, by simp⟩
  | v :: vs, off, w, c, hb, hl => by
    simp only [List.length_cons] at hl
    have hb1 : (w.setCell ⟨b, off, none⟩ v).heap[b]? = some (.cells (c.setIfInBounds off v) t fr) := by
      simp [World.setCell, Array.getElem?_modify, hb]
    have h1 := setCells_stored b t fr vs (off + 1) (w.setCell ⟨b, off, none⟩ v) (c.setIfInBounds off v) hb1 (by simp; omega)
    have hs : ∀ k, k ≠ b → (w.setCell ⟨b, off, none⟩ v).heap[k]? = w.heap[k]? := fun k hk => by
      simp only [World.setCell, Array.getElem?_modify]
      rw [if_neg (fun e => hk e.symm)]
    refine ⟨h1.rest, ?_, fun k hk => ?_, ?_⟩
    · rw [World.setCells, h1.size]; simp [World.setCell]
    · rw [World.setCells, h1.same k hk, hs k hk]
    · obtain ⟨c', h2, h3, h4⟩ := h1.new
      refine ⟨c', h2, by rw [h3]; simp, ?_⟩
      rw [h4, Array.toList_setIfInBounds, list_seg_step c.toList off v vs (by simp; omega)]
      simp
theorem run_storeCells_blk {P : Program} {w : World} {b off : Nat} {c : Array Value} {t : TypeId} {fr : Nat × Nat} {vs : List Value} (hb : w.heap[b]? = some (.cells c t fr)) (hf : frFree fr c.size) (hl : off + vs.length ≤ c.size) (h1 : ∀ v ∈ vs, v.oneCell' = true) :
    (storeCells ⟨b, off, none⟩ vs).run P w = .ok () (w.setCells b off vs) := by
  have := run_storeCells_cells (P := P) b off vs 0 w (fun j hj => by
    rw [Nat.add_zero, cell_blk hb, Array.getElem?_eq_getElem (by omega)]; rfl) (fun j hj => by rw [Nat.add_zero]; exact frozen_blk hb hf (by omega)) h1
  simpa using this
theorem run_loadVar_blk {P : Program} {w : World} {b off n : Nat} {c : Array Value} {tt t : TypeId} {fr : Nat × Nat} {d : TypeDesc} (hb : w.heap[b]? = some (.cells c tt fr)) (hu : P.underlying t = some d) (hs : szOf P t = some n)
    (hn : aggOf P t = false → n = 1) (hl : off + n ≤ c.size) : (loadVar t ⟨b, off, none⟩).run P w = .ok (valOf (aggOf P t) ((c.toList.drop off).take n)) w := by
  have hlen : ((c.toList.drop off).take n).length = n := by simp; omega
  unfold loadVar
  rw [Sem.run_bind, run_isAgg hu, Result.andThen_ok]
  cases hg : aggOf P t with
  | true =>
    simp only [if_true, Sem.run_bind, run_sizeOf hs, Result.andThen_ok, valOf]
    have := run_loadCells_list (P := P) w ⟨b, off, none⟩ ((c.toList.drop off).take n) (fun j v hv => by
      rw [Addr.add_lit, cell_blk hb]
      rw [List.getElem?_take] at hv
      split at hv
      · rw [List.getElem?_drop] at hv; simpa using hv
      · cases hv)
    rw [hlen] at this
    rw [this, Result.andThen_ok, Sem.run_pure]
  | false =>
    obtain rfl := hn hg
    simp only [Bool.false_eq_true, if_false, valOf, run_load, cell_blk hb]
    rw [Array.getElem?_eq_getElem (by omega)]
    simp only
    congr 1
    rw [List.drop_eq_getElem_cons (by simp; omega)]
    simp
theorem hasU {P : Program} {t : TypeId} (h : (P.underlying t).isSome = true) : ∃ d, P.underlying t = some d := Option.isSome_iff_exists.1 h

def mkV (g : Bool) (cs : List AV) : AV := match g with
  | true => .agg cs
  | false => cs.headD .any
theorem mkV_rep {h : Hp} {φ : Lab} {w : World} {M : Nat → Prop} {cs : List AV} {vs : List Value} {g : Bool} (hr : repVs h φ w M cs vs) (hg : g = false → vs ≠ []) : repV h φ w M (mkV g cs) (valOf g vs) := by
  cases g with
  | true => simp only [mkV, valOf, if_true, repV]; exact ⟨_, rfl, by simpa using hr⟩
  | false =>
    simp only [mkV, valOf, Bool.false_eq_true, if_false]
    cases cs with
    | nil => simp only [repVs] at hr; exact absurd hr (hg rfl)
    | cons c cs =>
      simp only [repVs] at hr
      obtain ⟨v, vs', rfl, h1, _⟩ := hr
      exact h1

/-- The cells of a variable, read. -/
def cut (g : Bool) (cs : List AV) (off n : Nat) : RM := match Nat.ble (off + n) cs.length with
  | true => .ret (mkV g ((cs.drop off).take n)) []
  | false => .fail
def oLoad (P : Program) (t : TypeId) (a : Operand) : RM :=
  match szOf P t with
  | none => .fail
  | some n => match (P.underlying t).isSome && (aggOf P t || Nat.beq n 1) && Nat.ble 1 n with
    | false => .fail
    | true => rd a fun v => match v with
      | .ptr l off => .getH l fun B => match B with
        | .var cs => cut (aggOf P t) cs off n
        | _ => .fail
      | .eptr l i wd off => .getH l fun B => match B with
        | .arr e xs _ => match Nat.beq wd e.wd with
          | true => .opt xs[i]? fun x => cut (aggOf P t) (e.av x) off n
          | false => .fail
        | _ => .fail
      | .fptr e xs i off => .opt xs[i]? fun x => cut (aggOf P t) (e.av x) off n
      | .bptr l off => cut (aggOf P t) [.ptr l off] 0 n
      | _ => .fail

section
variable {P : Program} {X : Nat → Prop} {h : Hp} {φ : Lab} {w : World} {tm : Nat → AV} {v : AV} {ws : Hp} {a : Act} {o : Oper}
theorem cut_ok {g : Bool} {cs : List AV} {off n : Nat} (he : (cut g cs off n).eval tm h.get = some (v, ws)) : ws = [] ∧ v = mkV g ((cs.drop off).take n) ∧ off + n ≤ cs.length := by
  unfold cut at he
  split at he
  · rename_i hb
    simp only [RM.eval, Option.some.injEq, Prod.mk.injEq] at he
    exact ⟨he.2.symm, he.1.symm, Nat.le_of_ble_eq_true hb⟩
  · cases he
theorem oLoad_run (hs : Sat X h φ w) (ht : Tm h φ w (MB X h φ) tm a) {t : TypeId} {x : Operand} (he : (oLoad P t x).eval tm h.get = some (v, ws)) : ∃ ad u, a.eval x = .pointer (some ad) ∧ (loadVar t ad).run P w = .ok u w ∧ repV h φ w (MB X h φ) v u ∧ ws = [] := by
  unfold oLoad at he
  split at he
  · cases he
  · rename_i n hn
    split at he
    · cases he
    · rename_i hc
      simp only [Bool.and_eq_true] at hc
      obtain ⟨⟨hc1, hc2⟩, hc3⟩ := hc
      have hc3 := Nat.le_of_ble_eq_true hc3
      obtain ⟨d, hd⟩ := hasU hc1
      have hn1 : aggOf P t = false → n = 1 := fun hg => by rw [hg, Bool.false_or] at hc2; exact Nat.eq_of_beq_eq_true hc2
      rw [rd_eval] at he
      have hx := opv_rep ht x
      have fin : ∀ {b off : Nat} {c : Array Value} {tt : TypeId} {fr : Nat × Nat} {cs : List AV} {us : List Value} {k o' : Nat}, a.eval x = .pointer (some ⟨b, off, none⟩) → w.heap[b]? = some (.cells c tt fr) → off = k + o' → us <+: c.toList.drop k → k ≤ c.size → repVs h φ w (MB X h φ) cs us →
          (cut (aggOf P t) cs o' n).eval tm h.get = some (v, ws) → ∃ ad u, a.eval x = .pointer (some ad) ∧ (loadVar t ad).run P w = .ok u w ∧ repV h φ w (MB X h φ) v u ∧ ws = [] := by
        intro b off c tt fr cs us k o' hp hb hoff hus hk hu2 hcut
        obtain ⟨rest, hrest⟩ := hus
        obtain ⟨rfl, rfl, hlen⟩ := cut_ok hcut
        have hl1 := repVs_len hu2
        have hl2 : off + n ≤ c.size := by
          have : (us ++ rest).length = (c.toList.drop k).length := by rw [hrest]
          simp at this
          omega
        have hrun := run_loadVar_blk hb hd hn hn1 hl2
        have heq : (c.toList.drop off).take n = (us.drop o').take n := by
          rw [hoff, ← List.drop_drop, ← hrest, List.drop_append, List.take_append]
          have e1 : n - (us.drop o').length = 0 := by simp; omega
          rw [e1]; simp
        rw [heq] at hrun
        refine ⟨_, _, hp, hrun, mkV_rep (repVs_take n (repVs_drop o' hu2)) (fun hg => ?_), rfl⟩
        have := hn1 hg
        intro e
        have e2 : ((us.drop o').take n).length = n := by simp; omega
        rw [e] at e2; simp at e2; omega
      split at he
      · rename_i l off hv
        rw [hv] at hx
        simp only [repV] at hx
        obtain ⟨b, hb, hx⟩ := hx
        simp only [RM.eval] at he
        split at he
        · rename_i B hB
          split at he
          · rename_i cs
            obtain ⟨b', c, tt, fr, h1, h2, h3, h4, h5⟩ := hs.blk l _ hB
            rw [hb] at h1; injection h1 with h1; subst h1
            exact fin (k := 0) (us := c.toList) hx h2 (by omega) (by simp) (by omega) h4 he
          · cases he
        · cases he
      · rename_i l i wd off hv
        rw [hv] at hx
        simp only [repV] at hx
        obtain ⟨b, hb, hx⟩ := hx
        simp only [RM.eval] at he
        split at he
        · rename_i B hB
          split at he
          · rename_i e xs o'
            split at he
            · rename_i hw
              have hw := Nat.eq_of_beq_eq_true hw
              subst hw
              rw [eval_opt] at he
              split at he
              · rename_i y hy
                rcases hs.blk l _ hB with ⟨h1, _⟩ | ⟨b', c, tt, fr, h1, h2, h3, h4⟩
                · rw [hb] at h1; cases h1
                · rw [hb] at h1; injection h1 with h1; subst h1
                  obtain ⟨u, hu1, hu2⟩ := reps_at (fun x u hh => rep_len hh) h4 hy
                  have hil : i < xs.length := (List.getElem?_eq_some_iff.1 hy).1
                  have hle := reps_length (fun x u hh => rep_len hh) h4
                  have : i * e.wd ≤ xs.length * e.wd := Nat.mul_le_mul_right _ (by omega)
                  exact fin (k := i * e.wd) hx h2 rfl (by rw [← hu2]; exact List.take_prefix _ _) (by simp at hle; omega) (rep_av hu1) he
              · cases he
            · cases he
          · cases he
        · cases he
      · rename_i e xs i off hv
        rw [hv] at hx
        simp only [repV] at hx
        obtain ⟨hi, ad, hx, hm⟩ := hx
        rw [eval_opt] at he
        split at he
        · rename_i y hy
          obtain ⟨h1, h2, c, tt, fr, h3, h4⟩ := hm
          obtain ⟨u, hu1, hu2⟩ := reps_at (fun x u hh => rep_len hh) h4 hy
          have hle := reps_length (fun x u hh => rep_len hh) h4
          have : i * e.wd ≤ xs.length * e.wd := Nat.mul_le_mul_right _ (by omega)
          obtain ⟨adb, ado, ads⟩ := ad
          simp only at h1
          subst h1
          rw [Addr.add_lit] at hx
          have hul := (cut_ok he).2.2
          rw [repVs_len (rep_av (h := h) (φ := φ) hu1)] at hul
          have hwd : ado + i * e.wd ≤ c.size := by
            have h0 : 0 < u.length := by omega
            rw [← hu2] at h0; simp at h0; omega
          exact fin (k := ado + i * e.wd) hx h3 (by omega) (by rw [← List.drop_drop, ← hu2]; exact List.take_prefix _ _) hwd (rep_av hu1) he
        · cases he
      · rename_i l off hv
        rw [hv] at hx
        simp only [repV] at hx
        obtain ⟨b, a', c, tt, fr, h1, h2, h3, h4, h5⟩ := hx
        refine fin (k := 0) (us := c.toList) (cs := [.ptr l off]) h2 h4 rfl (by simp) (by omega) ?_ he
        rw [h5]
        simp only [repVs, repV]
        exact ⟨_, [], rfl, ⟨b, h1, rfl⟩, rfl⟩
      · cases he
theorem oLoad_ok (hs : Sat X h φ w) (ht : Tm h φ w (MB X h φ) tm a) {t : TypeId} {x : Operand} (ho : o.op = .load t x) (he : (oLoad P t x).eval tm h.get = some (v, ws)) : Comes P X h φ w v (ws ++ h) ((execOp a.eval o).run P w) := by
  obtain ⟨ad, u, h1, h2, h3, rfl⟩ := oLoad_run hs ht he
  unfold execOp
  simp only [ho, h1, Instr.loadAt, Instr.sureAddr, Sem.run_bind, Sem.run_pure, Result.andThen_ok, h2]
  exact comes_val hs h3
end

/-- Rows of the call's own become rows that nobody writes. -/
def frees : List AV → (List AV → Hp → RM) → RM
  | [], k => k [] []
  | c :: cs, k => match c with
    | .own l => .getH l fun B => match B with
      | .arr e xs _ => frees cs fun cs' ws => k (.fz e xs :: cs') ((l, .arr e xs false) :: ws)
      | _ => .fail
    | c => frees cs fun cs' ws => k (c :: cs') ws

section
variable {P : Program} {X : Nat → Prop} {h : Hp} {φ : Lab} {w : World} {tm : Nat → AV} {v : AV} {ws : Hp} {a : Act} {o : Oper}
/-- What freeing rows leaves: each label that turned is a row as it was, kept. -/
structure Freed (X : Nat → Prop) (h : Hp) (φ : Lab) (w : World) (cs cs' : List AV) (ws : Hp) : Prop where
  post : Sat X h φ w → Post X h φ w (ws ++ h) φ w
  only : ∀ l B, (ws : Hp).get l = some B → ∃ e xs o, B = .arr e xs false ∧ h.get l = some (.arr e xs o)
  get : ∀ l, (ws ++ h : Hp).get l = match (ws : Hp).get l with
    | some B => some B
    | none => h.get l
  vals : Sat X h φ w → ∀ vs, repVs h φ w (MB X h φ) cs vs → ∀ h' φ' w' M', Up (ws ++ h) φ w (MB X (ws ++ h) φ) h' φ' w' M' → repVs h' φ' w' M' cs' vs
theorem get_append {ws h : Hp} : ∀ l, (ws ++ h : Hp).get l = match (ws : Hp).get l with
    | some B => some B
    | none => h.get l := by
  intro l
  induction ws with
  | nil => rfl
  | cons x ws ih =>
    obtain ⟨k, B⟩ := x
    rw [List.cons_append, Hp.get_cons, Hp.get_cons]
    by_cases e : k = l
    · rw [if_pos e, if_pos e]
    · rw [if_neg e, if_neg e, ih]
/-- A kept row is read as a slice that nobody writes. -/
theorem own_fz (hs : Sat X h φ w) {l : Nat} {e : Kd} {xs : List e.T} (hB : h.get l = some (.arr e xs false)) {u : Value} (hu : repV h φ w (MB X h φ) (.own l) u) : repV h φ w (MB X h φ) (.fz e xs) u := by
  simp only [repV] at hu ⊢
  obtain ⟨A, n, cap, rfl, _, h3⟩ := hu
  obtain ⟨rfl, h4, h5, h6, h7⟩ := h3 _ _ _ hB
  refine ⟨A, cap, rfl, h4, fun hx => ?_⟩
  rcases hs.blk l _ hB with ⟨_, h9⟩ | ⟨b, c, tt, fr, h1, h2, _, h8⟩
  · exact absurd h9 hx
  · rw [h1] at h5
    exact ⟨_, h5, rfl, hs.frz _ _ _ _ hB h1, c, tt, fr, h2, by simpa using h8⟩
theorem frees_ok : ∀ {cs : List AV} {k : List AV → Hp → RM} {r : AV × Hp}, (frees cs k).eval tm h.get = some r → ∃ cs' ws, (k cs' ws).eval tm h.get = some r ∧ Freed X h φ w cs cs' ws ∧ (cs.all AV.one = true → cs'.all AV.one = true) ∧ cs'.length = cs.length
  | [], k, r, he => ⟨[], [], he, ⟨fun hs => Post.refl hs, (fun l B hl => by cases hl), get_append, (fun hs vs hv h' φ' w' M' hu => by simp only [repVs] at hv ⊢; exact hv)⟩, fun h => h, rfl⟩
  | c :: cs, k, r, he => by
    have other : ∀ (c0 : AV), c = c0 → (frees cs fun cs' ws => k (c0 :: cs') ws).eval tm h.get = some r → ∃ cs' ws, (k cs' ws).eval tm h.get = some r ∧ Freed X h φ w (c :: cs) cs' ws ∧ ((c :: cs).all AV.one = true → cs'.all AV.one = true) ∧ cs'.length = (c :: cs).length := by
      rintro c0 rfl he
      obtain ⟨cs', ws, h1, h2, h3, h4⟩ := frees_ok he
      refine ⟨c :: cs', ws, h1, ⟨h2.post, h2.only, h2.get, fun hs vs hv h' φ' w' M' hu => ?_⟩, fun hh => ?_, by simp [h4]⟩
      · simp only [repVs] at hv ⊢
        obtain ⟨v, vs', rfl, g1, g2⟩ := hv
        exact ⟨v, vs', rfl, hu.repV (h2.post hs).sat.non ((h2.post hs).up.repV hs.non g1), h2.vals hs vs' g2 _ _ _ _ hu⟩
      · simp only [List.all_cons, Bool.and_eq_true] at hh ⊢
        exact ⟨hh.1, h3 hh.2⟩
    unfold frees at he
    split at he
    · rename_i l
      rw [eval_getH] at he
      split at he
      · rename_i B hB
        split at he
        · rename_i e xs o
          obtain ⟨cs', ws, h1, h2, h3, h4⟩ := frees_ok he
          have hB' : ∃ o', (ws ++ h : Hp).get l = some (.arr e xs o') := by
            rw [h2.get l]
            cases hw : (ws : Hp).get l with
            | none => exact ⟨o, hB⟩
            | some B' =>
              obtain ⟨e', xs', o', rfl, h5⟩ := h2.only l B' hw
              rw [hB] at h5
              injection h5 with h5
              injection h5 with h6 h7 h8
              subst h6
              have h7 := eq_of_heq h7
              subst h7
              exact ⟨false, rfl⟩
          obtain ⟨o', hB'⟩ := hB'
          have hpost : Sat X h φ w → Post X h φ w (((l, .arr e xs false) :: ws) ++ h) φ w := fun hs =>
            (h2.post hs).trans (post_keep (h2.post hs).sat hB' (by simp [Later]) (.inr ⟨e, xs, o', rfl, rfl⟩))
          refine ⟨.fz e xs :: cs', (l, .arr e xs false) :: ws, h1, ⟨hpost, fun l' B' hl => ?_, get_append, fun hs vs hv h' φ' w' M' hu => ?_⟩, fun hh => ?_, by simp [h4]⟩
          · rw [Hp.get_cons] at hl
            by_cases e1 : l = l'
            · subst e1; rw [if_pos rfl] at hl; injection hl with hl; subst hl; exact ⟨e, xs, o, rfl, hB⟩
            · rw [if_neg e1] at hl; exact h2.only l' B' hl
          · simp only [repVs] at hv
            obtain ⟨v, vs', rfl, g1, g2⟩ := hv
            simp only [repVs]
            refine ⟨v, vs', rfl, ?_, ?_⟩
            · refine hu.repV (hpost hs).sat.non (own_fz (hpost hs).sat (l := l) ?_ ((hpost hs).up.repV hs.non g1))
              rw [List.cons_append, Hp.get_cons, if_pos rfl]
            · exact h2.vals hs vs' g2 _ _ _ _ ((post_keep (h2.post hs).sat hB' (by simp [Later]) (.inr ⟨e, xs, o', rfl, rfl⟩)).up.trans hu)
          · simp only [List.all_cons, Bool.and_eq_true] at hh ⊢
            exact ⟨rfl, h3 hh.2⟩
        · cases he
      · cases he
    · exact other _ rfl he
end
end Go.Proofs.YtdfgfjnpllncdaaGreatDoor.I

namespace Go.Proofs.YtdfgfjnpllncdaaGreatDoor.I
open Go.RowKit
set_option linter.unusedVariables false

def force (l : List AV) (k : List AV → RM) : RM := match l with
  | [] => k []
  | a :: l => force l fun l' => k (a :: l')
theorem force_eq : ∀ (l : List AV) (k : List AV → RM), force l k = k l
  | [], _ => rfl
  | a :: l, k => by rw [force, force_eq l]
def splice (cs us : List AV) (off : Nat) : List AV := cs.take off ++ (us ++ cs.drop (off + us.length))
def Kd.isFb : Kd → Bool
  | .fb _ => true
  | _ => false
theorem frRow_free {e : Kd} {t : TypeId} {n m : Nat} {fr : Nat × Nat} (he : e.isFb = false) (h : frRow e t n fr m) : frFree fr m := by
  cases e <;> first | exact h | cases he
theorem free_frRow {e : Kd} {t : TypeId} {n m : Nat} {fr : Nat × Nat} (he : e.isFb = false) (h : frFree fr m) : frRow e t n fr m := by
  cases e <;> first | exact h | cases he
def hasLab (l : Nat) : Hp → Bool
  | [] => false
  | (k, _) :: ws => match Nat.beq k l with
    | true => true
    | false => hasLab l ws
def oStore (P : Program) (t : TypeId) (a x : Operand) : RM :=
  rd a fun p => rd x fun u => match szOf P t with
    | none => .fail
    | some n => match Nat.beq n u.cells.length && u.cells.all AV.stor with
      | false => .fail
      | true => match p with
        | .ptr l off => .getH l fun B => match B with
          | .var cs => match Nat.ble (off + u.cells.length) cs.length with
            | true => force (splice cs u.cells off) fun cs' => .ret .any [(l, .var cs')]
            | false => .fail
          | _ => .fail
        | .eptr l i wd off => .getH l fun B => match B with
          | .arr e xs o => match (o && !e.isFb) && (Nat.beq wd e.wd && Nat.ble (off + u.cells.length) e.wd) with
            | true => frees u.cells fun us ws => match hasLab l ws with
              | true => .fail
              | false => .opt xs[i]? fun y => match e.enc (splice (e.av y) us off) with
                | some (z, r) => match r with
                  | [] => .ret .any ((l, .arr e (xs.set i z) true) :: ws)
                  | _ => .fail
                | none => .fail
            | false => .fail
          | _ => .fail
        | _ => .fail

theorem splice_list {α : Type} (c vs : List α) (k wd off n : Nat) (hv : vs.length = n) (hn : off + n ≤ wd) (hw : k + wd ≤ c.length) :
    c.take (k + off) ++ vs ++ c.drop (k + off + n) = c.take k ++ (((c.drop k).take wd).take off ++ (vs ++ ((c.drop k).take wd).drop (off + n))) ++ c.drop (k + wd) := by
  have h1 : c.take (k + off) = c.take k ++ (c.drop k).take off := List.take_add
  have h2 : ((c.drop k).take wd).take off = (c.drop k).take off := by rw [List.take_take, Nat.min_eq_left (by omega)]
  have h3 : ((c.drop k).take wd).drop (off + n) ++ c.drop (k + wd) = c.drop (k + off + n) := by
    have e : c.drop k = (c.drop k).take wd ++ c.drop (k + wd) := by rw [← List.drop_drop, List.take_append_drop]
    have e2 : c.drop (k + off + n) = (c.drop k).drop (off + n) := by rw [List.drop_drop, Nat.add_assoc]
    rw [e2]
    conv => rhs; rw [e]
    rw [List.drop_append_of_le_length (by simp; omega)]
  rw [h1, h2, ← h3]
  simp

section
variable {P : Program} {X : Nat → Prop} {h : Hp} {φ : Lab} {w : World} {tm : Nat → AV} {v : AV} {ws : Hp} {a : Act} {o : Oper}
theorem repVs_splice {M : Nat → Prop} {cs us : List AV} {vs xs : List Value} (off : Nat) (h1 : repVs h φ w M cs xs) (h2 : repVs h φ w M us vs) : repVs h φ w M (splice cs us off) (xs.take off ++ (vs ++ xs.drop (off + vs.length))) := by
  unfold splice
  refine repVs_append.2 ⟨_, _, rfl, repVs_take off h1, repVs_append.2 ⟨_, _, rfl, h2, ?_⟩⟩
  rw [repVs_len h2]
  exact repVs_drop _ h1
theorem hasLab_get {l : Nat} : ∀ {ws : Hp}, hasLab l ws = false → (ws : Hp).get l = none
  | [], _ => rfl
  | (k, B) :: ws, e => by
    simp only [hasLab] at e
    split at e
    · cases e
    · rename_i hk
      rw [Hp.get_cons, if_neg (Nat.ne_of_beq_eq_false hk)]
      exact hasLab_get e
theorem run_storeAt {t : TypeId} {n b off : Nat} {c : Array Value} {tt : TypeId} {fr : Nat × Nat} {u : Value} (hs : szOf P t = some n) (hn : u.cells.size = n) (hb : w.heap[b]? = some (.cells c tt fr)) (hf : frFree fr c.size) (hl : off + n ≤ c.size) (h1 : ∀ v ∈ u.cells.toList, v.oneCell' = true) :
    (Instr.storeAt t (.pointer (some ⟨b, off, none⟩)) u).run P w = .ok () (w.setCells b off u.cells.toList) := by
  unfold Instr.storeAt Instr.sureAddr storeVar
  simp only [Sem.run_bind, Sem.run_pure, Result.andThen_ok, run_sizeOf hs]
  rw [if_neg (by simpa using hn)]
  rw [run_storeCells_blk hb hf (by simpa [hn] using hl) h1]
theorem oStore_ok (hs : Sat X h φ w) (ht : Tm h φ w (MB X h φ) tm a) {t : TypeId} {p x : Operand} (ho : o.op = .store t p x) (he : (oStore P t p x).eval tm h.get = some (v, ws)) : Comes P X h φ w v (ws ++ h) ((execOp a.eval o).run P w) := by
  unfold oStore at he
  rw [rd_eval, rd_eval] at he
  have hp := opv_rep ht p
  have hx := opv_rep ht x
  split at he
  · cases he
  · rename_i n hn
    split at he
    · cases he
    · rename_i hc
      simp only [Bool.and_eq_true] at hc
      obtain ⟨hc1, hst⟩ := hc
      have hc2 := stors_one hst
      have hc1 := Nat.eq_of_beq_eq_true hc1
      have hcr := cells_rep hc2 hx
      have hvn : (a.eval x).cells.size = n := by have := repVs_len hcr; simp at this; omega
      have hone := reps_one_of hc2 hcr
      have hlen := repVs_len hcr
      split at he
      · rename_i l off hv
        rw [hv] at hp
        simp only [repV] at hp
        obtain ⟨b, hb, hp⟩ := hp
        rw [eval_getH] at he
        split at he
        · rename_i B hB
          split at he
          · rename_i cs
            split at he
            · rename_i hle
              have hle := Nat.le_of_ble_eq_true hle
              rw [force_eq] at he
              simp only [RM.eval, Option.some.injEq, Prod.mk.injEq] at he
              obtain ⟨rfl, rfl⟩ := he
              obtain ⟨b', c, tt, fr, h1, h2, h3, h4, h5, h6⟩ := hs.blk l _ hB
              rw [hb] at h1; injection h1 with h1; subst h1
              have hcl := repVs_len h4
              have hle2 : off + n ≤ c.size := by simp at hcl; omega
              have hrun := run_storeAt (P := P) hn hvn h2 h3 hle2 hone
              have hset := setCells_stored b tt fr (a.eval x).cells.toList off w c h2 (by simp [hvn]; exact hle2)
              obtain ⟨c', g1, g2, g3⟩ := hset.new
              unfold execOp
              simp only [ho, hp, Sem.run_bind, hrun, Result.andThen_ok, Sem.run_pure]
              refine ⟨φ, post_set hs hB rfl hb h2 g2 hset.rest hset.size hset.same g1 rfl trivial (fun hu => ?_), rfl⟩
              refine ⟨b, c', tt, fr, hb, g1, by rw [g2]; exact h3, ?_, ?_, ?_⟩
              · rw [g3, List.append_assoc]
                exact repVs_splice off (hu.repVs hs.non h4) (hu.repVs hs.non hcr)
              · unfold splice
                simp only [List.all_append, Bool.and_eq_true]
                refine ⟨?_, hc2, ?_⟩
                · rw [List.all_eq_true] at h5 ⊢; exact fun y hy => h5 y (List.mem_of_mem_take hy)
                · rw [List.all_eq_true] at h5 ⊢; exact fun y hy => h5 y (List.mem_of_mem_drop hy)
              · rw [g3, List.append_assoc, ← hlen]
                rw [hlen]
                exact selfs_splice h6 hcl hlen hst
            · cases he
          · cases he
        · cases he
      · rename_i l i wd off hv
        rw [hv] at hp
        simp only [repV] at hp
        obtain ⟨b, hb, hp⟩ := hp
        rw [eval_getH] at he
        split at he
        · rename_i B hB
          split at he
          · rename_i e xs oo
            split at he
            · rename_i hcc
              simp only [Bool.and_eq_true] at hcc
              obtain ⟨⟨rfl, hfb⟩, hw, hle⟩ := hcc
              have hfb : e.isFb = false := by simpa using hfb
              have hw := Nat.eq_of_beq_eq_true hw
              have hle := Nat.le_of_ble_eq_true hle
              subst hw
              obtain ⟨us, fws, he, hfr, hone', hul⟩ := frees_ok (X := X) (φ := φ) (w := w) he
              split at he
              · cases he
              · rename_i hlab
                rw [eval_opt] at he
                split at he
                · rename_i y hy
                  split at he
                  · rename_i z r henc
                    split at he
                    · simp only [RM.eval, Option.some.injEq, Prod.mk.injEq] at he
                      obtain ⟨rfl, rfl⟩ := he
                      have hps := hfr.post hs
                      have hB' : (fws ++ h : Hp).get l = some (.arr e xs true) := by
                        rw [hfr.get l, hasLab_get (by simpa using hlab)]; exact hB
                      rcases hs.blk l _ hB with ⟨h1, _⟩ | ⟨b', c, tt, fr, h1, h2, h3, h4⟩
                      · rw [hb] at h1; cases h1
                      · rw [hb] at h1; injection h1 with h1; subst h1
                        obtain ⟨u, hu1, hu2⟩ := reps_at (fun x u hh => rep_len hh) h4 hy
                        have hil : i < xs.length := (List.getElem?_eq_some_iff.1 hy).1
                        have hcl := reps_length (fun x u hh => rep_len hh) h4
                        have hmul : i * e.wd + e.wd ≤ xs.length * e.wd := by rw [← Nat.succ_mul]; exact Nat.mul_le_mul_right _ (by omega)
                        simp at hcl
                        have hul2 := rep_len hu1
                        have hle2 : i * e.wd + off + n ≤ c.size := by omega
                        have hrun := run_storeAt (P := P) hn hvn h2 (frRow_free hfb h3) hle2 hone
                        have hset := setCells_stored b tt fr (a.eval x).cells.toList (i * e.wd + off) w c h2 (by simp [hvn]; exact hle2)
                        obtain ⟨c', g1, g2, g3⟩ := hset.new
                        unfold execOp
                        simp only [ho, hp, Sem.run_bind, hrun, Result.andThen_ok, Sem.run_pure]
                        refine ⟨φ, hps.trans (post_set hps.sat hB' rfl hb h2 g2 hset.rest hset.size hset.same g1 rfl (by simp [Later]) (fun hu => ?_)), rfl⟩
                        refine .inr ⟨b, c', tt, fr, hb, g1, by rw [g2]; exact free_frRow hfb (frRow_free hfb h3), ?_⟩
                        have q1 : repVs _ φ (w.setCells b (i * e.wd + off) (a.eval x).cells.toList) _ us (a.eval x).cells.toList := hfr.vals hs _ hcr _ _ _ _ hu
                        have q2 := rep_av (h := ((l, .arr e (xs.set i z) true) :: (fws ++ h))) (φ := φ) (rep_keeps (hps.up.trans hu).keeps hu1)
                        obtain ⟨p1, p2, p3, p4, p5⟩ := enc_rep henc (repVs_splice off q2 q1)
                        simp only [repVs] at p5
                        subst p5
                        rw [List.append_nil] at p3
                        rw [g3]
                        rw [splice_list c.toList (a.eval x).cells.toList (i * e.wd) e.wd off (a.eval x).cells.toList.length rfl (by omega) (by simp; omega)]
                        rw [hu2, p3]
                        have := reps_set (fun x u hh => rep_len hh) hil (reps_imp (fun x _ u g => rep_keeps (hps.up.trans hu).keeps g) h4) p4
                        exact this
                    · cases he
                  · cases he
                · cases he
            · cases he
          · cases he
        · cases he
      · cases he
end
end Go.Proofs.YtdfgfjnpllncdaaGreatDoor.I

namespace Go.Proofs.YtdfgfjnpllncdaaGreatDoor.I
open Go.RowKit
set_option linter.unusedVariables false

def zeroOf (P : Program) (t : TypeId) : Option Value := (P.info? t).bind (·.zero)
def mkVar (fr : Nat) (u : AV) : RM := match u.cells.all AV.stor with
  | true => force u.cells fun cs => .ret (.ptr fr 0) [(fr, .var cs)]
  | false => .fail
/-- Is a struct's first field a pointer to such a struct? -/
def selfT (P : Program) (t : TypeId) : Bool := match P.underlying t with
  | some (.struct fs) => match fs.toList with
    | f :: _ => match P.underlying f.type with
      | some (.pointer e) => Nat.beq e t
      | _ => false
    | [] => false
  | _ => false
def oAlloc (P : Program) (fr : Nat) (t : TypeId) : RM := match zeroOf P t with
  | some z => match selfT P t with
    | false => mkVar fr (avV z)
    | true => match (avV z).cells with
      | .nilp :: r => match r.all AV.stor with
        | true => force (.self t :: r) fun cs => .ret (.ptr fr 0) [(fr, .var cs)]
        | false => .fail
      | _ => .fail
  | none => .fail
def oBox (fr : Nat) (x : Operand) : RM := rd x fun u => match u with
  | .ptr l off => .ret (.bptr l off) []
  | u => mkVar fr u
def oMove (x : Operand) : RM := rd x fun u => .ret u []
def oPick (c x y : Operand) : RM := rd c fun b => match b with
  | .bool b => rd x fun u => rd y fun v => .ite b (.ret u []) (.ret v [])
  | _ => .fail
def oNilCheck (x : Operand) : RM := rd x fun u => match u with
  | .ptr _ _ | .eptr _ _ _ _ | .fptr _ _ _ _ | .fn _ _ => .ret u []
  | _ => .fail
def oFieldAddr (P : Program) (t : TypeId) (x : Operand) (f : Nat) : RM := match P.underlying t with
  | some (.struct fs) => match fs.toList[f]? with
    | some fd => match szOf P fd.type with
      | some (n + 1) => rd x fun u => match u with
        | .ptr l off => .ret (.ptr l (off + fd.offset)) []
        | .eptr l i wd off => .ret (.eptr l i wd (off + fd.offset)) []
        | .fptr e xs i off => .ret (.fptr e xs i (off + fd.offset)) []
        | _ => .fail
      | _ => .fail
    | none => .fail
  | _ => .fail
def oField (P : Program) (t : TypeId) (x : Operand) (f : Nat) : RM := match P.underlying t with
  | some (.struct fs) => match fs.toList[f]? with
    | some fd => match szOf P fd.type with
      | some n => match (P.underlying fd.type).isSome && (aggOf P fd.type || Nat.beq n 1) with
        | true => rd x fun u => match u with
          | .agg cs => cut (aggOf P fd.type) cs fd.offset n
          | _ => .fail
        | false => .fail
      | none => .fail
    | none => .fail
  | _ => .fail
def inB (n : Int) (m : Nat) : Bool := decide (0 ≤ n ∧ n < (m : Int))
def oIndexAddr (P : Program) (t : TypeId) (x i : Operand) : RM := rd x fun u => rd i fun v => match v with
  | .int _ n => match P.underlying t with
    | some (.slice el) => match szOf P el with
      | some m => match u with
        | .own l => .getH l fun B => match B with
          | .arr e xs _ => match Nat.beq m e.wd with
            | true => .ite (inB n xs.length) (.ret (.eptr l n.toNat e.wd 0) []) .fail
            | false => .fail
          | _ => .fail
        | .fz e xs => match Nat.beq m e.wd with
          | true => .ite (inB n xs.length) (.ret (.fptr e xs n.toNat 0) []) .fail
          | false => .fail
        | _ => .fail
      | none => .fail
    | some (.array len el) => match szOf P el with
      | some m => match u with
        | .ptr l off => .ite (inB n len) (.ret (.ptr l (off + n.toNat * m)) []) .fail
        | _ => .fail
      | none => .fail
    | _ => .fail
  | _ => .fail
/-- A byte of a string. -/
def strAt (s : ByteArray) (n : Int) : Option UInt8 := if 0 ≤ n then s[n.toNat]? else none
def oIndex (P : Program) (t : TypeId) (x i : Operand) : RM := rd x fun u => rd i fun v => match v with
  | .int _ n => match P.underlying t with
    | some .string => match u with
      | .str s => .opt (strAt s n) fun b => .ret (.int .u8 (b.toNat : Int)) []
      | _ => .fail
    | some (.array len el) => match szOf P el with
      | some m => match (P.underlying el).isSome && (aggOf P el || Nat.beq m 1) with
        | true => match u with
          | .agg cs => .ite (inB n len) (cut (aggOf P el) cs (n.toNat * m) m) .fail
          | _ => .fail
        | false => .fail
      | none => .fail
    | _ => .fail
  | _ => .fail
def oExtract (x : Operand) (i : Nat) : RM := rd x fun u => match u with
  | .tup vs => match vs[i]? with
    | some v => .ret v []
    | none => .fail
  | _ => .fail
def oMakeFunc (fn : Fn) (first captured : Array Operand) : RM := match fn, first.toList with
  | .func f, [] => rds captured.toList fun vs => .ret (.fn f vs) []
  | _, _ => .fail

section
variable {P : Program} {X : Nat → Prop} {h : Hp} {φ : Lab} {w : World} {tm : Nat → AV} {v : AV} {ws : Hp} {a : Act} {o : Oper}
theorem addr_add (ad : Addr) (i j : Nat) : (ad.add i).add j = ad.add (i + j) := by
  unfold Addr.add
  by_cases hi : i = 0 <;> by_cases hj : j = 0 <;> simp [hi, hj, Nat.add_assoc]
theorem post_stay {w' : World} (hs : Sat X h φ w) (hw : w'.os = w.os ∧ w'.tape = w.tape ∧ w'.output = w.output) (hold : ∀ b, b < w.heap.size → w'.heap[b]? = w.heap[b]?) (hsize : w.heap.size ≤ w'.heap.size) : Post X h φ w h φ w' :=
  post_of hs (fun _ _ => rfl) (fun l C hC => ⟨C, hC, Later.refl _⟩) ⟨hw.1, hw.2.1, hw.2.2, hsize, fun b hb _ => hold b hb, fun b c t fr hb => ⟨c, t, fr, by rw [hold b (heap_lt hb)]; exact hb, rfl⟩⟩ (fun b ho => .inl ho) (fun hu l C hC => by
    rcases blk_lt hs hC with rfl | h1
    · exact .inr trivial
    · exact .inl ⟨hC, fun b hb => hold b (h1 b hb)⟩) hs.inj (fun l e xs b hl hb => .inl hl) hs.non
theorem mkVar_ok (hs : Sat X h φ w) {fr : Nat} (hf : h.get fr = none) {u : AV} {uv : Value} {t : TypeId} (hu : repV h φ w (MB X h φ) u uv) (he : (mkVar fr u).eval tm h.get = some (v, ws)) :
    Comes P X h φ w v (ws ++ h) (.ok (.value (.pointer (some ⟨w.heap.size, 0, none⟩))) { w with heap := w.heap.push (.cells uv.cells t) }) := by
  unfold mkVar at he
  split at he
  · rename_i h1
    rw [force_eq] at he
    simp only [RM.eval, Option.some.injEq, Prod.mk.injEq] at he
    obtain ⟨rfl, rfl⟩ := he
    have hc := cells_rep (stors_one h1) hu
    refine ⟨_, post_new (w' := { w with heap := w.heap.push (.cells uv.cells t) }) (B := .var u.cells) hs hf (c := uv.cells) (t := t) (fr := (0, 0)) ⟨rfl, rfl, rfl⟩ rfl rfl (fun h' φ' M' hup hl hat => ?_), ?_⟩
    · exact ⟨_, uv.cells, t, (0, 0), hl, hat, .inl rfl, hup.repVs hs.non hc, stors_one h1, selfs_stor h1⟩
    · simp only [repV]
      exact ⟨_, Lab.set_eq _ _ _, rfl⟩
  · cases he
theorem oAlloc_ok (hs : Sat X h φ w) {fr : Nat} (hf : h.get fr = none) {t : TypeId} (ho : o.op = .alloc t) (he : (oAlloc P fr t).eval tm h.get = some (v, ws)) : Comes P X h φ w v (ws ++ h) ((execOp a.eval o).run P w) := by
  unfold oAlloc at he
  split at he
  · rename_i z hz
    have : Comes P X h φ w v (ws ++ h) (.ok (.value (.pointer (some ⟨w.heap.size, 0, none⟩))) { w with heap := w.heap.push (.cells z.cells t) }) := by
      split at he
      · exact mkVar_ok (P := P) hs hf (t := t) (avV_rep z) he
      · split at he
        · rename_i r hr
          split at he
          · rename_i h1
            rw [force_eq] at he
            simp only [RM.eval, Option.some.injEq, Prod.mk.injEq] at he
            obtain ⟨rfl, rfl⟩ := he
            have hall : (AV.nilp :: r).all AV.one = true := by
              simp only [List.all_cons, Bool.and_eq_true]
              exact ⟨rfl, stors_one h1⟩
            have hc := cells_rep (x := avV z) (v := z) (by rw [hr]; exact hall) (avV_rep (h := h) (φ := φ) (w := w) (M := MB X h φ) z)
            rw [hr] at hc
            refine ⟨_, post_new (w' := { w with heap := w.heap.push (.cells z.cells t) }) (B := .var (.self t :: r)) hs hf (c := z.cells) (t := t) (fr := (0, 0)) ⟨rfl, rfl, rfl⟩ rfl rfl (fun h' φ' M' hup hl hat => ?_), ?_⟩
            · have hc2 := hup.repVs hs.non hc
              simp only [repVs] at hc2
              obtain ⟨u, us, q1, q2, q3⟩ := hc2
              simp only [repV] at q2
              subst q2
              refine ⟨_, z.cells, t, (0, 0), hl, hat, .inl rfl, ?_, ?_, ?_⟩
              · rw [q1]
                simp only [repVs, repV]
                exact ⟨_, _, rfl, ⟨none, rfl⟩, q3⟩
              · simp only [List.all_cons, Bool.and_eq_true]
                exact ⟨rfl, stors_one h1⟩
              · intro i x T k1 k2
                cases i with
                | zero =>
                  rw [q1] at k2
                  simp at k1 k2
                  exact ⟨k1, rfl, .inl k2.symm⟩
                | succ i =>
                  rw [List.all_eq_true] at h1
                  exact absurd rfl (stor_self (h1 _ (List.mem_of_getElem? (by simpa using k1))))
            · simp only [repV]
              exact ⟨_, Lab.set_eq _ _ _, rfl⟩
          · cases he
        · cases he
    unfold zeroOf at hz
    cases hi : P.info? t with
    | none => rw [hi] at hz; cases hz
    | some i =>
      rw [hi, Option.bind_some] at hz
      unfold execOp
      simp [ho, Instr.alloc, zeroValue, typeInfo, hi, hz, newVar, newRow, newObj]
      exact this
  · cases he
theorem oBox_ok (hs : Sat X h φ w) (ht : Tm h φ w (MB X h φ) tm a) {fr : Nat} (hf : h.get fr = none) {t : TypeId} {x : Operand} (ho : o.op = .box t x) (he : (oBox fr x).eval tm h.get = some (v, ws)) : Comes P X h φ w v (ws ++ h) ((execOp a.eval o).run P w) := by
  unfold oBox at he
  rw [rd_eval] at he
  have hx := opv_rep ht x
  unfold execOp
  simp [ho, Instr.box, newVar, newRow, newObj]
  split at he
  · rename_i l off hv
    rw [hv] at hx
    simp only [RM.eval, Option.some.injEq, Prod.mk.injEq] at he
    obtain ⟨rfl, rfl⟩ := he
    simp only [repV] at hx
    obtain ⟨b, hb, hx⟩ := hx
    rw [hx]
    have hp := post_stay (w' := { w with heap := w.heap.push (.cells (Value.pointer (some ⟨b, off, none⟩)).cells t) }) hs ⟨rfl, rfl, rfl⟩ (fun i hi => by
      show (w.heap.push _)[i]? = _
      rw [Array.getElem?_push, if_neg (by omega)]) (by show w.heap.size ≤ (w.heap.push _).size; rw [Array.size_push]; omega)
    refine ⟨φ, hp, ?_⟩
    simp only [repV]
    refine ⟨b, w.heap.size, _, t, (0, 0), hb, rfl, fun hm => ?_, by show (w.heap.push _)[w.heap.size]? = _; rw [Array.getElem?_push, if_pos rfl]; rfl, rfl⟩
    rcases hm with hm | hm
    · have := hs.xlt _ hm
      omega
    · have := own_lt hs hm
      omega
  · exact mkVar_ok (P := P) hs hf (t := t) hx he
theorem oMove_ok (hs : Sat X h φ w) (ht : Tm h φ w (MB X h φ) tm a) {x : Operand} (ho : o.op = .move x ∨ o.op = .assign x) (he : (oMove x).eval tm h.get = some (v, ws)) : Comes P X h φ w v (ws ++ h) ((execOp a.eval o).run P w) := by
  unfold oMove at he
  rw [rd_eval] at he
  simp only [RM.eval, Option.some.injEq, Prod.mk.injEq] at he
  obtain ⟨rfl, rfl⟩ := he
  unfold execOp
  rcases ho with ho | ho <;> simp only [ho, Sem.run_pure] <;> exact comes_val hs (opv_rep ht x)
theorem oPick_ok (hs : Sat X h φ w) (ht : Tm h φ w (MB X h φ) tm a) {c x y : Operand} (ho : o.op = .pick c x y) (he : (oPick c x y).eval tm h.get = some (v, ws)) : Comes P X h φ w v (ws ++ h) ((execOp a.eval o).run P w) := by
  unfold oPick at he
  rw [rd_eval] at he
  have hc := opv_rep ht c
  split at he
  · rename_i b hb
    rw [hb] at hc
    simp only [repV] at hc
    rw [rd_eval, rd_eval, eval_ite] at he
    unfold execOp
    cases b <;> simp only [RM.eval, Option.some.injEq, Prod.mk.injEq] at he <;> obtain ⟨rfl, rfl⟩ := he <;> simp only [ho, hc, asBool, Sem.run_bind, Sem.run_pure, Result.andThen_ok]
    · exact comes_val hs (opv_rep ht y)
    · exact comes_val hs (opv_rep ht x)
  · cases he
theorem oNilCheck_ok (hs : Sat X h φ w) (ht : Tm h φ w (MB X h φ) tm a) {x : Operand} (ho : o.op = .nilCheck x) (he : (oNilCheck x).eval tm h.get = some (v, ws)) : Comes P X h φ w v (ws ++ h) ((execOp a.eval o).run P w) := by
  unfold oNilCheck at he
  rw [rd_eval] at he
  have hx := opv_rep ht x
  have hx' := hx
  split at he <;> first | (cases he; done) | skip
  all_goals
    rename_i hv
    rw [hv] at hx he
    simp only [RM.eval, Option.some.injEq, Prod.mk.injEq] at he
    obtain ⟨rfl, rfl⟩ := he
    rw [hv] at hx'
    unfold execOp
    simp only [ho]
    simp only [repV] at hx
  · obtain ⟨b, _, hx⟩ := hx
    rw [hx] at hx' ⊢
    exact comes_val hs hx'
  · obtain ⟨b, _, hx⟩ := hx
    rw [hx] at hx' ⊢
    exact comes_val hs hx'
  · obtain ⟨_, ad, hx, _⟩ := hx
    rw [hx] at hx' ⊢
    exact comes_val hs hx'
  · obtain ⟨cs, hx, _⟩ := hx
    rw [hx] at hx' ⊢
    exact comes_val hs hx'
theorem oFieldAddr_ok (hs : Sat X h φ w) (ht : Tm h φ w (MB X h φ) tm a) {t : TypeId} {x : Operand} {f : Nat} (ho : o.op = .fieldAddr t x f) (he : (oFieldAddr P t x f).eval tm h.get = some (v, ws)) : Comes P X h φ w v (ws ++ h) ((execOp a.eval o).run P w) := by
  unfold oFieldAddr at he
  split at he
  · rename_i fs hu
    split at he
    · rename_i fd hfd
      rw [Array.getElem?_toList] at hfd
      split at he
      · rename_i n hn
        rw [rd_eval] at he
        have hx := opv_rep ht x
        have hrun : ∀ ad, a.eval x = .pointer (some ad) → (execOp a.eval o).run P w = .ok (.value (.pointer (some (ad.add fd.offset)))) w := fun ad hp => by
          unfold execOp
          simp [ho, Instr.fieldAt, run_underlying hu, hfd, hp, Instr.sureAddr, fieldPlace, run_sizeOf hn]
        split at he <;> simp only [RM.eval] at he
        · rename_i l off hv
          rw [hv] at hx
          simp only [repV] at hx
          obtain ⟨b, hb, hx⟩ := hx
          simp only [Option.some.injEq, Prod.mk.injEq] at he
          obtain ⟨rfl, rfl⟩ := he
          rw [hrun _ hx, Addr.add_lit]
          exact comes_val hs (by simp only [repV]; exact ⟨b, hb, rfl⟩)
        · rename_i l i wd off hv
          rw [hv] at hx
          simp only [repV] at hx
          obtain ⟨b, hb, hx⟩ := hx
          simp only [Option.some.injEq, Prod.mk.injEq] at he
          obtain ⟨rfl, rfl⟩ := he
          rw [hrun _ hx, Addr.add_lit]
          exact comes_val hs (by simp only [repV]; exact ⟨b, hb, by rw [Nat.add_assoc]⟩)
        · rename_i e xs i off hv
          rw [hv] at hx
          simp only [repV] at hx
          obtain ⟨hi, ad, hx, hm⟩ := hx
          simp only [Option.some.injEq, Prod.mk.injEq] at he
          obtain ⟨rfl, rfl⟩ := he
          rw [hrun _ hx, addr_add]
          exact comes_val hs (by simp only [repV]; exact ⟨hi, ad, by rw [Nat.add_assoc], hm⟩)
        · cases he
      · cases he
    · cases he
  · cases he
theorem oField_ok (hs : Sat X h φ w) (ht : Tm h φ w (MB X h φ) tm a) {t : TypeId} {x : Operand} {f : Nat} (ho : o.op = .field t x f) (he : (oField P t x f).eval tm h.get = some (v, ws)) : Comes P X h φ w v (ws ++ h) ((execOp a.eval o).run P w) := by
  unfold oField at he
  split at he
  · rename_i fs hu
    split at he
    · rename_i fd hfd
      rw [Array.getElem?_toList] at hfd
      split at he
      · rename_i n hn
        split at he
        · rename_i hc
          simp only [Bool.and_eq_true] at hc
          obtain ⟨d, hd⟩ := hasU hc.1
          have hn1 : aggOf P fd.type = false → n = 1 := fun hg => by have := hc.2; rw [hg, Bool.false_or] at this; exact Nat.eq_of_beq_eq_true this
          rw [rd_eval] at he
          have hx := opv_rep ht x
          split at he
          · rename_i cs hv
            rw [hv] at hx
            simp only [repV] at hx
            obtain ⟨aas, hx, hr⟩ := hx
            obtain ⟨rfl, rfl, hlen⟩ := cut_ok he
            have hl := repVs_len hr
            simp at hl
            have hp := run_part hd hn aas fd.offset (fun hg => ⟨by have := hn1 hg; omega, hn1 hg⟩) w
            unfold execOp
            simp only [ho, Instr.field, Sem.run_bind, run_underlying hu, Result.andThen_ok, hfd, hx, asAgg, Sem.run_pure, hp]
            refine comes_val hs (mkV_rep (repVs_take n (repVs_drop fd.offset hr)) (fun hg e => ?_))
            have e1 := hn1 hg
            have e2 : ((aas.toList.drop fd.offset).take n).length = n := by simp; omega
            rw [e] at e2; simp at e2; omega
          · cases he
        · cases he
      · cases he
    · cases he
  · cases he
theorem inB_iff {n : Int} {m : Nat} (e : inB n m = true) : 0 ≤ n ∧ n < (m : Int) := by simpa [inB] using e
theorem oIndexAddr_ok (hs : Sat X h φ w) (ht : Tm h φ w (MB X h φ) tm a) {t : TypeId} {x i : Operand} (ho : o.op = .indexAddr t x i) (he : (oIndexAddr P t x i).eval tm h.get = some (v, ws)) : Comes P X h φ w v (ws ++ h) ((execOp a.eval o).run P w) := by
  unfold oIndexAddr at he
  rw [rd_eval, rd_eval] at he
  have hx := opv_rep ht x
  have hi := opv_rep ht i
  split at he
  · rename_i k n hv
    rw [hv] at hi
    simp only [repV] at hi
    split at he
    · rename_i el hu
      split at he
      · rename_i m hm
        have hrun : ∀ ad len cap, a.eval x = .slice (some ad) len cap → 0 ≤ n → n < (len : Int) → (execOp a.eval o).run P w = .ok (.value (.pointer (some (ad.add (n.toNat * m))))) w := fun ad len cap hp h1 h2 => by
          unfold execOp
          simp [ho, Instr.indexAt, hi, hp, asIntOf, run_underlying hu, h1, h2, run_sizeOf hm]
        split at he
        · rename_i l hv
          rw [eval_getH] at he
          split at he
          · rename_i B hB
            split at he
            · rename_i e xs oo
              split at he
              · rename_i hw
                have hw := Nat.eq_of_beq_eq_true hw
                subst hw
                rw [eval_ite] at he
                split at he <;> simp only [RM.eval] at he
                · rename_i hin
                  obtain ⟨h1, h2⟩ := inB_iff hin
                  simp only [Option.some.injEq, Prod.mk.injEq] at he
                  obtain ⟨rfl, rfl⟩ := he
                  rw [hv] at hx
                  simp only [repV] at hx
                  obtain ⟨A, len, cap, hx, _, h3⟩ := hx
                  obtain ⟨rfl, _, h5, h6, _⟩ := h3 _ _ _ hB
                  cases hb : φ l with
                  | none =>
                    rw [hb] at h5
                    have := hs.blk l _ hB
                    rcases this with ⟨_, h9⟩ | ⟨b, c, tt, fr, h7, _⟩
                    · subst h9; simp at h2; omega
                    · rw [hb] at h7; cases h7
                  | some b =>
                    rw [hb] at h5
                    subst h5
                    rw [hrun _ _ _ hx h1 h2]
                    simp only [Option.map_some, Addr.add_lit]
                    exact comes_val hs (by simp only [repV]; exact ⟨b, hb, by simp⟩)
                · cases he
              · cases he
            · cases he
          · cases he
        · rename_i e xs hv
          split at he
          · rename_i hw
            have hw := Nat.eq_of_beq_eq_true hw
            subst hw
            rw [eval_ite] at he
            split at he <;> simp only [RM.eval] at he
            · rename_i hin
              obtain ⟨h1, h2⟩ := inB_iff hin
              simp only [Option.some.injEq, Prod.mk.injEq] at he
              obtain ⟨rfl, rfl⟩ := he
              rw [hv] at hx
              simp only [repV] at hx
              obtain ⟨A, cap, hx, _, h3⟩ := hx
              obtain ⟨ad, rfl, h4⟩ := h3 (fun e => by subst e; simp at h2; omega)
              rw [hrun _ _ _ hx h1 h2]
              exact comes_val hs (by simp only [repV]; exact ⟨by omega, ad, by simp, h4⟩)
            · cases he
          · cases he
        · cases he
      · cases he
    · rename_i len el hu
      split at he
      · rename_i m hm
        split at he
        · rename_i l off hv
          rw [eval_ite] at he
          split at he <;> simp only [RM.eval] at he
          · rename_i hin
            obtain ⟨h1, h2⟩ := inB_iff hin
            simp only [Option.some.injEq, Prod.mk.injEq] at he
            obtain ⟨rfl, rfl⟩ := he
            rw [hv] at hx
            simp only [repV] at hx
            obtain ⟨b, hb, hx⟩ := hx
            have hrun : (execOp a.eval o).run P w = .ok (.value (.pointer (some ((⟨b, off, none⟩ : Addr).add (n.toNat * m))))) w := by
              unfold execOp
              simp [ho, Instr.indexAt, hi, hx, asIntOf, run_underlying hu, h1, h2, run_sizeOf hm, Instr.sureAddr]
            rw [hrun, Addr.add_lit]
            exact comes_val hs (by simp only [repV]; exact ⟨b, hb, rfl⟩)
          · cases he
        · cases he
      · cases he
    · cases he
  · cases he
theorem oIndex_ok (hs : Sat X h φ w) (ht : Tm h φ w (MB X h φ) tm a) {t : TypeId} {x i : Operand} (ho : o.op = .index t x i) (he : (oIndex P t x i).eval tm h.get = some (v, ws)) : Comes P X h φ w v (ws ++ h) ((execOp a.eval o).run P w) := by
  unfold oIndex at he
  rw [rd_eval, rd_eval] at he
  have hx := opv_rep ht x
  have hi := opv_rep ht i
  split at he
  · rename_i k n hv
    rw [hv] at hi
    simp only [repV] at hi
    split at he
    · rename_i hu
      split at he
      · rename_i s hv
        rw [hv] at hx
        simp only [repV] at hx
        rw [eval_opt] at he
        split at he
        · rename_i b hb
          simp only [RM.eval, Option.some.injEq, Prod.mk.injEq] at he
          obtain ⟨rfl, rfl⟩ := he
          unfold strAt at hb
          unfold execOp
          simp [ho, Instr.index, hi, hx, asIntOf, run_underlying hu, hb]
          exact comes_val hs (by simp only [repV])
        · cases he
      · cases he
    · rename_i len el hu
      split at he
      · rename_i m hm
        split at he
        · rename_i hc
          simp only [Bool.and_eq_true] at hc
          obtain ⟨d, hd⟩ := hasU hc.1
          have hn1 : aggOf P el = false → m = 1 := fun hg => by have := hc.2; rw [hg, Bool.false_or] at this; exact Nat.eq_of_beq_eq_true this
          split at he
          · rename_i cs hv
            rw [hv] at hx
            simp only [repV] at hx
            obtain ⟨aas, hx, hr⟩ := hx
            rw [eval_ite] at he
            split at he
            · rename_i hin
              obtain ⟨h1, h2⟩ := inB_iff hin
              obtain ⟨rfl, rfl, hlen⟩ := cut_ok he
              have hl := repVs_len hr
              simp at hl
              have hp := run_part hd hm aas (n.toNat * m) (fun hg => ⟨by have := hn1 hg; omega, hn1 hg⟩) w
              unfold execOp
              simp only [ho, Instr.index, hi, hx, asIntOf, Sem.run_bind, Sem.run_pure, run_underlying hu, Result.andThen_ok, h1, h2, and_self, if_true, run_sizeOf hm, hp]
              refine comes_val hs (mkV_rep (repVs_take m (repVs_drop _ hr)) (fun hg e => ?_))
              have e1 := hn1 hg
              have e2 : ((aas.toList.drop (n.toNat * m)).take m).length = m := by simp; omega
              rw [e] at e2; simp at e2; omega
            · cases he
          · cases he
        · cases he
      · cases he
    · cases he
  · cases he
theorem oExtract_ok (hs : Sat X h φ w) (ht : Tm h φ w (MB X h φ) tm a) {x : Operand} {i : Nat} (ho : o.op = .extract x i) (he : (oExtract x i).eval tm h.get = some (v, ws)) : Comes P X h φ w v (ws ++ h) ((execOp a.eval o).run P w) := by
  unfold oExtract at he
  rw [rd_eval] at he
  have hx := opv_rep ht x
  split at he
  · rename_i vs hv
    rw [hv] at hx
    simp only [repV] at hx
    obtain ⟨aas, hx, hr⟩ := hx
    split at he
    · rename_i v' hv'
      simp only [RM.eval, Option.some.injEq, Prod.mk.injEq] at he
      obtain ⟨rfl, rfl⟩ := he
      obtain ⟨u, h1, h2⟩ := repVs_get hr hv'
      rw [Array.getElem?_toList] at h1
      unfold execOp
      simp [ho, Instr.extract, hx, h1]
      exact comes_val hs h2
    · cases he
  · cases he
theorem oMakeFunc_ok (hs : Sat X h φ w) (ht : Tm h φ w (MB X h φ) tm a) {fn : Fn} {first captured : Array Operand} (ho : o.op = .makeFunc fn first captured) (he : (oMakeFunc fn first captured).eval tm h.get = some (v, ws)) : Comes P X h φ w v (ws ++ h) ((execOp a.eval o).run P w) := by
  unfold oMakeFunc at he
  split at he
  · rename_i f hf
    rw [rds_eval] at he
    simp only [RM.eval, Option.some.injEq, Prod.mk.injEq] at he
    obtain ⟨rfl, rfl⟩ := he
    have hf' : first = #[] := by
      cases first; simp_all
    subst hf'
    unfold execOp
    simp only [ho, Instr.makeFunc, Sem.run_bind, Sem.run_pure, Result.andThen_ok]
    refine comes_val hs ?_
    simp only [repV]
    exact ⟨captured.map a.eval, by simp, by simpa using opvs_rep ht captured.toList⟩
  · cases he
end
end Go.Proofs.YtdfgfjnpllncdaaGreatDoor.I

namespace Go.Proofs.YtdfgfjnpllncdaaGreatDoor.I
open Go.RowKit
set_option linter.unusedVariables false

def fillA (place : Nat → Option (Nat × Nat)) : List AV → List (Nat × AV) → Option (List AV)
  | cs, [] => some cs
  | cs, (i, u) :: rest => match place i with
    | some (off, size) => match Nat.beq u.cells.length size && (Nat.ble (off + size) cs.length && u.cells.all AV.one) with
      | true => fillA place (splice cs u.cells off) rest
      | false => none
    | none => none
def rdParts : List (Nat × Operand) → (List (Nat × AV) → RM) → RM
  | [], k => k []
  | (i, x) :: ps, k => rd x fun u => rdParts ps fun us => k ((i, u) :: us)
def placesOf (P : Program) : List Field → Option (List (Nat × Nat))
  | [] => some []
  | f :: fs => match szOf P f.type with
    | some n => match placesOf P fs with
      | some l => some ((f.offset, n) :: l)
      | none => none
    | none => none
def oBuild (P : Program) (t : TypeId) (parts : Array (Nat × Operand)) : RM := match zeroOf P t with
  | none => .fail
  | some z => match (avV z).cells.all AV.one with
    | false => .fail
    | true => match P.underlying t with
      | some (.struct fs) => match placesOf P fs.toList with
        | none => .fail
        | some pl => rdParts parts.toList fun ps => match fillA (fun i => pl[i]?) (avV z).cells ps with
          | some cs => force cs fun cs => .ret (.agg cs) []
          | none => .fail
      | some (.array len el) => match szOf P el with
        | none => .fail
        | some m => rdParts parts.toList fun ps => match fillA (fun i => some (i * m, m)) (avV z).cells ps with
          | some cs => force cs fun cs => .ret (.agg cs) []
          | none => .fail
      | _ => .fail
def Kd.encN (e : Kd) : Nat → List AV → Option (List e.T)
  | 0, cs => match cs with
    | [] => some []
    | _ => none
  | n + 1, cs => match e.enc cs with
    | some (x, r) => match e.encN n r with
      | some xs => some (x :: xs)
      | none => none
    | none => none
/-- The kind of a type. -/
def kindOf (P : Program) : Nat → TypeId → Option Kd
  | 0, _ => none
  | n + 1, t => match P.underlying t with
    | some (.int k) => some (.int k)
    | some .bool => some .bool
    | some .string => some .str
    | some (.slice e) => match kindOf P n e with
      | some k => some (.slice k)
      | none => none
    | some (.struct fs) => fs.toList.foldr (fun f acc => match acc with
      | some r => match (match P.underlying f.type with
          | some (.slice e) => Nat.beq e t
          | _ => false) with
        | true => match r with
          | .unit => some (.tree .unit)
          | _ => none
        | false => match r with
          | .tree p => match kindOf P n f.type with
            | some k => some (.tree (.pair k p))
            | none => none
          | _ => match kindOf P n f.type with
            | some k => some (.pair k r)
            | none => none
      | none => none) (some .unit)
    | _ => none
def oBuildSlice (P : Program) (fr : Nat) (t : TypeId) (len : Nat) (parts : Array (Nat × Operand)) : RM := match P.underlying t with
  | some (.slice el) => match szOf P el with
    | none => .fail
    | some m => match kindOf P 9 el with
      | none => .fail
      | some e => match Nat.beq m e.wd && (Nat.ble (len * m) 16777216 && ((zeroOf P el).isSome && !e.isFb)) with
        | false => .fail
        | true => rdParts parts.toList fun ps => match fillA (fun i => some (i * m, m)) (List.replicate (len * m) .any) ps with
          | none => .fail
          | some cs => match cs.all AV.one with
            | false => .fail
            | true => frees cs fun cs' ws => match e.encN len cs' with
              | some xs => .ret (.own fr) ((fr, .arr e xs true) :: ws)
              | none => .fail
  | _ => .fail

section
variable {P : Program} {X : Nat → Prop} {h : Hp} {φ : Lab} {w : World} {M : Nat → Prop} {tm : Nat → AV} {v : AV} {ws : Hp} {a : Act} {o : Oper}
theorem rdParts_eval {H : Nat → Option Blk} : ∀ {ps : List (Nat × Operand)} {k : List (Nat × AV) → RM}, (rdParts ps k).eval tm H = (k (ps.map fun p => (p.1, opv tm p.2))).eval tm H
  | [], _ => rfl
  | (i, x) :: ps, k => by rw [rdParts, rd_eval, rdParts_eval]; rfl
theorem fold_set : ∀ (vs : List Value) (k off : Nat) (cs : Array Value), off + k + vs.length ≤ cs.size →
    ((vs.zipIdx k).foldl (fun cs (c, j) => cs.setIfInBounds (off + j) c) cs).toList = cs.toList.take (off + k) ++ vs ++ cs.toList.drop (off + k + vs.length)
  | [], k, off, cs, _ => by simp
  | v :: vs, k, off, cs, hl => by
    simp only [List.length_cons] at hl
    rw [List.zipIdx_cons, List.foldl_cons, fold_set vs (k + 1) off _ (by simp; omega), Array.toList_setIfInBounds, ← Nat.add_assoc, list_seg_step cs.toList (off + k) v vs (by simp; omega)]
    simp
theorem fold_set' (vs : Array Value) (off : Nat) (cs : Array Value) (hl : off + vs.size ≤ cs.size) :
    (vs.zipIdx.foldl (fun cs (c, j) => cs.setIfInBounds (off + j) c) cs).toList = cs.toList.take off ++ (vs.toList ++ cs.toList.drop (off + vs.toList.length)) := by
  rw [← Array.foldl_toList, Array.toList_zipIdx]
  have := fold_set vs.toList 0 off cs (by simpa using hl)
  simpa using this
theorem fill_ok {place : Nat → Option (Nat × Nat)} : ∀ {ps : List (Nat × AV)} {vs : List (Nat × Value)} {cs r : List AV} {aas : Array Value}, fillA place cs ps = some r → repVs h φ w M cs aas.toList → ps.map (·.1) = vs.map (·.1) → repVs h φ w M (ps.map (·.2)) (vs.map (·.2)) →
    ∃ bs, Instr.fill place aas vs = some bs ∧ repVs h φ w M r bs.toList
  | [], [], cs, r, aas, e, hc, _, _ => by
    simp only [fillA, Option.some.injEq] at e
    subst e
    exact ⟨aas, rfl, hc⟩
  | [], _ :: _, _, _, _, _, _, e, _ => by simp at e
  | _ :: _, [], _, _, _, _, _, e, _ => by simp at e
  | (i, u) :: ps, (j, v) :: vs, cs, r, aas, e, hc, hi, hv => by
    simp only [List.map_cons, List.cons.injEq] at hi
    obtain ⟨rfl, hi⟩ := hi
    simp only [List.map_cons, repVs] at hv
    obtain ⟨v', vs', e1, h1, h2⟩ := hv
    simp only [List.cons.injEq] at e1
    obtain ⟨rfl, rfl⟩ := e1
    simp only [fillA] at e
    split at e
    · rename_i off size hp
      split at e
      · rename_i hcc
        simp only [Bool.and_eq_true] at hcc
        obtain ⟨c1, c2, c3⟩ := hcc
        have c1 := Nat.eq_of_beq_eq_true c1
        have c2 := Nat.le_of_ble_eq_true c2
        have hcr := cells_rep c3 h1
        have hl1 := repVs_len hcr
        have hl2 := repVs_len hc
        simp at hl1 hl2
        have hsp := repVs_splice (w := w) off hc hcr
        rw [← fold_set' v.cells off aas (by omega)] at hsp
        obtain ⟨bs, g1, g2⟩ := fill_ok e hsp hi h2
        refine ⟨bs, ?_, g2⟩
        simp only [Instr.fill, hp]
        rw [if_neg (by simp; omega)]
        exact g1
      · cases e
    · cases e
theorem parts_rep {M : Nat → Prop} (ht : Tm h φ w M tm a) (ps : List (Nat × Operand)) : (ps.map fun p => (p.1, opv tm p.2)).map (·.1) = (ps.map fun p => (p.1, a.eval p.2)).map (·.1) ∧ repVs h φ w M ((ps.map fun p => (p.1, opv tm p.2)).map (·.2)) ((ps.map fun p => (p.1, a.eval p.2)).map (·.2)) := by
  constructor
  · simp
  · rw [List.map_map, List.map_map]
    have := opvs_rep ht (ps.map (·.2))
    rw [List.map_map, List.map_map] at this
    exact this
theorem run_zeroValue {t : TypeId} {z : Value} (hz : zeroOf P t = some z) (w : World) : (zeroValue t).run P w = .ok z w := by
  unfold zeroOf at hz
  cases hi : P.info? t with
  | none => rw [hi] at hz; cases hz
  | some i =>
    rw [hi, Option.bind_some] at hz
    simp [zeroValue, typeInfo, hi, hz]
theorem run_places {w : World} : ∀ {fs : List Field} {pl : List (Nat × Nat)}, placesOf P fs = some pl → (fs.mapM (fun f => do pure (f.offset, ← sizeOf f.type) : Field → Sem (Nat × Nat))).run P w = .ok pl w
  | [], _, e => by simp only [placesOf, Option.some.injEq] at e; subst e; simp
  | f :: fs, pl, e => by
    simp only [placesOf] at e
    split at e
    · rename_i n hn
      split at e
      · rename_i l hl
        simp only [Option.some.injEq] at e
        subst e
        rw [List.mapM_cons]
        simp only [Sem.run_bind, run_sizeOf hn, Result.andThen_ok, Sem.run_pure, run_places hl]
      · cases e
    · cases e
theorem oBuild_ok (hs : Sat X h φ w) (ht : Tm h φ w (MB X h φ) tm a) {t : TypeId} {parts : Array (Nat × Operand)} (ho : o.op = .build t parts) (he : (oBuild P t parts).eval tm h.get = some (v, ws)) : Comes P X h φ w v (ws ++ h) ((execOp a.eval o).run P w) := by
  unfold oBuild at he
  split at he
  · cases he
  · rename_i z hz
    split at he
    · cases he
    · rename_i hz1
      have hzr := cells_rep (h := h) (φ := φ) (w := w) (M := MB X h φ) hz1 (avV_rep z)
      obtain ⟨p1, p2⟩ := parts_rep ht parts.toList
      split at he
      · rename_i fs hu
        split at he
        · cases he
        · rename_i pl hpl
          rw [rdParts_eval] at he
          split at he
          · rename_i cs hcs
            rw [force_eq] at he
            simp only [RM.eval, Option.some.injEq, Prod.mk.injEq] at he
            obtain ⟨rfl, rfl⟩ := he
            obtain ⟨bs, g1, g2⟩ := fill_ok hcs hzr p1 p2
            have hpr := run_places (P := P) (w := w) hpl
            unfold execOp
            simp only [ho, Instr.build, Sem.run_bind, run_zeroValue hz, Result.andThen_ok, run_underlying hu, Sem.run_pure]
            rw [Array.mapM_eq_mapM_toList]
            simp only [Sem.run_map, hpr, Result.andThen_ok, List.getElem?_toArray, Array.toList_map, g1, Sem.run_pure]
            exact comes_val hs (by simp only [repV]; exact ⟨bs, rfl, g2⟩)
          · cases he
      · rename_i len el hu
        split at he
        · cases he
        · rename_i m hm
          rw [rdParts_eval] at he
          split at he
          · rename_i cs hcs
            rw [force_eq] at he
            simp only [RM.eval, Option.some.injEq, Prod.mk.injEq] at he
            obtain ⟨rfl, rfl⟩ := he
            obtain ⟨bs, g1, g2⟩ := fill_ok hcs hzr p1 p2
            unfold execOp
            simp only [ho, Instr.build, Sem.run_bind, run_zeroValue hz, Result.andThen_ok, run_underlying hu, Sem.run_pure, run_sizeOf hm, Array.toList_map, g1]
            exact comes_val hs (by simp only [repV]; exact ⟨bs, rfl, g2⟩)
          · cases he
      · cases he
theorem encN_rep {e : Kd} : ∀ {n : Nat} {cs : List AV} {xs : List e.T} {vs : List Value}, e.encN n cs = some xs → repVs h φ w M cs vs → reps (rep w M e) xs vs ∧ xs.length = n
  | 0, cs, xs, vs, g, hv => by
    simp only [Kd.encN] at g
    split at g
    · injection g with g; subst g; exact ⟨trivial, rfl⟩
    · cases g
  | n + 1, cs, xs, vs, g, hv => by
    simp only [Kd.encN] at g
    split at g
    · rename_i x r e1
      split at g
      · rename_i ys e2
        injection g with g
        subst g
        obtain ⟨u, v, h1, h2, h3⟩ := enc_rep e1 hv
        obtain ⟨h4, h5⟩ := encN_rep e2 h3
        exact ⟨⟨u, v, h1, h2, h4⟩, by simp [h5]⟩
      · cases g
    · cases g
theorem Freed.fresh {cs cs' : List AV} {ws : Hp} (hf : Freed X h φ w cs cs' ws) {f : Nat} (he : h.get f = none) : (ws ++ h : Hp).get f = none := by
  rw [hf.get f]
  cases hw : (ws : Hp).get f with
  | none => exact he
  | some B =>
    obtain ⟨e, xs, o, _, h1⟩ := hf.only f B hw
    rw [he] at h1; cases h1
theorem any_reps : ∀ (n : Nat) (vs : List Value), vs.length = n → repVs h φ w M (List.replicate n .any) vs
  | 0, vs, e => by simp only [List.replicate, repVs]; exact List.eq_nil_of_length_eq_zero e
  | n + 1, [], e => by simp at e
  | n + 1, v :: vs, e => by
    rw [List.replicate_succ]
    exact ⟨v, vs, rfl, by simp only [repV], any_reps n vs (by simpa using e)⟩
theorem oBuildSlice_ok (hs : Sat X h φ w) (ht : Tm h φ w (MB X h φ) tm a) {fr : Nat} (hf : h.get fr = none) {t : TypeId} {len : Nat} {parts : Array (Nat × Operand)} (ho : o.op = .buildSlice t len parts) (he : (oBuildSlice P fr t len parts).eval tm h.get = some (v, ws)) : Comes P X h φ w v (ws ++ h) ((execOp a.eval o).run P w) := by
  unfold oBuildSlice at he
  split at he
  · rename_i el hu
    split at he
    · cases he
    · rename_i m hm
      split at he
      · cases he
      · rename_i e hk
        split at he
        · cases he
        · rename_i hc
          simp only [Bool.and_eq_true] at hc
          obtain ⟨c1, c2, c3, hfbE⟩ := hc
          have c1 := Nat.eq_of_beq_eq_true c1
          have c2 := Nat.le_of_ble_eq_true c2
          obtain ⟨z, hz⟩ := Option.isSome_iff_exists.1 c3
          obtain ⟨p1, p2⟩ := parts_rep ht parts.toList
          rw [rdParts_eval] at he
          split at he
          · cases he
          · rename_i cs hcs
            split at he
            · cases he
            · rename_i hone
              obtain ⟨cs', fws, he, hfr, _, hlen⟩ := frees_ok (X := X) (φ := φ) (w := w) he
              split at he
              · rename_i xs henc
                simp only [RM.eval, Option.some.injEq, Prod.mk.injEq] at he
                obtain ⟨rfl, rfl⟩ := he
                have hrun : ∃ aas : Array Value, aas.size = len * m ∧ ∀ bs, Instr.fill (fun i => some (i * m, m)) aas (parts.toList.map fun p => (p.1, a.eval p.2)) = some bs → (execOp a.eval o).run P w = .ok (.value (.slice (some ⟨w.heap.size, 0, none⟩) len len)) { w with heap := w.heap.push (.cells bs el) } := by
                  have hgt : ¬ (len * m > 2 ^ 24) := by omega
                  by_cases h0 : len * m = 0
                  · refine ⟨(Array.range (len * m)).map ((#[] : Array Value)[· % (#[] : Array Value).size]!), by simp, fun bs hb => ?_⟩
                    unfold execOp
                    simp only [ho, Instr.buildSlice, Sem.run_bind, run_underlying hu, Result.andThen_ok, run_sizeOf hm, hgt, if_false, if_pos h0, Sem.run_pure, Array.toList_map]
                    rw [hb]
                    rfl
                  · refine ⟨(Array.range (len * m)).map (z.cells[· % z.cells.size]!), by simp, fun bs hb => ?_⟩
                    unfold execOp
                    simp only [ho, Instr.buildSlice, Sem.run_bind, run_underlying hu, Result.andThen_ok, run_sizeOf hm, hgt, if_false, if_neg h0, run_zeroValue hz, Sem.run_pure, Array.toList_map]
                    rw [hb]
                    rfl
                obtain ⟨aas, has, hrun⟩ := hrun
                obtain ⟨bs, g1, g2⟩ := fill_ok (aas := aas) hcs (any_reps (len * m) _ (by simpa using has)) p1 p2
                rw [hrun bs g1]
                have hps := hfr.post hs
                have hbl : bs.size = len * m := by
                  have l1 := repVs_len g2
                  have l2 : ∀ (place : Nat → Option (Nat × Nat)) (ps : List (Nat × AV)) (cs r : List AV), fillA place cs ps = some r → r.length = cs.length := by
                    intro place ps
                    induction ps with
                    | nil => intro cs r e; simp only [fillA, Option.some.injEq] at e; rw [e]
                    | cons p ps ih =>
                      intro cs r e
                      simp only [fillA] at e
                      split at e
                      · split at e
                        · rename_i hcc
                          simp only [Bool.and_eq_true] at hcc
                          have := Nat.le_of_ble_eq_true hcc.2.1
                          have := Nat.eq_of_beq_eq_true hcc.1
                          rw [ih _ _ e]
                          simp [splice]
                          omega
                        · cases e
                      · cases e
                  have l3 := l2 _ _ _ _ hcs
                  simp at l1 l3
                  omega
                have hp2 := post_new (w' := { w with heap := w.heap.push (.cells bs el) }) (B := .arr e xs true) hps.sat (hfr.fresh hf) (c := bs) (t := el) (fr := (0, 0)) ⟨rfl, rfl, rfl⟩ rfl rfl
                  (fun h' φ' M' hup hl hat => .inr ⟨_, bs, el, (0, 0), hl, hat, free_frRow (by simpa using hfbE) (.inl rfl), (encN_rep henc (hfr.vals hs _ g2 _ _ _ _ hup)).1⟩)
                refine ⟨_, hps.trans hp2, ?_⟩
                simp only [repV]
                have hxl := (encN_rep henc (hfr.vals hs _ g2 _ _ _ _ hp2.up)).2
                refine ⟨_, len, len, rfl, by rw [List.cons_append, Hp.get_cons, if_pos rfl]; simp, fun e' xs' o' hB => ?_⟩
                rw [List.cons_append, Hp.get_cons, if_pos rfl] at hB
                injection hB with hB
                injection hB with q1 q2 q3
                subst q1
                have q2 := eq_of_heq q2
                subst q2
                refine ⟨hxl.symm, Nat.le_refl _, by rw [Lab.set_eq]; rfl, fun hn => (by rw [Lab.set_eq] at hn; cases hn), fun b hb => ?_⟩
                rw [Lab.set_eq] at hb
                injection hb with hb
                subst hb
                exact ⟨bs, el, (0, 0), by simp, by rw [hbl, c1]; exact Nat.le_refl _⟩
              · cases he
  · cases he
end
end Go.Proofs.YtdfgfjnpllncdaaGreatDoor.I

namespace Go.Proofs.YtdfgfjnpllncdaaGreatDoor.I
open Go.RowKit
set_option linter.unusedVariables false

def oLen (P : Program) (t : TypeId) (x : Operand) : RM := rd x fun u => match P.underlying t with
  | some .string => match u with
    | .str s => .ret (.int .i64 (s.size : Int)) []
    | _ => .fail
  | some (.slice _) => match u with
    | .own l => .getH l fun B => match B with
      | .arr e xs _ => .ret (.int .i64 (xs.length : Int)) []
      | _ => .fail
    | .fz e xs => .ret (.int .i64 (xs.length : Int)) []
    | .nils => .ret (.int .i64 0) []
    | _ => .fail
  | some (.array n _) => .ret (.int .i64 (n : Int)) []
  | _ => .fail
def rdO : Option Operand → (Option AV → RM) → RM
  | none, k => k none
  | some x, k => rd x fun u => k (some u)
def upTo (n : Int) (m : Int) : Bool := decide (0 ≤ n ∧ n ≤ m)
def subOf {e : Kd} (xs : List e.T) (lo hi : Option AV) (ws : Hp) : RM := match lo, hi with
  | none, none => .ret (.fz e xs) ws
  | some (.int _ l), none => .ite (upTo l (xs.length : Int)) (.ret (.fz e (xs.drop l.toNat)) ws) .fail
  | none, some (.int _ h) => .ite (upTo h (xs.length : Int)) (.ret (.fz e (xs.take h.toNat)) ws) .fail
  | some (.int _ l), some (.int _ h) => .ite (upTo h (xs.length : Int)) (.ite (upTo l h) (.ret (.fz e ((xs.take h.toNat).drop l.toNat)) ws) .fail) .fail
  | _, _ => .fail
def oSlice (P : Program) (t : TypeId) (x : Operand) (lo hi mx : Option Operand) : RM := match mx with
  | some _ => .fail
  | none => rd x fun u => rdO lo fun l => rdO hi fun h => match P.underlying t with
    | some .string => match u with
      | .str s => match l, h with
        | none, none => .ret (.str (s.extract 0 s.size)) []
        | some (.int _ l), none => .ite (upTo l (s.size : Int)) (.ret (.str (s.extract l.toNat s.size)) []) .fail
        | none, some (.int _ h) => .ite (upTo h (s.size : Int)) (.ret (.str (s.extract 0 h.toNat)) []) .fail
        | some (.int _ l), some (.int _ h) => .ite (upTo h (s.size : Int)) (.ite (upTo l h) (.ret (.str (s.extract l.toNat h.toNat)) []) .fail) .fail
        | _, _ => .fail
      | _ => .fail
    | some (.slice el) => match szOf P el with
      | some m => match u with
        | .own k => .getH k fun B => match B with
          | .arr e xs _ => match Nat.beq m e.wd with
            | true => subOf xs l h [(k, .arr e xs false)]
            | false => .fail
          | _ => .fail
        | .fz e xs => match Nat.beq m e.wd with
          | true => subOf xs l h []
          | false => .fail
        | _ => .fail
      | none => .fail
    | _ => .fail

section
variable {P : Program} {X : Nat → Prop} {h : Hp} {φ : Lab} {w : World} {M : Nat → Prop} {tm : Nat → AV} {v : AV} {ws : Hp} {a : Act} {o : Oper}
theorem upTo_iff {n m : Int} (e : upTo n m = true) : 0 ≤ n ∧ n ≤ m := by simpa [upTo] using e
theorem rdO_eval {H : Nat → Option Blk} {x : Option Operand} {k : Option AV → RM} : (rdO x k).eval tm H = (k (x.map (opv tm))).eval tm H := by
  cases x with
  | none => rfl
  | some x => rw [rdO, rd_eval]; rfl
theorem own_len (hs : Sat X h φ w) {l : Nat} {e : Kd} {xs : List e.T} {oo : Bool} (hB : h.get l = some (.arr e xs oo)) {u : Value} (hu : repV h φ w M (.own l) u) : ∃ A cap, u = .slice A xs.length cap ∧ xs.length ≤ cap := by
  simp only [repV] at hu
  obtain ⟨A, n, cap, rfl, _, h3⟩ := hu
  obtain ⟨rfl, h4, _⟩ := h3 _ _ _ hB
  exact ⟨A, cap, rfl, h4⟩
theorem oLen_ok (hs : Sat X h φ w) (ht : Tm h φ w (MB X h φ) tm a) {t : TypeId} {x : Operand} (ho : o.op = .call { callee := .builtin .len, args := #[x], argTypes := #[t] }) (he : (oLen P t x).eval tm h.get = some (v, ws)) : Comes P X h φ w v (ws ++ h) ((execOp a.eval o).run P w) := by
  unfold oLen at he
  rw [rd_eval] at he
  have hx := opv_rep ht x
  have hrun : ∀ d n, P.underlying t = some d → ((d = .string ∧ ∃ s : ByteArray, a.eval x = .string s ∧ n = s.size) ∨ (∃ e A cap, d = .slice e ∧ a.eval x = .slice A n cap) ∨ (∃ e, d = .array n e)) → (execOp a.eval o).run P w = .ok (.value (.int .i64 (n : Int))) w := by
    rintro d n hu (⟨rfl, s, hp, rfl⟩ | ⟨e, A, cap, rfl, hp⟩ | ⟨e, rfl⟩)
    · unfold execOp
      simp [ho, resolve, invoke, builtin, Builtin.len_, run_underlying hu, hp, goInt]
    · unfold execOp
      simp [ho, resolve, invoke, builtin, Builtin.len_, run_underlying hu, hp, goInt]
    · unfold execOp
      simp [ho, resolve, invoke, builtin, Builtin.len_, run_underlying hu, goInt]
  split at he
  · rename_i hu
    split at he
    · rename_i s hv
      rw [hv] at hx
      simp only [repV] at hx
      simp only [RM.eval, Option.some.injEq, Prod.mk.injEq] at he
      obtain ⟨rfl, rfl⟩ := he
      rw [hrun _ s.size hu (.inl ⟨rfl, s, hx, rfl⟩)]
      exact comes_val hs (by simp only [repV])
    · cases he
  · rename_i el hu
    split at he
    · rename_i l hv
      rw [hv] at hx
      rw [eval_getH] at he
      split at he
      · rename_i B hB
        split at he
        · rename_i e xs oo
          simp only [RM.eval, Option.some.injEq, Prod.mk.injEq] at he
          obtain ⟨rfl, rfl⟩ := he
          obtain ⟨A, cap, hp, _⟩ := own_len hs hB hx
          rw [hrun _ xs.length hu (.inr (.inl ⟨_, A, cap, rfl, hp⟩))]
          exact comes_val hs (by simp only [repV])
        · cases he
      · cases he
    · rename_i e xs hv
      rw [hv] at hx
      simp only [repV] at hx
      obtain ⟨A, cap, hp, _⟩ := hx
      simp only [RM.eval, Option.some.injEq, Prod.mk.injEq] at he
      obtain ⟨rfl, rfl⟩ := he
      rw [hrun _ xs.length hu (.inr (.inl ⟨_, A, cap, rfl, hp⟩))]
      exact comes_val hs (by simp only [repV])
    · rename_i hv
      rw [hv] at hx
      simp only [repV] at hx
      simp only [RM.eval, Option.some.injEq, Prod.mk.injEq] at he
      obtain ⟨rfl, rfl⟩ := he
      rw [hrun _ 0 hu (.inr (.inl ⟨_, none, 0, rfl, hx⟩))]
      exact comes_val hs (by simp only [repV]; rfl)
    · cases he
  · rename_i n el hu
    simp only [RM.eval, Option.some.injEq, Prod.mk.injEq] at he
    obtain ⟨rfl, rfl⟩ := he
    rw [hrun _ n hu (.inr (.inr ⟨_, rfl⟩))]
    exact comes_val hs (by simp only [repV])
  · cases he

theorem sub_rep {e : Kd} {xs : List e.T} {A : Option Addr} {cap l hh : Nat} (hx : sliceRep w M (rep w M e) xs (.slice A xs.length cap)) (h1 : l ≤ hh) (h2 : hh ≤ xs.length) :
    sliceRep w M (rep w M e) ((xs.take hh).drop l) (.slice (if cap = l then A else A.map (·.add (l * e.wd))) (hh - l) (cap - l)) := by
  obtain ⟨A', cap', e1, h3, h4⟩ := hx
  simp only [Value.slice.injEq, true_and] at e1
  obtain ⟨rfl, rfl⟩ := e1
  have hlen : ((xs.take hh).drop l).length = hh - l := by rw [List.length_drop, List.length_take]; omega
  refine ⟨_, cap - l, by rw [hlen], by rw [hlen]; omega, fun hne => ?_⟩
  have hlt : l < hh := by
    rcases Nat.lt_or_ge l hh with h5 | h5
    · exact h5
    · exact absurd (List.drop_of_length_le (by simp; omega)) hne
  rw [if_neg (by omega)]
  obtain ⟨ad, rfl, g1, g2, c, tt, fr, g3, g4⟩ := h4 (fun e => by subst e; simp at h2; omega)
  obtain ⟨adb, ado, ads⟩ := ad
  simp only at g1
  subst g1
  refine ⟨_, rfl, ?_⟩
  show memAt w M ((⟨adb, ado, none⟩ : Addr).add (l * e.wd)) _
  rw [Addr.add_lit]
  refine ⟨rfl, g2, c, tt, fr, g3, ?_⟩
  simp only
  rw [← List.drop_drop]
  exact reps_drop (fun x u hh => rep_len hh) l (by simp; omega) (reps_take hh g4)
theorem run_sliceBounds {b : Bool} {len cap : Nat} {lo hi : Option Value} {l hh : Nat} (hlc : len ≤ cap) (h1 : (hi = none ∧ hh = len) ∨ (∃ k n, hi = some (.int k n) ∧ 0 ≤ n ∧ n ≤ (len : Int) ∧ hh = n.toNat)) (h2 : (lo = none ∧ l = 0) ∨ (∃ k n, lo = some (.int k n) ∧ 0 ≤ n ∧ n ≤ (hh : Int) ∧ l = n.toNat)) :
    (Instr.sliceBounds b len cap lo hi none).run P w = .ok (l, hh, cap) w := by
  rcases h1 with ⟨rfl, rfl⟩ | ⟨k, n, rfl, a1, a2, rfl⟩ <;> rcases h2 with ⟨rfl, rfl⟩ | ⟨k', n', rfl, b1, b2, rfl⟩
  · simp [Instr.sliceBounds]
  · simp [Instr.sliceBounds, Instr.sliceBound, asIntOf, b1, b2]
  · have : n ≤ (cap : Int) := by omega
    simp [Instr.sliceBounds, Instr.sliceBound, asIntOf, a1, this]
  · have : n ≤ (cap : Int) := by omega
    have b3 : n' ≤ max n 0 := by omega
    simp [Instr.sliceBounds, Instr.sliceBound, asIntOf, a1, this, b1, b3]
theorem subOf_ws {e : Kd} {xs : List e.T} {lo hi : Option AV} {ws0 : Hp} {H : Nat → Option Blk} (he : (subOf xs lo hi ws0).eval tm H = some (v, ws)) : ws = ws0 := by
  unfold subOf at he
  split at he
  · simp only [RM.eval, Option.some.injEq, Prod.mk.injEq] at he; exact he.2.symm
  · rw [eval_ite] at he
    split at he
    · simp only [RM.eval, Option.some.injEq, Prod.mk.injEq] at he; exact he.2.symm
    · cases he
  · rw [eval_ite] at he
    split at he
    · simp only [RM.eval, Option.some.injEq, Prod.mk.injEq] at he; exact he.2.symm
    · cases he
  · rw [eval_ite] at he
    split at he
    · rw [eval_ite] at he
      split at he
      · simp only [RM.eval, Option.some.injEq, Prod.mk.injEq] at he; exact he.2.symm
      · cases he
    · cases he
  · cases he
theorem oSlice_ok (hs : Sat X h φ w) (ht : Tm h φ w (MB X h φ) tm a) {t : TypeId} {x : Operand} {lo hi mx : Option Operand} (ho : o.op = .slice t x lo hi mx) (he : (oSlice P t x lo hi mx).eval tm h.get = some (v, ws)) : Comes P X h φ w v (ws ++ h) ((execOp a.eval o).run P w) := by
  unfold oSlice at he
  split at he
  · cases he
  rw [rd_eval, rdO_eval, rdO_eval] at he
  have hx := opv_rep ht x
  have hO : ∀ (y : Option Operand) (r : Option AV), y.map (opv tm) = r → (r = none ∧ y.map a.eval = none) ∨ (∃ u, r = some u ∧ ∃ q, y.map a.eval = some q ∧ repV h φ w (MB X h φ) u q) := by
    intro y r hr
    cases y with
    | none => exact .inl ⟨hr.symm, rfl⟩
    | some y => exact .inr ⟨_, hr.symm, _, rfl, opv_rep ht y⟩
  have hl := hO lo _ rfl
  have hh := hO hi _ rfl
  generalize lo.map (opv tm) = L at *
  generalize hi.map (opv tm) = H at *
  split at he
  · rename_i hu
    split at he
    · rename_i s hv
      rw [hv] at hx
      simp only [repV] at hx
      have hrun : ∀ l hh', ((hi.map a.eval = none ∧ hh' = s.size) ∨ (∃ k n, hi.map a.eval = some (.int k n) ∧ 0 ≤ n ∧ n ≤ (s.size : Int) ∧ hh' = n.toNat)) → ((lo.map a.eval = none ∧ l = 0) ∨ (∃ k n, lo.map a.eval = some (.int k n) ∧ 0 ≤ n ∧ n ≤ (hh' : Int) ∧ l = n.toNat)) → (execOp a.eval o).run P w = .ok (.value (.string (s.extract l hh'))) w := by
        intro l hh' h1 h2
        have hb := run_sliceBounds (P := P) (w := w) (b := false) (cap := s.size) (Nat.le_refl _) h1 h2
        unfold execOp
        simp only [ho, Option.map_none, Instr.sliceAt, Sem.run_bind, run_underlying hu, Result.andThen_ok, Instr.slice, hx, Option.isSome_none, Bool.false_eq_true, if_false, Sem.run_pure, hb]
      split at he
      · simp only [RM.eval, Option.some.injEq, Prod.mk.injEq] at he
        obtain ⟨rfl, rfl⟩ := he
        rcases hl with ⟨_, hl⟩ | ⟨_, e, _⟩ <;> rcases hh with ⟨_, hh⟩ | ⟨_, e', _⟩ <;> first | (cases e; done) | (cases e'; done) | skip
        rw [hrun 0 s.size (.inl ⟨hh, rfl⟩) (.inl ⟨hl, rfl⟩)]
        exact comes_val hs (by simp only [repV])
      · rw [eval_ite] at he
        split at he <;> simp only [RM.eval] at he
        · rename_i k l _ hc
          obtain ⟨c1, c2⟩ := upTo_iff hc
          simp only [Option.some.injEq, Prod.mk.injEq] at he
          obtain ⟨rfl, rfl⟩ := he
          rcases hl with ⟨e, _⟩ | ⟨_, e, q, hl, hq⟩ <;> rcases hh with ⟨_, hh⟩ | ⟨_, e', _⟩ <;> first | (cases e; done) | (cases e'; done) | skip
          injection e with e; subst e
          simp only [repV] at hq
          subst hq
          rw [hrun l.toNat s.size (.inl ⟨hh, rfl⟩) (.inr ⟨_, l, hl, c1, c2, rfl⟩)]
          exact comes_val hs (by simp only [repV])
        · cases he
      · rw [eval_ite] at he
        split at he <;> simp only [RM.eval] at he
        · rename_i k l _ hc
          obtain ⟨c1, c2⟩ := upTo_iff hc
          simp only [Option.some.injEq, Prod.mk.injEq] at he
          obtain ⟨rfl, rfl⟩ := he
          rcases hl with ⟨_, hl⟩ | ⟨_, e, _⟩ <;> rcases hh with ⟨e', _⟩ | ⟨_, e', q, hh, hq⟩ <;> first | (cases e; done) | (cases e'; done) | skip
          injection e' with e'; subst e'
          simp only [repV] at hq
          subst hq
          rw [hrun 0 l.toNat (.inr ⟨_, l, hh, c1, c2, rfl⟩) (.inl ⟨hl, rfl⟩)]
          exact comes_val hs (by simp only [repV])
        · cases he
      · rw [eval_ite] at he
        split at he <;> simp only [RM.eval] at he
        · rename_i kl l kh r _ hc
          obtain ⟨c1, c2⟩ := upTo_iff hc
          split at he
          · rename_i hc'
            obtain ⟨c3, c4⟩ := upTo_iff hc'
            simp only [Option.some.injEq, Prod.mk.injEq] at he
            obtain ⟨rfl, rfl⟩ := he
            rcases hl with ⟨e, _⟩ | ⟨_, e, q, hl, hq⟩ <;> rcases hh with ⟨e', _⟩ | ⟨_, e', q', hh, hq'⟩ <;> first | (cases e; done) | (cases e'; done) | skip
            injection e with e; subst e
            injection e' with e'; subst e'
            simp only [repV] at hq hq'
            subst hq hq'
            rw [hrun l.toNat r.toNat (.inr ⟨_, r, hh, c1, c2, rfl⟩) (.inr ⟨_, l, hl, c3, by omega, rfl⟩)]
            exact comes_val hs (by simp only [repV])
          · cases he
        · cases he
      · cases he
    · cases he
  · rename_i el hu
    split at he
    · rename_i m hm
      have hrun : ∀ A len cap l hh', a.eval x = .slice A len cap → len ≤ cap → ((hi.map a.eval = none ∧ hh' = len) ∨ (∃ k n, hi.map a.eval = some (.int k n) ∧ 0 ≤ n ∧ n ≤ (len : Int) ∧ hh' = n.toNat)) → ((lo.map a.eval = none ∧ l = 0) ∨ (∃ k n, lo.map a.eval = some (.int k n) ∧ 0 ≤ n ∧ n ≤ (hh' : Int) ∧ l = n.toNat)) →
          (execOp a.eval o).run P w = .ok (.value (.slice (if cap = l then A else A.map (·.add (l * m))) (hh' - l) (cap - l))) w := by
        intro A len cap l hh' hp hlc h1 h2
        have hb := run_sliceBounds (P := P) (w := w) (b := true) hlc h1 h2
        unfold execOp
        simp only [ho, Option.map_none, Instr.sliceAt, Sem.run_bind, run_underlying hu, Result.andThen_ok, Instr.slice, hp, hb, run_sizeOf hm, Sem.run_pure]
      have hsub : ∀ {e : Kd} {xs : List e.T} {A : Option Addr} {cap : Nat} {h0 : Hp} {φ0 : Lab}, m = e.wd → a.eval x = .slice A xs.length cap → Post X h φ w (ws ++ h) φ w → sliceRep w (MB X (ws ++ h) φ) (rep w (MB X (ws ++ h) φ) e) xs (.slice A xs.length cap) → (∀ ws0, ws0 = ws → (subOf xs L H ws0).eval tm h.get = some (v, ws) → Comes P X h φ w v (ws ++ h) ((execOp a.eval o).run P w)) := by
        intro e xs A cap _ _ hme hp hpost hrep ws0 hws hev
        subst hme hws
        have hlc : xs.length ≤ cap := by obtain ⟨A', cap', e1, h3, _⟩ := hrep; simp only [Value.slice.injEq, true_and] at e1; omega
        have fin : ∀ l hh', l ≤ hh' → hh' ≤ xs.length → ((hi.map a.eval = none ∧ hh' = xs.length) ∨ (∃ k n, hi.map a.eval = some (.int k n) ∧ 0 ≤ n ∧ n ≤ (xs.length : Int) ∧ hh' = n.toNat)) → ((lo.map a.eval = none ∧ l = 0) ∨ (∃ k n, lo.map a.eval = some (.int k n) ∧ 0 ≤ n ∧ n ≤ (hh' : Int) ∧ l = n.toNat)) → v = .fz e ((xs.take hh').drop l) → Comes P X h φ w v (ws0 ++ h) ((execOp a.eval o).run P w) := by
          intro l hh' h1 h2 h3 h4 hv
          rw [hrun A xs.length cap l hh' hp hlc h3 h4]
          exact ⟨φ, hpost, by subst hv; simp only [repV]; exact sub_rep hrep h1 h2⟩
        unfold subOf at hev
        split at hev
        · simp only [RM.eval, Option.some.injEq, Prod.mk.injEq] at hev
          obtain ⟨hev, _⟩ := hev
          rcases hl with ⟨_, hl⟩ | ⟨_, e, _⟩ <;> rcases hh with ⟨_, hh⟩ | ⟨_, e', _⟩ <;> first | (cases e; done) | (cases e'; done) | skip
          exact fin 0 xs.length (by omega) (Nat.le_refl _) (.inl ⟨hh, rfl⟩) (.inl ⟨hl, rfl⟩) (by rw [← hev]; simp)
        · rw [eval_ite] at hev
          split at hev <;> simp only [RM.eval] at hev
          · rename_i k l _ hc
            obtain ⟨c1, c2⟩ := upTo_iff hc
            simp only [Option.some.injEq, Prod.mk.injEq] at hev
            obtain ⟨hev, _⟩ := hev
            rcases hl with ⟨e, _⟩ | ⟨_, e, q, hl, hq⟩ <;> rcases hh with ⟨_, hh⟩ | ⟨_, e', _⟩ <;> first | (cases e; done) | (cases e'; done) | skip
            injection e with e; subst e
            simp only [repV] at hq
            subst hq
            exact fin l.toNat xs.length (by omega) (Nat.le_refl _) (.inl ⟨hh, rfl⟩) (.inr ⟨_, l, hl, c1, c2, rfl⟩) (by rw [← hev]; simp)
          · cases hev
        · rw [eval_ite] at hev
          split at hev <;> simp only [RM.eval] at hev
          · rename_i k l _ hc
            obtain ⟨c1, c2⟩ := upTo_iff hc
            simp only [Option.some.injEq, Prod.mk.injEq] at hev
            obtain ⟨hev, _⟩ := hev
            rcases hl with ⟨_, hl⟩ | ⟨_, e, _⟩ <;> rcases hh with ⟨e', _⟩ | ⟨_, e', q, hh, hq⟩ <;> first | (cases e; done) | (cases e'; done) | skip
            injection e' with e'; subst e'
            simp only [repV] at hq
            subst hq
            exact fin 0 l.toNat (by omega) (by omega) (.inr ⟨_, l, hh, c1, c2, rfl⟩) (.inl ⟨hl, rfl⟩) (by rw [← hev]; simp)
          · cases hev
        · rw [eval_ite] at hev
          split at hev <;> simp only [RM.eval] at hev
          · rename_i kl l kh r _ hc
            obtain ⟨c1, c2⟩ := upTo_iff hc
            split at hev
            · rename_i hc'
              obtain ⟨c3, c4⟩ := upTo_iff hc'
              simp only [Option.some.injEq, Prod.mk.injEq] at hev
              obtain ⟨hev, _⟩ := hev
              rcases hl with ⟨e, _⟩ | ⟨_, e, q, hl, hq⟩ <;> rcases hh with ⟨e', _⟩ | ⟨_, e', q', hh, hq'⟩ <;> first | (cases e; done) | (cases e'; done) | skip
              injection e with e; subst e
              injection e' with e'; subst e'
              simp only [repV] at hq hq'
              subst hq hq'
              exact fin l.toNat r.toNat (by omega) (by omega) (.inr ⟨_, r, hh, c1, c2, rfl⟩) (.inr ⟨_, l, hl, c3, by omega, rfl⟩) (by rw [← hev])
            · cases hev
          · cases hev
        · cases hev
      split at he
      · rename_i k hv
        rw [hv] at hx
        rw [eval_getH] at he
        split at he
        · rename_i B hB
          split at he
          · rename_i e xs oo
            split at he
            · rename_i hm'
              have hm' := Nat.eq_of_beq_eq_true hm'
              have hw := subOf_ws he
              obtain ⟨A, cap, hp, _⟩ := own_len hs hB hx
              have hpost : Post X h φ w (ws ++ h) φ w := by
                rw [hw]
                exact post_keep hs hB (by simp [Later]) (.inr ⟨e, xs, oo, rfl, rfl⟩)
              have hrep : repV (ws ++ h) φ w (MB X (ws ++ h) φ) (.fz e xs) (a.eval x) := own_fz hpost.sat (l := k) (by rw [hw, List.cons_append, Hp.get_cons, if_pos rfl]) (hpost.up.repV hs.non hx)
              simp only [repV] at hrep
              rw [hp] at hrep
              exact hsub (h0 := h) (φ0 := φ) hm' hp hpost hrep _ hw.symm he
            · cases he
          · cases he
        · cases he
      · rename_i e xs hv
        rw [hv] at hx
        split at he
        · rename_i hm'
          have hm' := Nat.eq_of_beq_eq_true hm'
          have hw := subOf_ws he
          subst hw
          simp only [repV] at hx
          have hx' := hx
          obtain ⟨A, cap, hp, _⟩ := hx
          rw [hp] at hx'
          exact hsub (h0 := h) (φ0 := φ) hm' hp (Post.refl hs) hx' _ rfl he
        · cases he
      · cases he
    · cases he
  · cases he
end
end Go.Proofs.YtdfgfjnpllncdaaGreatDoor.I

namespace Go.Proofs.YtdfgfjnpllncdaaGreatDoor.I
open Go.RowKit
set_option linter.unusedVariables false

/-- The bytes of a string as numbers. -/
def bytesOf (s : ByteArray) : List Int := s.data.toList.map fun b => (b.toNat : Int)
/-- What is appended. -/
def srcOf (P : Program) (tx : TypeId) (u : AV) (k : (e : Kd) → List e.T → RM) : RM := match P.underlying tx with
  | some (.slice _) => match u with
    | .own l => .getH l fun B => match B with
      | .arr e xs _ => k e xs
      | _ => .fail
    | .fz e xs => k e xs
    | _ => .fail
  | some .string => match u with
    | .str s => k (.int .u8) (bytesOf s)
    | _ => .fail
  | _ => .fail
def byOf (P : Program) (t : TypeId) : Nat := ((P.info? t).map (·.bytes)).getD 0
def fits (n m : Nat) : Bool := decide (n * m ≤ 140737488355328)
/-- Elements of a kind as elements of another (a builder's row takes bytes). -/
def coeXs (e e' : Kd) (xs : List e.T) : Option (List e'.T) := if h : e = e' then some (castXs h xs) else match e, e', xs with
  | .int .u8, .fb _, xs => some xs
  | _, _, _ => none
/-- A builder's row knows the type of its cells. -/
def rowT (e : Kd) (el : TypeId) : Bool := match e with
  | .fb T => Nat.beq el T
  | _ => true
def oAppend (P : Program) (fr : Nat) (t tx : TypeId) (s x : Operand) : RM := match P.underlying t with
  | some (.slice el) => match zeroOf P el with
    | none => .fail
    | some z => rd s fun su => rd x fun xu => srcOf P tx xu fun e ys => match (match szOf P el with
        | some m => Nat.beq m e.wd
        | none => false) && (Nat.beq z.cells.size e.wd && Nat.ble 1 (byOf P el)) with
      | false => .fail
      | true => match su with
        | .nils => match e.isFb with
          | true => .fail
          | false => .ite (fits ys.length (byOf P el)) (.ret (.own fr) [(fr, .arr e ys true)]) .fail
        | .own l => .getH l fun B => match B with
          | .arr e' xs o => match o with
            | true => match coeXs e e' ys with
              | some zs => match rowT e' el with
                | false => .fail
                | true => .ite (fits (xs.length + ys.length) (byOf P el)) (.ret (.own fr) [(l, .dead), (fr, .arr e' (xs ++ zs) true)]) .fail
              | none => .fail
            | false => .fail
          | _ => .fail
        | _ => .fail
  | _ => .fail

theorem coe_ok {w : World} {M : Nat → Prop} {e e' : Kd} {xs : List e.T} {ys : List e'.T} {news : List Value} (h : coeXs e e' xs = some ys) (hr : reps (rep w M e) xs news) : e.wd = e'.wd ∧ xs.length = ys.length ∧ reps (rep w M e') ys news := by
  unfold coeXs at h
  split at h
  · rename_i he
    subst he
    injection h with h
    subst h
    exact ⟨rfl, rfl, hr⟩
  · split at h
    · injection h with h
      subst h
      exact ⟨rfl, rfl, hr⟩
    · cases h
theorem frRow_app {e : Kd} {t : TypeId} {n m k : Nat} {fr : Nat × Nat} (h : frRow e t n fr k) (hm : n ≤ m) : frRow e t m fr k := by
  cases e with
  | fb T =>
    obtain ⟨h1, h2⟩ := h
    exact ⟨h1, h2.elim .inl (fun h => .inr (Nat.le_trans h hm))⟩
  | _ => exact h
theorem frRow_new {e : Kd} {t : TypeId} {n m : Nat} (h : rowT e t = true) : frRow e t n (0, 0) m := by
  cases e with
  | fb T => exact ⟨Nat.eq_of_beq_eq_true h, .inl rfl⟩
  | _ => exact .inl rfl
theorem rowT_of {e : Kd} {t : TypeId} (h : e.isFb = false) : rowT e t = true := by
  cases e <;> first | rfl | cases h
theorem frozen_row {w : World} {b off n : Nat} {c : Array Value} {t : TypeId} {fr : Nat × Nat} {e : Kd} (hb : w.heap[b]? = some (.cells c t fr)) (hf : frRow e t n fr c.size) (ho : off < c.size) (hn : n * e.wd ≤ off) : w.frozen? ⟨b, off, none⟩ = false := by
  cases e with
  | fb T =>
    obtain ⟨_, hf | h2⟩ := hf
    · exact frozen_blk hb (.inl hf) ho
    · obtain ⟨lo, hi⟩ := fr
      simp only [World.frozen?, hb]
      simp only [Kd.wd, Nat.mul_one] at hn
      simp only [Bool.and_eq_false_iff, decide_eq_false_iff_not]
      simp only at h2
      omega
  | _ => exact frozen_blk hb hf ho
section
variable {P : Program} {X : Nat → Prop} {h : Hp} {φ : Lab} {w : World} {M : Nat → Prop} {tm : Nat → AV} {v : AV} {ws : Hp} {a : Act} {o : Oper}
theorem bytes_reps : ∀ (l : List UInt8), reps (rep w M (.int .u8)) (l.map fun b => (b.toNat : Int)) (l.map fun b => Value.int .u8 (b.toNat : Int))
  | [] => trivial
  | b :: l => ⟨[_], _, rfl, rfl, bytes_reps l⟩
theorem src_slice {e : Kd} {ys : List e.T} {xv : Value} {tx e' : TypeId} (hu : P.underlying tx = some (.slice e')) (hx : sliceRep w M (rep w M e) ys xv) : ∃ news, Src P e.wd tx xv ys.length news w ∧ reps (rep w M e) ys news := by
  obtain ⟨A, cap, rfl, h3, h4⟩ := hx
  by_cases hy : ys = []
  · subst hy
    refine ⟨[], ?_, trivial⟩
    cases A with
    | none => exact Src.ofNil w hu cap
    | some ad => exact Src.ofSlice w hu ad 0 cap [] (by simp) (fun j u hj => by simp at hj) (fun u hu => by cases hu)
  · obtain ⟨ad, rfl, g1, g2, c, tt, fr, g3, g4⟩ := h4 hy
    obtain ⟨adb, ado, ads⟩ := ad
    simp only at g1 g2 g3 g4
    subst g1
    have hle := reps_length (fun x u hh => rep_len hh) g4
    have hr : reps (rep w M e) ys ((c.toList.drop ado).take (ys.length * e.wd)) := reps_prefix (fun x u hh => rep_len hh) g4 (List.prefix_refl _)
    refine ⟨(c.toList.drop ado).take (ys.length * e.wd), ?_, hr⟩
    have hlen : ((c.toList.drop ado).take (ys.length * e.wd)).length = ys.length * e.wd := by rw [List.length_take]; omega
    refine Src.ofSlice w hu _ _ _ _ hlen (fun j u hj => ?_) (fun u hu => ?_)
    · rw [Addr.add_lit, cell_blk g3]
      rw [List.getElem?_take] at hj
      split at hj
      · rw [List.getElem?_drop] at hj; simpa using hj
      · cases hj
    · have : ∀ {xs : List e.T} {vs : List Value}, reps (rep w M e) xs vs → vs.length = xs.length * e.wd → ∀ u ∈ vs, u.oneCell' = true := by
        intro xs
        induction xs with
        | nil => intro vs _ hl u hu; have : vs = [] := List.eq_nil_of_length_eq_zero (by simpa using hl); subst this; cases hu
        | cons x xs ih =>
          rintro vs ⟨p, q, rfl, q1, q2⟩ hl u hu
          rw [List.length_append, rep_len q1, List.length_cons, Nat.succ_mul] at hl
          rcases List.mem_append.1 hu with hu | hu
          · exact rep_one q1 u hu
          · exact ih q2 (by omega) u hu
      exact this hr hlen u hu
theorem srcOf_ok (hs : Sat X h φ w) {tx : TypeId} {u : AV} {xv : Value} (hu : repV h φ w (MB X h φ) u xv) {k : (e : Kd) → List e.T → RM} {r : AV × Hp} (he : (srcOf P tx u k).eval tm h.get = some r) :
    ∃ e ys news, (k e ys).eval tm h.get = some r ∧ Src P e.wd tx xv ys.length news w ∧ reps (rep w (MB X h φ) e) ys news := by
  unfold srcOf at he
  split at he
  · rename_i e' hx
    split at he
    · rename_i l
      rw [eval_getH] at he
      split at he
      · rename_i B hB
        split at he
        · rename_i e xs oo
          -- read as a slice that nobody writes, for this one reading
          have hsl : ∃ news, Src P e.wd tx xv xs.length news w ∧ reps (rep w (MB X h φ) e) xs news := by
            simp only [repV] at hu
            obtain ⟨A, n, cap, rfl, _, h3⟩ := hu
            obtain ⟨rfl, h4, h5, h6, h7⟩ := h3 _ _ _ hB
            have hk : Keeps w (MB X h φ) w (fun _ => False) := fun b c t fr _ hb => ⟨hb, fun h => h⟩
            rcases hs.blk l _ hB with ⟨g1, g2⟩ | ⟨b, c, tt, fr, g1, g2, g3, g4⟩
            · subst g2
              rw [g1] at h5
              subst h5
              exact ⟨[], Src.ofNil w hx cap, trivial⟩
            · rw [g1] at h5
              subst h5
              have hle := reps_length (fun x u hh => rep_len hh) g4
              have hr : reps (rep w (MB X h φ) e) xs (c.toList.take (xs.length * e.wd)) := reps_prefix (fun x u hh => rep_len hh) g4 (List.prefix_refl _)
              have hlen : (c.toList.take (xs.length * e.wd)).length = xs.length * e.wd := by rw [List.length_take]; omega
              refine ⟨_, Src.ofSlice w hx _ _ _ _ hlen (fun j u hj => ?_) (fun u hu => ?_), hr⟩
              · rw [Addr.add_lit, cell_blk g2]
                rw [List.getElem?_take] at hj
                split at hj
                · simpa using hj
                · cases hj
              · have : ∀ {xs : List e.T} {vs : List Value}, reps (rep w (MB X h φ) e) xs vs → vs.length = xs.length * e.wd → ∀ u ∈ vs, u.oneCell' = true := by
                  intro xs
                  induction xs with
                  | nil => intro vs _ hl u hu; have : vs = [] := List.eq_nil_of_length_eq_zero (by simpa using hl); subst this; cases hu
                  | cons x xs ih =>
                    rintro vs ⟨p, q, rfl, q1, q2⟩ hl u hu
                    rw [List.length_append, rep_len q1, List.length_cons, Nat.succ_mul] at hl
                    rcases List.mem_append.1 hu with hu | hu
                    · exact rep_one q1 u hu
                    · exact ih q2 (by omega) u hu
                exact this hr hlen u hu
          obtain ⟨news, h1, h2⟩ := hsl
          exact ⟨e, xs, news, he, h1, h2⟩
        · cases he
      · cases he
    · rename_i e xs
      simp only [repV] at hu
      obtain ⟨news, h1, h2⟩ := src_slice (P := P) hx hu
      exact ⟨e, xs, news, he, h1, h2⟩
    · cases he
  · rename_i hx
    split at he
    · rename_i s
      simp only [repV] at hu
      subst hu
      refine ⟨.int .u8, bytesOf s, byteCells s, he, ?_, bytes_reps _⟩
      have := Src.ofString w hx s
      rw [show (bytesOf s).length = s.size by unfold bytesOf; rw [List.length_map, Array.length_toList]; rfl]
      exact this
    · cases he
  · cases he
theorem info_of {t : TypeId} {z : Value} {m : Nat} (hz : zeroOf P t = some z) (hm : szOf P t = some m) : ∃ i, P.info? t = some i ∧ i.zero = some z ∧ i.size = m ∧ i.bytes = byOf P t := by
  unfold zeroOf at hz
  unfold szOf at hm
  unfold byOf
  cases hi : P.info? t with
  | none => rw [hi] at hz; cases hz
  | some i =>
    rw [hi] at hz hm
    exact ⟨i, rfl, hz, by simpa using hm, rfl⟩
theorem oAppend_ok (hs : Sat X h φ w) (ht : Tm h φ w (MB X h φ) tm a) {fr : Nat} (hf : h.get fr = none) {t tx : TypeId} {s x : Operand} (ho : o.op = .call { callee := .builtin .append, args := #[s, x], argTypes := #[t, tx] }) (he : (oAppend P fr t tx s x).eval tm h.get = some (v, ws)) : Comes P X h φ w v (ws ++ h) ((execOp a.eval o).run P w) := by
  unfold oAppend at he
  split at he
  · rename_i el hu
    split at he
    · cases he
    · rename_i z hz
      rw [rd_eval, rd_eval] at he
      have hsv := opv_rep ht s
      have hxv := opv_rep ht x
      obtain ⟨e, ys, news, he, hsrc, hreps⟩ := srcOf_ok (P := P) hs hxv he
      split at he
      · cases he
      · rename_i hc
        simp only [Bool.and_eq_true] at hc
        obtain ⟨c1, c2, c3⟩ := hc
        have c2 := Nat.eq_of_beq_eq_true c2
        have c3 := Nat.le_of_ble_eq_true c3
        split at c1
        · rename_i m hm
          have c1 := Nat.eq_of_beq_eq_true c1
          subst c1
          obtain ⟨i, hi, hiz, him, hib⟩ := info_of hz hm
          have hsrc' := hsrc
          rw [← him] at hsrc
          have hrun0 : (execOp a.eval o).run P w = ((Builtin.append_ #[t, tx] o.type #[a.eval s, a.eval x]).run P w).andThen fun r w' => .ok (.value r) w' := by
            unfold execOp
            simp [ho, resolve, invoke, builtin]
          -- a new row
          have grow : ∀ (e : Kd) (ys : List e.T), Src P i.size tx (a.eval x) ys.length news w → Src P e.wd tx (a.eval x) ys.length news w → reps (rep w (MB X h φ) e) ys news → z.cells.size = e.wd → i.size = e.wd → ∀ (base : Option Addr) (xs : List e.T) (sCap : Nat) (olds : List Value), a.eval s = .slice base xs.length sCap → sCap < xs.length + ys.length → (xs.length + ys.length) * byOf P el ≤ 140737488355328 →
              (Builtin.firstCells i.size xs.length (.slice base xs.length sCap)).run P w.drew = .ok olds.toArray w.drew → olds.length = xs.length * e.wd → reps (rep w (MB X h φ) e) xs olds →
              ∃ w', (execOp a.eval o).run P w = .ok (.value (.slice (some ⟨w.heap.size, 0, none⟩) (xs.length + ys.length) (grownCap w (xs.length + ys.length) sCap el))) w' ∧ (w'.os = w.os ∧ w'.tape = w.tape ∧ w'.output = w.output) ∧
                ∃ c : Array Value, w'.heap = w.heap.push (.cells c el) ∧ reps (rep w (MB X h φ) e) (xs ++ ys) c.toList ∧ c.size = grownCap w (xs.length + ys.length) sCap el * e.wd := by
            intro e ys hsrc hsrc' hreps c2 him base xs sCap olds hp hlt hby hold hol hxr
            have hle : xs.length + ys.length ≤ 140737488355328 := Nat.le_trans (Nat.le_mul_of_pos_right _ c3) hby
            have hrun := run_append_grow_src (P := P) w t tx o.type el i z hu hi hiz base xs.length sCap olds hold (a.eval x) ys.length news hsrc hlt (by omega) (by rw [hib]; exact growslice_fits hlt hby)
            refine ⟨_, by rw [hrun0, hp, hrun]; rfl, ?_⟩
            refine ⟨⟨rfl, rfl, rfl⟩, _, rfl, ?_, ?_⟩
            · have h1 := reps_append (fun x u hh => rep_len hh) hxr hreps hol
              refine reps_prefix (fun x u hh => rep_len hh) h1 ?_
              rw [Array.toList_append]
              exact (List.take_prefix _ _).trans (List.prefix_append _ _)
            · have hg := grownCap_ge w (xs.length + ys.length) sCap el
              have hnl := hsrc'.newsLen
              rw [Array.size_append, List.size_toArray, List.length_append, hol, hnl, size_zeroCells, c2, ← Nat.add_mul, ← Nat.add_mul]
              congr 1
              omega
          have newPost : ∀ (e : Kd) (ys : List e.T), rowT e el = true → ∀ (xs : List e.T) (sCap : Nat) (w' : World) (c : Array Value), (w'.os = w.os ∧ w'.tape = w.tape ∧ w'.output = w.output) → w'.heap = w.heap.push (.cells c el) → reps (rep w (MB X h φ) e) (xs ++ ys) c.toList →
              Post X h φ w ((fr, .arr e (xs ++ ys) true) :: h) (φ.set fr w.heap.size) w' := by
            intro e ys hrT xs sCap w' c hw hheap hr
            exact post_new (B := .arr e (xs ++ ys) true) hs hf (c := c) (t := el) (fr := (0, 0)) hw hheap rfl (fun h' φ' M' hup hl hat => .inr ⟨_, c, el, (0, 0), hl, hat, frRow_new hrT, reps_imp (fun x _ u g => rep_keeps hup.keeps g) hr⟩)
          have ownRep : ∀ (e : Kd) (h0 : Hp) (zs : List e.T) (w' : World) (c : Array Value) (cap : Nat) (M0 : Nat → Prop), (h0 : Hp).get fr = some (.arr e zs true) → w'.heap = w.heap.push (.cells c el) → zs.length ≤ cap → c.size = cap * e.wd → repV h0 (φ.set fr w.heap.size) w' M0 (.own fr) (.slice (some ⟨w.heap.size, 0, none⟩) zs.length cap) := by
            intro e h0 zs w' c cap M0 hg hheap hle hsz
            simp only [repV]
            refine ⟨_, _, cap, rfl, by rw [hg]; simp, fun e' xs' o' hB => ?_⟩
            rw [hg] at hB
            injection hB with hB
            injection hB with q1 q2 q3
            subst q1
            have q2 := eq_of_heq q2
            subst q2
            refine ⟨rfl, hle, by rw [Lab.set_eq]; rfl, fun hn => (by rw [Lab.set_eq] at hn; cases hn), fun b hb => ?_⟩
            rw [Lab.set_eq] at hb
            injection hb with hb
            subst hb
            exact ⟨c, el, (0, 0), by rw [hheap]; simp, by rw [hsz]; exact Nat.le_refl _⟩
          split at he
          · -- onto nothing
            rename_i hv
            rw [hv] at hsv
            simp only [repV] at hsv
            split at he
            · cases he
            rename_i hfbE
            rw [eval_ite] at he
            split at he <;> simp only [RM.eval] at he
            · rename_i hfit
              have hfit : ys.length * byOf P el ≤ 140737488355328 := by simpa [fits] using hfit
              simp only [Option.some.injEq, Prod.mk.injEq] at he
              obtain ⟨rfl, rfl⟩ := he
              by_cases hy : ys = []
              · subst hy
                have hnl := hsrc'.newsLen
                simp at hnl
                subst hnl
                have hrun := run_append_nothing (P := P) w t tx o.type el i hu hi none 0 0 (Nat.le_refl _) (a.eval x) hsrc
                rw [hrun0, hsv, hrun]
                have hn := hs.non fr hf
                refine ⟨φ, post_nil hs hf e, ?_⟩
                simp only [repV]
                refine ⟨none, 0, 0, rfl, by rw [List.cons_append, Hp.get_cons, if_pos rfl]; simp, fun e' xs' o' hB => ?_⟩
                rw [List.cons_append, Hp.get_cons, if_pos rfl] at hB
                injection hB with hB
                injection hB with q1 q2 q3
                subst q1
                have q2 := eq_of_heq q2
                subst q2
                exact ⟨rfl, Nat.le_refl _, by rw [hn]; rfl, fun _ => rfl, fun b hb => (by rw [hn] at hb; cases hb)⟩
              · obtain ⟨w', g1, g2, c, g3, g4, g5⟩ := grow e ys hsrc hsrc' hreps c2 him none [] 0 [] (by simpa using hsv) (by have : ys.length ≠ 0 := fun h => hy (List.eq_nil_of_length_eq_zero h); simp; omega) (by simpa using hfit) (run_firstCells_none w.drew i.size 0 0 0) (by simp) trivial
                rw [g1]
                have hp := newPost e ys (rowT_of hfbE) [] 0 w' c g2 g3 g4
                simp only [List.nil_append, List.length_nil, Nat.zero_add] at hp g5 ⊢
                refine ⟨_, hp, ownRep e _ ys w' c _ _ (by rw [List.cons_append, Hp.get_cons, if_pos rfl]) g3 (by have := grownCap_ge w ys.length 0 el; exact this) g5⟩
            · cases he
          · -- onto a row of the call's own
            rename_i l hv
            rw [hv] at hsv
            rw [eval_getH] at he
            split at he
            · rename_i B hB
              split at he
              · rename_i e' xs oo
                split at he
                · split at he
                  · rename_i zs hco
                    obtain ⟨k1, k2, k3⟩ := coe_ok (w := w) (M := MB X h φ) hco hreps
                    split at he
                    · cases he
                    rename_i hrT
                    rw [eval_ite] at he
                    split at he <;> simp only [RM.eval] at he
                    · rename_i hfit
                      have hfit : (xs.length + ys.length) * byOf P el ≤ 140737488355328 := by simpa [fits] using hfit
                      rw [k2] at hfit
                      simp only [Option.some.injEq, Prod.mk.injEq] at he
                      obtain ⟨rfl, rfl⟩ := he
                      have own : ∀ (e : Kd) (ys : List e.T), Src P i.size tx (a.eval x) ys.length news w → Src P e.wd tx (a.eval x) ys.length news w → reps (rep w (MB X h φ) e) ys news → z.cells.size = e.wd → i.size = e.wd → rowT e el = true → ∀ (xs : List e.T), h.get l = some (.arr e xs true) → (xs.length + ys.length) * byOf P el ≤ 140737488355328 →
                          Comes P X h φ w (.own fr) ([(l, .dead), (fr, .arr e (xs ++ ys) true)] ++ h) ((execOp a.eval o).run P w) := by
                       intro e ys hsrc hsrc' hreps c2 him hrT xs hB hfit
                       simp only [repV] at hsv
                       obtain ⟨A, n, cap, hsv, _, h3⟩ := hsv
                       obtain ⟨rfl, h4, h5, h6, h7⟩ := h3 _ _ _ hB
                       have hne : l ≠ fr := fun e => by subst e; rw [hB] at hf; cases hf
                       by_cases hroom : xs.length + ys.length ≤ cap
                       · -- room
                         cases hb : φ l with
                         | none =>
                           have hc0 := h6 hb
                           rw [hb] at h5
                           subst hc0 h5
                           have hx0 : xs = [] := List.eq_nil_of_length_eq_zero (by omega)
                           have hy0 : ys = [] := List.eq_nil_of_length_eq_zero (by omega)
                           subst hx0 hy0
                           have hnl := hsrc'.newsLen
                           simp at hnl
                           subst hnl
                           have hrun := run_append_nothing (P := P) w t tx o.type el i hu hi none 0 0 (Nat.le_refl _) (a.eval x) hsrc
                           rw [hrun0, hsv]
                           simp only [List.length_nil, Option.map_none]
                           rw [hrun]
                           have hp := post_move (w' := w) (B' := .arr e ([] ++ []) true) hs hB hf rfl ⟨rfl, rfl, rfl⟩ rfl (fun _ _ => rfl) (fun b c t fr hc => ⟨c, t, fr, hc, rfl⟩) rfl trivial (fun hup => .inl ⟨by rw [Lab.put_eq, hb], rfl⟩)
                           refine ⟨_, hp, ?_⟩
                           simp only [repV]
                           refine ⟨none, 0, 0, rfl, by rw [List.cons_append, Hp.get_cons, if_neg hne, List.cons_append, Hp.get_cons, if_pos rfl]; simp, fun e' xs' o' hB' => ?_⟩
                           rw [List.cons_append, Hp.get_cons, if_neg hne, List.cons_append, Hp.get_cons, if_pos rfl] at hB'
                           injection hB' with hB'
                           injection hB' with q1 q2 q3
                           subst q1
                           have q2 := eq_of_heq q2
                           subst q2
                           exact ⟨rfl, Nat.le_refl _, by rw [Lab.put_eq, hb]; rfl, fun _ => rfl, fun b hb' => (by rw [Lab.put_eq, hb] at hb'; cases hb')⟩
                         | some b =>
                           rw [hb] at h5
                           subst h5
                           rcases hs.blk l _ hB with ⟨g1, _⟩ | ⟨b', c, tt, fr', g1, g2, g3, g4⟩
                           · rw [hb] at g1; cases g1
                           · rw [hb] at g1; injection g1 with g1; subst g1
                             obtain ⟨c0, _, _, k1, k2⟩ := h7 b hb
                             rw [g2] at k1
                             injection k1 with k1
                             injection k1 with k1
                             subst k1
                             have hnl := hsrc'.newsLen
                             have hmul : (xs.length + ys.length) * e.wd ≤ cap * e.wd := Nat.mul_le_mul_right _ hroom
                             rw [Nat.add_mul] at hmul
                             have hrun := run_append_room_src (P := P) w t tx o.type el i hu hi b 0 xs.length cap (a.eval x) ys.length news hsrc hroom
                               (fun j hj => by rw [cell_blk g2, Array.getElem?_eq_getElem (by rw [him]; omega)]; rfl) (fun j hj => frozen_row g2 g3 (by rw [him]; omega) (by rw [him]; omega))
                             rw [hrun0, hsv]
                             simp only [Option.map_some]
                             rw [hrun]
                             have hst := setCells_stored b tt fr' news (0 + xs.length * i.size) w c g2 (by rw [him]; omega)
                             obtain ⟨c', m1, m2, m3⟩ := hst.new
                             have hp := post_move (w' := w.setCells b (0 + xs.length * i.size) news) (B' := .arr e (xs ++ ys) true) hs hB hf rfl hst.rest hst.size (fun k hk => hst.same k (fun e => hk (e ▸ hb)))
                               (fun k d u g hk => by
                                 by_cases e : k = b
                                 · subst e; rw [g2] at hk; injection hk with hk; injection hk with a1 a2 a3; subst a1; exact ⟨c', tt, fr', m1, m2⟩
                                 · exact ⟨d, u, g, by rw [hst.same k e]; exact hk, rfl⟩) rfl trivial (fun hup => .inr ⟨b, c', tt, fr', by rw [Lab.put_eq, hb], m1, by rw [m2]; exact frRow_app g3 (by simp), ?_⟩)
                             refine ⟨_, hp, ?_⟩
                             · simp only [repV]
                               refine ⟨_, xs.length + ys.length, cap, rfl, by rw [List.cons_append, Hp.get_cons, if_neg hne, List.cons_append, Hp.get_cons, if_pos rfl]; simp, fun e' xs' o' hB' => ?_⟩
                               rw [List.cons_append, Hp.get_cons, if_neg hne, List.cons_append, Hp.get_cons, if_pos rfl] at hB'
                               injection hB' with hB'
                               injection hB' with q1 q2 q3
                               subst q1
                               have q2 := eq_of_heq q2
                               subst q2
                               refine ⟨by simp, hroom, by rw [Lab.put_eq, hb]; rfl, fun hn => (by rw [Lab.put_eq, hb] at hn; cases hn), fun b0 hb0 => ?_⟩
                               rw [Lab.put_eq, hb] at hb0
                               injection hb0 with hb0
                               subst hb0
                               exact ⟨c', tt, fr', m1, by rw [m2]; exact k2⟩
                             · have r1 : reps (rep w (MB X h φ) e) xs (c.toList.take (xs.length * e.wd)) := reps_prefix (fun x u hh => rep_len hh) g4 (List.prefix_refl _)
                               have r2 := reps_append (fun x u hh => rep_len hh) r1 hreps (by rw [List.length_take]; simp; omega)
                               refine reps_imp (fun x _ u g => rep_keeps hup.keeps g) (reps_prefix (fun x u hh => rep_len hh) r2 ?_)
                               rw [m3, him, Nat.zero_add]
                               exact (List.take_prefix _ _).trans (List.prefix_append _ _)
                       · -- no room
                         have hold : ∃ olds, (Builtin.firstCells i.size xs.length (.slice A xs.length cap)).run P w.drew = .ok (olds : List Value).toArray w.drew ∧ olds.length = xs.length * e.wd ∧ reps (rep w (MB X h φ) e) xs olds := by
                           rcases hs.blk l _ hB with ⟨g1, g2⟩ | ⟨b, c, tt, fr', g1, g2, g3, g4⟩
                           · subst g2
                             rw [g1] at h5
                             subst h5
                             exact ⟨[], run_firstCells_none w.drew i.size 0 0 cap, by simp, trivial⟩
                           · rw [g1] at h5
                             subst h5
                             have hle := reps_length (fun x u hh => rep_len hh) g4
                             have hlen : (c.toList.take (xs.length * e.wd)).length = xs.length * e.wd := by rw [List.length_take]; omega
                             refine ⟨c.toList.take (xs.length * e.wd), run_firstCells_some w.drew i.size xs.length _ _ _ _ (by rw [hlen, him]) (fun j u hj => ?_), hlen, reps_prefix (fun x u hh => rep_len hh) g4 (List.prefix_refl _)⟩
                             rw [Addr.add_lit]
                             show w.cell? _ = _
                             rw [cell_blk g2]
                             rw [List.getElem?_take] at hj
                             split at hj
                             · simpa using hj
                             · cases hj
                         obtain ⟨olds, o1, o2, o3⟩ := hold
                         obtain ⟨w', g1, g2, c, g3, g4, g5⟩ := grow e ys hsrc hsrc' hreps c2 him A xs cap olds hsv (by omega) hfit o1 o2 o3
                         rw [g1]
                         have hp := newPost e ys hrT xs cap w' c g2 g3 g4
                         have hB2 : Hp.get ((fr, .arr e (xs ++ ys) true) :: h) l = some (.arr e xs true) := by rw [Hp.get_cons, if_neg (Ne.symm hne)]; exact hB
                         have hp2 := hp.trans (post_keep (B' := .dead) hp.sat hB2 trivial (.inl rfl))
                         refine ⟨_, hp2, ?_⟩
                         have := ownRep e ((l, .dead) :: (fr, .arr e (xs ++ ys) true) :: h) (xs ++ ys) w' c (grownCap w (xs.length + ys.length) cap el) (MB X ((l, .dead) :: (fr, .arr e (xs ++ ys) true) :: h) (φ.set fr w.heap.size)) (by rw [Hp.get_cons, if_neg hne, Hp.get_cons, if_pos rfl]) g3 (by simpa using grownCap_ge w (xs.length + ys.length) cap el) g5
                         simpa using this
                      exact own e' zs (by rw [← k2]; exact hsrc) (by rw [← k1, ← k2]; exact hsrc') k3 (c2.trans k1) (him.trans k1) hrT xs hB hfit
                    · cases he
                  · cases he
                · cases he
              · cases he
            · cases he
          · cases he
        · cases c1
  · cases he
end
end Go.Proofs.YtdfgfjnpllncdaaGreatDoor.I

namespace Go.Proofs.YtdfgfjnpllncdaaGreatDoor.I
open Go.RowKit
set_option linter.unusedVariables false

/-- A string of bytes that are told as numbers. -/
def mkStr (xs : List Int) : ByteArray := ⟨(xs.map fun n => UInt8.ofNat n.toNat).toArray⟩
def oConvert (P : Program) (fr : Nat) (src dst : TypeId) (x : Operand) : RM := rd x fun u => match P.underlying src with
  | none => .fail
  | some ds => match P.underlying dst with
    | some (.int k) => match u with
      | .int _ n => .ret (.int k (k.wrap n)) []
      | _ => .fail
    | some .string => match u with
      | .str s => .ret (.str s) []
      | .own l => match ds with
        | .slice e => match P.underlying e with
          | some (.int .u8) => .getH l fun B => match B with
            | .arr (.int .u8) xs _ => .ret (.str (mkStr xs)) []
            | _ => .fail
          | _ => .fail
        | _ => .fail
      | .fz (.int .u8) xs => match ds with
        | .slice e => match P.underlying e with
          | some (.int .u8) => .ret (.str (mkStr xs)) []
          | _ => .fail
        | _ => .fail
      | _ => .fail
    | some (.slice e) => match P.underlying e with
      | some (.int .u8) => match u with
        | .str s => .ret (.own fr) [(fr, .arr (.int .u8) (bytesOf s) true)]
        | .own l => match Nat.beq src dst with
          | true => .getH l fun B => match B with
            | .arr (.int .u8) xs true => match xs with
              | x :: r => .ret (.own l) [(l, .arr (.int .u8) (x :: r) true)]
              | [] => .fail
            | _ => .fail
          | false => .fail
        | _ => .fail
      | _ => .fail
    | _ => .fail
def maxI (a b : Int) : Int := if b > a then b else a
def minI (a b : Int) : Int := if b < a then b else a
def oMinMax (mx : Bool) (k : List AV) : RM := match k with
  | .int k a :: .int k' b :: r => match r with
    | [] => match mx with
      | true => .ret (.int k (maxI a b)) []
      | false => .ret (.int k (minI a b)) []
    | .int _ c :: r => match r with
      | [] => match mx with
        | true => .ret (.int k (maxI (maxI a b) c)) []
        | false => .ret (.int k (minI (minI a b) c)) []
      | _ => .fail
    | _ => .fail
  | _ => .fail
section
variable {P : Program} {X : Nat → Prop} {h : Hp} {φ : Lab} {w : World} {M : Nat → Prop} {tm : Nat → AV} {v : AV} {ws : Hp} {a : Act} {o : Oper}
theorem foldl_push (ns : List Int) : ∀ s : ByteArray, ns.foldl (fun r n => r.push (UInt8.ofNat n.toNat)) s = ⟨s.data ++ (ns.map fun n => UInt8.ofNat n.toNat).toArray⟩ := by
  induction ns with
  | nil => intro s; simp
  | cons n ns ih =>
    intro s
    rw [List.foldl_cons, ih]
    congr 1
    apply Array.ext'
    simp [ByteArray.push]
theorem reps_u8 : ∀ {xs : List Int} {vs : List Value}, reps (rep w M (.int .u8)) xs vs → vs.take xs.length = xs.map (Value.int .u8)
  | [], vs, _ => by simp
  | x :: xs, vs, ⟨p, q, e, h1, h2⟩ => by
    simp only [rep] at h1
    subst e h1
    simp [reps_u8 h2]
theorem run_bytes_str {src dst e : TypeId} {xs : List Int} {A : Option Addr} {cap : Nat} (hs : P.underlying src = some (.slice e)) (he : P.underlying e = some (.int .u8)) (hd : P.underlying dst = some .string)
    (hr : xs ≠ [] → ∃ b off c tt fr, A = some ⟨b, off, none⟩ ∧ w.heap[b]? = some (.cells c tt fr) ∧ reps (rep w M (.int .u8)) xs (c.toList.drop off)) : (convert src dst (.slice A xs.length cap)).run P w = .ok (.string (mkStr xs)) w := by
  rw [run_convert_bytes_string w src dst e A _ cap hs he hd]
  cases A with
  | none =>
    have : xs = [] := Classical.byContradiction fun hx => by obtain ⟨_, _, _, _, _, e, _⟩ := hr hx; cases e
    subst this
    rfl
  | some ad =>
    have hl : (loadCells ad xs.length).run P w = .ok (xs.map (Value.int .u8)).toArray w := by
      by_cases hx : xs = []
      · subst hx; rfl
      · obtain ⟨b, off, c, tt, fr, e1, e2, e3⟩ := hr hx
        injection e1 with e1
        subst e1
        have := run_loadCells_list (P := P) w ⟨b, off, none⟩ (xs.map (Value.int .u8)) (fun j u hj => by
          rw [Addr.add_lit, cell_blk e2]
          rw [← reps_u8 e3] at hj
          rw [List.getElem?_take] at hj
          split at hj
          · rw [List.getElem?_drop] at hj; simpa using hj
          · cases hj)
        simpa using this
    rw [run_bytesToString w ad xs.length cap xs hl, foldl_push]
    simp [mkStr, ByteArray.empty, ByteArray.emptyWithCapacity]
    rfl
theorem oConvert_ok (hs : Sat X h φ w) (ht : Tm h φ w (MB X h φ) tm a) {fr : Nat} (hf : h.get fr = none) {src dst : TypeId} {x : Operand} (ho : o.op = .convert src dst x) (he : (oConvert P fr src dst x).eval tm h.get = some (v, ws)) : Comes P X h φ w v (ws ++ h) ((execOp a.eval o).run P w) := by
  unfold oConvert at he
  rw [rd_eval] at he
  have hx := opv_rep ht x
  have hrun0 : (execOp a.eval o).run P w = ((convert src dst (a.eval x)).run P w).andThen fun r w' => .ok (.value r) w' := by
    unfold execOp
    simp only [ho, Sem.run_bind, Sem.run_pure]
  split at he
  · cases he
  · rename_i ds hsu
    split at he
    · rename_i k hd
      split at he
      · rename_i k' n hv
        rw [hv] at hx
        simp only [repV] at hx
        simp only [RM.eval, Option.some.injEq, Prod.mk.injEq] at he
        obtain ⟨rfl, rfl⟩ := he
        rw [hrun0, hx]
        have : (convert src dst (.int k' n)).run P w = .ok (.int k (k.wrap n)) w := by
          unfold convert
          simp only [Sem.run_bind, run_underlying hsu, run_underlying hd, Result.andThen_ok]
          rfl
        rw [this]
        exact comes_val hs (by simp only [repV])
      · cases he
    · rename_i hd
      split at he
      · rename_i s hv
        rw [hv] at hx
        simp only [repV] at hx
        simp only [RM.eval, Option.some.injEq, Prod.mk.injEq] at he
        obtain ⟨rfl, rfl⟩ := he
        rw [hrun0, hx]
        have : (convert src dst (.string s)).run P w = .ok (.string s) w := by
          unfold convert
          simp only [Sem.run_bind, run_underlying hsu, run_underlying hd, Result.andThen_ok]
          rfl
        rw [this]
        exact comes_val hs (by simp only [repV])
      · rename_i l hv
        rw [hv] at hx
        split at he
        · rename_i e
          split at he
          · rename_i he8
            rw [eval_getH] at he
            split at he
            · rename_i B hB
              split at he
              · rename_i xs oo
                simp only [RM.eval, Option.some.injEq, Prod.mk.injEq] at he
                obtain ⟨rfl, rfl⟩ := he
                simp only [repV] at hx
                obtain ⟨A, n, cap, hx, _, h3⟩ := hx
                obtain ⟨rfl, h4, h5, h6, h7⟩ := h3 _ _ _ hB
                rw [hrun0, hx, run_bytes_str (M := MB X h φ) hsu he8 hd (fun hne => by
                  rcases hs.blk l _ hB with ⟨g1, g2⟩ | ⟨b, c, tt, fr, g1, g2, g3, g4⟩
                  · exact absurd g2 hne
                  · rw [g1] at h5; exact ⟨b, 0, c, tt, fr, h5, g2, by simpa using g4⟩)]
                exact comes_val hs (by simp only [repV])
              · cases he
            · cases he
          · cases he
        · cases he
      · rename_i xs hv
        rw [hv] at hx
        split at he
        · rename_i e
          split at he
          · rename_i he8
            simp only [RM.eval, Option.some.injEq, Prod.mk.injEq] at he
            obtain ⟨rfl, rfl⟩ := he
            simp only [repV] at hx
            obtain ⟨A, cap, hx, _, h3⟩ := hx
            rw [hrun0, hx, run_bytes_str (M := MB X h φ) hsu he8 hd (fun hne => by
              obtain ⟨ad, e1, g1, g2, c, tt, fr, g3, g4⟩ := h3 hne
              obtain ⟨adb, ado, ads⟩ := ad
              simp only at g1
              subst g1
              exact ⟨adb, ado, c, tt, fr, e1, g3, g4⟩)]
            exact comes_val hs (by simp only [repV])
          · cases he
        · cases he
      · cases he
    · rename_i e hd
      split at he
      · rename_i he8
        split at he
        · rename_i s hv
          rw [hv] at hx
          simp only [repV] at hx
          simp only [RM.eval, Option.some.injEq, Prod.mk.injEq] at he
          obtain ⟨rfl, rfl⟩ := he
          rw [hrun0, hx, Lib.run_convert_string_bytes w src dst e s hsu hd he8]
          have hsz : (Lib.bytesCells w e s).size = grownCap w s.size 0 e := by
            have := grownCap_ge w s.size 0 e
            have h1 : s.data.size = s.size := rfl
            simp [Lib.bytesCells, h1]; omega
          have hlen : (bytesOf s).length = s.size := by unfold bytesOf; rw [List.length_map, Array.length_toList]; rfl
          have hp := post_new' (w' := Lib.bytesWorld w e s) (B := .arr (.int .u8) (bytesOf s) true) hs hf ⟨rfl, rfl, rfl⟩ (Lib.bytesWorld_at_new w e s) (fun b hb => Lib.bytesWorld_at_old w e s b hb) (by rw [Lib.bytesWorld_size]; omega) rfl
            (fun h' φ' M' hup hl hat => .inr ⟨_, _, _, _, hl, hat, .inr (Nat.le_refl _), by
              refine reps_prefix (fun x u hh => rep_len hh) (bytes_reps s.data.toList) ?_
              refine (List.take_prefix _ _).trans ?_
              unfold Lib.bytesCells
              rw [Array.toList_append, Array.toList_map]
              exact List.prefix_append _ _⟩)
          refine ⟨_, hp, ?_⟩
          simp only [repV]
          refine ⟨_, _, _, rfl, by rw [List.cons_append, Hp.get_cons, if_pos rfl]; simp, fun e' xs' o' hB => ?_⟩
          rw [List.cons_append, Hp.get_cons, if_pos rfl] at hB
          injection hB with hB
          injection hB with q1 q2 q3
          subst q1
          have q2 := eq_of_heq q2
          subst q2
          refine ⟨hlen.symm, grownCap_ge _ _ _ _, by rw [Lab.set_eq]; rfl, fun hn => (by rw [Lab.set_eq] at hn; cases hn), fun b hb => ?_⟩
          rw [Lab.set_eq] at hb
          injection hb with hb
          subst hb
          exact ⟨_, _, _, Lib.bytesWorld_at_new w e s, by rw [hsz]; simp [Kd.wd]⟩
        · rename_i l hv
          split at he
          · rename_i hsd
            have hsd := Nat.eq_of_beq_eq_true hsd
            subst hsd
            rw [eval_getH] at he
            split at he
            · rename_i B hB
              split at he
              · rename_i xs
                split at he
                · rename_i x r
                  simp only [RM.eval, Option.some.injEq, Prod.mk.injEq] at he
                  obtain ⟨rfl, rfl⟩ := he
                  rw [hv] at hx
                  have hx0 := hx
                  simp only [repV] at hx
                  obtain ⟨A, n, cap, hx, _, h3⟩ := hx
                  obtain ⟨rfl, h4, h5, h6, h7⟩ := h3 _ _ _ hB
                  rcases hs.blk l _ hB with ⟨g1, g2⟩ | ⟨b, c, t, fr0, g1, g2, g3, g4⟩
                  · cases g2
                  · rw [g1] at h5
                    simp only [Option.map_some] at h5
                    subst h5
                    have hsh : w.shape? b = some (t, c.size) := by unfold World.shape?; rw [g2]
                    obtain ⟨lo, hi⟩ := fr0
                    have hb1 : (w.freeze ⟨b, c.size, none⟩ 1).heap[b]? = some (.cells c t (if lo == hi then (c.size, c.size + 1) else (min lo c.size, max hi (c.size + 1)))) := by
                      unfold World.freeze
                      rw [if_neg (by decide)]
                      simp [Array.getElem?_modify, g2]
                    have hp := post_set (w' := w.freeze ⟨b, c.size, none⟩ 1) (B' := .arr (.int .u8) (x :: r) true) hs hB rfl g1 g2 rfl (by unfold World.freeze; rw [if_neg (by decide)]; exact ⟨rfl, rfl, rfl⟩) (by unfold World.freeze; rw [if_neg (by decide)]; simp) (fun k hk => by
                      unfold World.freeze
                      rw [if_neg (by decide)]
                      simp only [Array.getElem?_modify]
                      rw [if_neg (fun e => hk e.symm)]) hb1 rfl (Later.refl _) (fun hup => .inr ⟨b, c, t, _, by rw [hup.lab l (by rw [hB]; simp)]; exact g1, hb1, by
                        have g3 := frRow_free rfl g3
                        show frFree _ _
                        unfold frFree
                        by_cases hlh : lo = hi
                        · subst hlh; simp
                        · have h8 : c.size ≤ lo := by
                            rcases g3 with h | h
                            · exact absurd h hlh
                            · exact h
                          have : (lo == hi) = false := by simpa using hlh
                          simp only [this]
                          refine .inr ?_
                          simp only [Bool.false_eq_true, if_false]
                          omega, reps_imp (fun x _ u g => rep_keeps hup.keeps g) g4⟩)
                    have hrun : (convert src src (.slice (some ⟨b, 0, none⟩) (x :: r).length cap)).run P w = .ok (.slice (some ⟨b, 0, none⟩) (x :: r).length cap) (w.freeze ⟨b, c.size, none⟩ 1) := by
                      simp [convert, run_underlying hd, run_underlying he8, markStringish, hsh]
                    rw [hrun0, hx, hrun]
                    refine ⟨_, hp, ?_⟩
                    rw [← hx]
                    exact hp.up.repV hs.non hx0
                · cases he
              · cases he
            · cases he
          · cases he
        · cases he
      · cases he
    · cases he
theorem oMinMax_ok (hs : Sat X h φ w) (ht : Tm h φ w (MB X h φ) tm a) {mx : Bool} {xs : List Operand} {ts : Array TypeId} (ho : o.op = .call { callee := .builtin (if mx then .max else .min), args := xs.toArray, argTypes := ts }) (he : (oMinMax mx (xs.map (opv tm))).eval tm h.get = some (v, ws)) : Comes P X h φ w v (ws ++ h) ((execOp a.eval o).run P w) := by
  have hx := opvs_rep ht xs
  generalize xs.map (opv tm) = us at *
  generalize hvs : xs.map a.eval = vs at *
  have hrun0 : (execOp a.eval o).run P w = ((if mx then Builtin.max_ ts o.type vs.toArray else Builtin.min_ ts o.type vs.toArray).run P w).andThen fun r w' => .ok (.value r) w' := by
    unfold execOp
    cases mx <;> simp [ho, resolve, invoke, builtin, hvs]
  rw [hrun0]
  unfold oMinMax at he
  split at he
  · rename_i k p k' q r
    obtain ⟨_, vs1, e1, h1, vs2⟩ := hx
    obtain ⟨_, vs3, e2, h2, h3⟩ := vs2
    simp only [repV] at h1 h2
    subst h1 h2
    subst e2
    subst e1
    split at he
    · simp only [repVs] at h3
      subst h3
      cases mx
      · simp only [RM.eval, Option.some.injEq, Prod.mk.injEq] at he
        obtain ⟨rfl, rfl⟩ := he
        simp [Builtin.min_, Builtin.min2]
        exact comes_val hs (by simp only [repV]; rfl)
      · simp only [RM.eval, Option.some.injEq, Prod.mk.injEq] at he
        obtain ⟨rfl, rfl⟩ := he
        simp [Builtin.max_, Builtin.max2]
        exact comes_val hs (by simp only [repV]; rfl)
    · rename_i k'' c r
      obtain ⟨_, vs4, e3, h4, h5⟩ := h3
      simp only [repV] at h4
      subst h4
      subst e3
      split at he
      · simp only [repVs] at h5
        subst h5
        cases mx
        · simp only [RM.eval, Option.some.injEq, Prod.mk.injEq] at he
          obtain ⟨rfl, rfl⟩ := he
          simp [Builtin.min_, Builtin.min2]
          exact comes_val hs (by simp only [repV]; rfl)
        · simp only [RM.eval, Option.some.injEq, Prod.mk.injEq] at he
          obtain ⟨rfl, rfl⟩ := he
          simp [Builtin.max_, Builtin.max2]
          exact comes_val hs (by simp only [repV]; rfl)
      · cases he
    · cases he
  · cases he
end
end Go.Proofs.YtdfgfjnpllncdaaGreatDoor.I

namespace Go.Proofs.YtdfgfjnpllncdaaGreatDoor.I
open Go.RowKit
set_option linter.unusedVariables false

def oSliceData (P : Program) (ty : TypeId) (x : Operand) : RM := rd x fun u => match P.underlying ty with
  | some (.pointer _) => match u with
    | .own l => .getH l fun B => match B with
      | .arr e xs o => match e.isFb && o with
        | true => .ite xs.isEmpty (.ret (.self 0) []) (.ret (.eptr l 0 1 0) [])
        | false => .fail
      | _ => .fail
    | .nils => .ret (.self 0) []
    | _ => .fail
  | _ => .fail
def oUString (P : Program) (pt : TypeId) (p n : Operand) : RM := rd p fun u => rd n fun v => match v with
  | .int .i64 m => match u with
    | .self _ => .ite (decide (m = 0)) (.ret (.str .empty) []) .fail
    | .eptr l i wd off => match Nat.beq (i * wd + off) 0 with
      | true => .getH l fun B => match B with
        | .arr (.fb T) xs true => match (match P.underlying pt with
            | some (.pointer e) => Nat.beq e T
            | _ => false) && Nat.beq (P.cellsOf T) 1 with
          | true => .ite (decide (m = (xs.length : Int) ∧ 0 < m ∧ m ≤ 9223372036854775807)) (.ret (.str (mkStr xs)) [(l, .arr (.fb T) xs true)]) .fail
          | false => .fail
        | _ => .fail
      | false => .fail
    | _ => .fail
  | _ => .fail
section
variable {P : Program} {X : Nat → Prop} {h : Hp} {φ : Lab} {w : World} {M : Nat → Prop} {tm : Nat → AV} {v : AV} {ws : Hp} {a : Act} {o : Oper}
theorem post_chg {w' : World} (hs : Sat X h φ w) (hc : Chg (fun _ => False) w w') : Post X h φ w h φ w' :=
  post_of hs (fun _ _ => rfl) (fun l C hC => ⟨C, hC, Later.refl _⟩) (hc.mono (fun _ hf => hf.elim)) (fun b ho => .inl ho) (fun hu l C hC => by
    cases C with
    | dead => exact .inr trivial
    | mp es =>
      obtain ⟨b, c, k, h1, h2, _⟩ := hs.blk l _ hC
      exact .inl ⟨hC, fun b' hb => by rw [h1] at hb; injection hb with hb; subst hb; exact hc.same b (heap_lt h2) (fun h => h)⟩
    | var cs =>
      obtain ⟨b, c, t, fr, h1, h2, _⟩ := hs.blk l _ hC
      exact .inl ⟨hC, fun b' hb => by rw [h1] at hb; injection hb with hb; subst hb; exact hc.same b (heap_lt h2) (fun h => h)⟩
    | arr e xs o =>
      refine .inl ⟨hC, fun b' hb => ?_⟩
      rcases hs.blk l _ hC with ⟨h1, _⟩ | ⟨b, c, t, fr, h1, h2, _⟩
      · rw [h1] at hb; cases hb
      · rw [h1] at hb; injection hb with hb; subst hb; exact hc.same b (heap_lt h2) (fun h => h)) hs.inj (fun l e xs b hl hb => .inl hl) hs.non
theorem oSliceData_ok (hs : Sat X h φ w) (ht : Tm h φ w (MB X h φ) tm a) {ts : Array TypeId} {x : Operand} (ho : o.op = .call { callee := .builtin .unsafeSliceData, args := #[x], argTypes := ts }) (he : (oSliceData P o.type x).eval tm h.get = some (v, ws)) : Comes P X h φ w v (ws ++ h) ((execOp a.eval o).run P w) := by
  unfold oSliceData at he
  rw [rd_eval] at he
  have hx := opv_rep ht x
  have hrun0 : (execOp a.eval o).run P w = ((Builtin.unsafeSliceData_ ts o.type #[a.eval x]).run P w).andThen fun r w' => .ok (.value r) w' := by
    unfold execOp
    simp [ho, resolve, invoke, builtin]
  rw [hrun0]
  split at he
  · rename_i pe hpe
    split at he
    · rename_i l hv
      rw [hv] at hx
      rw [eval_getH] at he
      split at he
      · rename_i B hB
        split at he
        · rename_i e xs oo
          split at he
          · rename_i hc
            simp only [Bool.and_eq_true] at hc
            obtain ⟨hc1, hc2⟩ := hc
            subst hc2
            simp only [repV] at hx
            obtain ⟨A, n, cap, hx, _, h3⟩ := hx
            obtain ⟨rfl, h4, h5, h6, h7⟩ := h3 _ _ _ hB
            rw [eval_ite] at he
            rw [hx]
            split at he <;> simp only [RM.eval, Option.some.injEq, Prod.mk.injEq] at he
            · obtain ⟨rfl, rfl⟩ := he
              cases hb : φ l with
              | none =>
                rw [hb] at h5
                subst h5
                rw [Option.map_none, Lib.run_unsafeSliceData_nil]
                exact comes_val hs (by simp only [repV]; exact ⟨_, rfl⟩)
              | some b =>
                rw [hb] at h5
                subst h5
                obtain ⟨c, t, fr, g1, g2⟩ := h7 b hb
                rw [Option.map_some]
                by_cases hcap : cap = 0
                · subst hcap
                  rw [Lib.run_unsafeSliceData_zero w ts o.type pe hpe ⟨b, 0, none⟩ xs.length (t, c.size) (by unfold World.shape?; rw [g1])]
                  refine ⟨φ, post_chg hs ?_, ?_⟩
                  · exact ⟨rfl, rfl, rfl, by show w.heap.size ≤ (w.heap.push _).size; rw [Array.size_push]; omega, fun k hk _ => by show (w.heap.push _)[k]? = _; rw [Array.getElem?_push, if_neg (by omega)], fun k c t fr hk => ⟨c, t, fr, by
                      have := heap_lt hk
                      show (w.heap.push _)[k]? = _; rw [Array.getElem?_push, if_neg (by omega)]; exact hk, rfl⟩⟩
                  · simp only [repV]; exact ⟨_, rfl⟩
                · rw [Lib.run_unsafeSliceData_row w ts o.type _ _ _ hcap]
                  exact comes_val hs (by simp only [repV]; exact ⟨_, rfl⟩)
            · rename_i hne
              obtain ⟨rfl, rfl⟩ := he
              have hne : xs ≠ [] := by rintro rfl; simp at hne
              cases hb : φ l with
              | none =>
                rcases hs.blk l _ hB with ⟨_, g2⟩ | ⟨b, c, t, fr, g1, _⟩
                · exact absurd g2 hne
                · rw [hb] at g1; cases g1
              | some b =>
                rw [hb] at h5
                subst h5
                have hpos : 0 < xs.length := List.length_pos_iff.2 hne
                rw [Option.map_some, Lib.run_unsafeSliceData_row w ts o.type _ _ _ (by omega)]
                exact comes_val hs (by simp only [repV]; exact ⟨b, hb, rfl⟩)
          · cases he
        · cases he
      · cases he
    · rename_i hv
      rw [hv] at hx
      simp only [repV] at hx
      simp only [RM.eval, Option.some.injEq, Prod.mk.injEq] at he
      obtain ⟨rfl, rfl⟩ := he
      rw [hx, Lib.run_unsafeSliceData_nil]
      exact comes_val hs (by simp only [repV]; exact ⟨_, rfl⟩)
    · cases he
  · cases he
theorem run_loadBytesI : ∀ (l : List Int) (a : Addr) (acc : ByteArray), (∀ j x, l[j]? = some x → w.cell? (a.add j) = some (.int .u8 x)) →
    (loadBytes a acc l.length).run P w = .ok ⟨acc.data ++ (l.map fun n => UInt8.ofNat n.toNat).toArray⟩ w
  | [], a, acc, _ => by simp [loadBytes]
  | x :: l, a, acc, h => by
    have h0 : w.cell? a = some (.int .u8 x) := by
      have := h 0 x rfl
      simpa [Addr.add] using this
    have ih := run_loadBytesI l (a.add 1) (acc.push (UInt8.ofNat x.toNat)) (fun j y hy => by
      have := h (j + 1) y (by simpa using hy)
      have e : (a.add 1).add j = a.add (j + 1) := by
        unfold Addr.add
        by_cases hj : j = 0
        · subst hj; simp
        · simp [hj]; omega
      rw [e]; exact this)
    simp only [List.length_cons, loadBytes, Sem.run_bind, run_load, h0, Result.andThen]
    have ex : x.toNat.toUInt8 = UInt8.ofNat x.toNat := rfl
    rw [ex, ih]
    congr 1
    apply ByteArray.ext
    simp [ByteArray.push]
theorem oUString_ok (hs : Sat X h φ w) (ht : Tm h φ w (MB X h φ) tm a) {pt it : TypeId} {p n : Operand} (ho : o.op = .call { callee := .builtin .unsafeString, args := #[p, n], argTypes := #[pt, it] }) (he : (oUString P pt p n).eval tm h.get = some (v, ws)) : Comes P X h φ w v (ws ++ h) ((execOp a.eval o).run P w) := by
  unfold oUString at he
  rw [rd_eval, rd_eval] at he
  have hp := opv_rep ht p
  have hn := opv_rep ht n
  have hrun0 : (execOp a.eval o).run P w = ((Builtin.unsafeString_ #[pt, it] o.type #[a.eval p, a.eval n]).run P w).andThen fun r w' => .ok (.value r) w' := by
    unfold execOp
    simp [ho, resolve, invoke, builtin]
  rw [hrun0]
  split at he
  · rename_i m hm
    rw [hm] at hn
    simp only [repV] at hn
    rw [hn]
    split at he
    · rename_i T hv
      rw [hv] at hp
      simp only [repV] at hp
      obtain ⟨q, hp⟩ := hp
      rw [hp]
      rw [eval_ite] at he
      split at he <;> simp only [RM.eval, Option.some.injEq, Prod.mk.injEq] at he
      · rename_i h0
        have h0 : m = 0 := by simpa using h0
        subst h0
        obtain ⟨rfl, rfl⟩ := he
        rw [Lib.run_unsafeString_none]
        exact comes_val hs (by simp only [repV])
      · cases he
    · rename_i l i wd off hv
      rw [hv] at hp
      simp only [repV] at hp
      obtain ⟨b, hb, hp⟩ := hp
      split at he
      · rename_i h0
        have h0 := Nat.eq_of_beq_eq_true h0
        rw [h0] at hp
        rw [eval_getH] at he
        split at he
        · rename_i B hB
          split at he
          · rename_i T xs
            split at he
            · rename_i hc
              simp only [Bool.and_eq_true] at hc
              obtain ⟨hc1, hc2⟩ := hc
              split at hc1
              · rename_i pe hpe
                have hc1 := Nat.eq_of_beq_eq_true hc1
                have hc2 := Nat.eq_of_beq_eq_true hc2
                subst hc1
                rw [eval_ite] at he
                split at he <;> simp only [RM.eval, Option.some.injEq, Prod.mk.injEq] at he
                · rename_i hlen
                  have hlen : m = (xs.length : Int) ∧ 0 < m ∧ m ≤ 9223372036854775807 := by simpa using hlen
                  obtain ⟨rfl, hl1, hl2⟩ := hlen
                  obtain ⟨rfl, rfl⟩ := he
                  rcases hs.blk l _ hB with ⟨g1, _⟩ | ⟨b', c, t, fr, g1, g2, g3, g4⟩
                  · rw [hb] at g1; cases g1
                  rw [hb] at g1; injection g1 with g1; subst g1
                  obtain ⟨rfl, g3⟩ := g3
                  have hcl := reps_length (fun x u hh => rep_len hh) g4
                  simp only [Kd.wd, Nat.mul_one, Array.length_toList] at hcl
                  have hcells : ∀ (j : Nat) (x : Int), xs[j]? = some x → w.cell? ((⟨b, 0, none⟩ : Addr).add j) = some (.int .u8 x) := by
                    intro j x hj
                    obtain ⟨u, k1, k2⟩ := reps_at (fun x u hh => rep_len hh) g4 hj
                    simp only [rep] at k1
                    subst k1
                    rw [Addr.add_lit, cell_blk g2, Nat.zero_add]
                    simp only [Kd.wd, Nat.mul_one] at k2
                    have : (c.toList.drop j)[0]? = some (.int .u8 x) := by
                      have := congrArg (fun l => l[0]?) k2
                      simp only [List.getElem?_take] at this
                      simpa using this
                    simpa using this
                  have hlb := run_loadBytesI (P := P) (w := w) xs ⟨b, 0, none⟩ .empty hcells
                  have hlies := Lib.liesAt_bytes (P := P) hc2 (c.size / P.cellsOf t) xs.length (by rw [hc2]; simpa using hcl)
                  have hsh : w.shape? b = some (t, c.size) := by unfold World.shape?; rw [g2]
                  have hx0 : xs.length ≠ 0 := by omega
                  have hdef : Builtin.unsafeString_ #[pt, it] o.type #[.pointer (some ⟨b, 0, none⟩), .int .i64 xs.length] =
                      (do
                        let n ← asInt (.int .i64 xs.length)
                        if n < 0 then runtimePanic (.error "unsafe.String: len out of range")
                        if n > IntKind.i64.max then unsupported (.unsafePointer "String: a length above the largest int")
                        if n = 0 then pure (.string .empty)
                        else if ← variablesAt ⟨b, 0, none⟩ (← elemOf pt) n.toNat then do
                          let s ← loadBytes ⟨b, 0, none⟩ .empty n.toNat
                          freeze ⟨b, 0, none⟩ n.toNat
                          pure (.string s)
                        else unsupported (.unsafePointer "String: not so many bytes at ptr")) := rfl
                  have hmax : IntKind.i64.max = 9223372036854775807 := rfl
                  have hneg : ¬ ((xs.length : Int) < 0) := by omega
                  have h63' : ¬ (9223372036854775807 : Int) < (xs.length : Int) := by omega
                  have hrun : (Builtin.unsafeString_ #[pt, it] o.type #[.pointer (some ⟨b, 0, none⟩), .int .i64 xs.length]).run P w = .ok (.string (mkStr xs)) (w.freeze ⟨b, 0, none⟩ xs.length) := by
                    rw [hdef]
                    simp [asInt, asIntOf, hmax, h63', hneg, hx0, variablesAt, hsh, elemOf, run_underlying hpe, hlies, hlb, mkStr]
                  rw [hp, hrun]
                  obtain ⟨lo, hi⟩ := fr
                  have hb1 : (w.freeze ⟨b, 0, none⟩ xs.length).heap[b]? = some (.cells c t (if lo == hi then (0, 0 + xs.length) else (min lo 0, max hi (0 + xs.length)))) := by
                    unfold World.freeze
                    rw [if_neg hx0]
                    simp [Array.getElem?_modify, g2]
                  have hpost := post_set (w' := w.freeze ⟨b, 0, none⟩ xs.length) (B' := .arr (.fb t) xs true) hs hB rfl hb g2 rfl (by unfold World.freeze; rw [if_neg hx0]; exact ⟨rfl, rfl, rfl⟩) (by unfold World.freeze; rw [if_neg hx0]; simp) (fun k hk => by
                    unfold World.freeze
                    rw [if_neg hx0]
                    simp only [Array.getElem?_modify]
                    rw [if_neg (fun e => hk e.symm)]) hb1 rfl (Later.refl _) (fun hup => .inr ⟨b, c, t, _, by rw [hup.lab l (by rw [hB]; simp)]; exact hb, hb1, ⟨rfl, by
                      by_cases hlh : lo = hi
                      · subst hlh; right; simp
                      · have : (lo == hi) = false := by simpa using hlh
                        rcases g3 with g3 | g3
                        · exact absurd g3 hlh
                        · right
                          simp only at g3
                          simp only [this, Bool.false_eq_true, if_false]
                          omega⟩, reps_imp (fun x _ u g => rep_keeps hup.keeps g) g4⟩)
                  refine ⟨φ, hpost, ?_⟩
                  simp only [repV]
                · cases he
              · cases hc1
            · cases he
          · cases he
        · cases he
      · cases he
    · cases he
  · cases he
end
end Go.Proofs.YtdfgfjnpllncdaaGreatDoor.I

namespace Go.Proofs.YtdfgfjnpllncdaaGreatDoor.I
open Go.RowKit
set_option linter.unusedVariables false

/-- A scalar as the machine's value. -/
def toS : AV → Option Value
  | .int k n => some (.int k n)
  | .bool b => some (.bool b)
  | .str s => some (.string s)
  | _ => none
def newKey (d : TypeDesc) (k : Value) : List (Value × Value) → Bool
  | [] => true
  | (k', _) :: r => match Instr.sameNow d k k' with
    | some b => !b && newKey d k r
    | none => false
def lookM (d : TypeDesc) (k : Value) (z : AV) (ok : Bool) : List (Value × Value) → RM
  | [] => match ok with
    | true => .ret (.tup [z, .bool false]) []
    | false => .ret z []
  | (k', v) :: r => match Instr.sameNow d k k' with
    | some b => .ite b (match ok with
      | true => .ret (.tup [avS v, .bool true]) []
      | false => .ret (avS v) []) (lookM d k z ok r)
    | none => .fail
def isSc : TypeDesc → Bool
  | .int _ | .string | .bool => true
  | _ => false
def oMakeMap (fr : Nat) (r : Option Operand) : RM := match r with
  | none => .ret (.mapr fr) [(fr, .mp [])]
  | some _ => .fail
def oInsert (P : Program) (t : TypeId) (m k x : Operand) : RM := rd m fun mu => rd k fun ku => rd x fun xu => match mu with
  | .mapr l => .getH l fun B => match B with
    | .mp es => match P.underlying t with
      | some (.map kt _) => match P.underlying kt with
        | some d => match isSc d, toS ku, toS xu with
          | true, some kv, some xv => match newKey d kv es with
            | true => .ret .any [(l, .mp (es ++ [(kv, xv)]))]
            | false => .fail
          | _, _, _ => .fail
        | none => .fail
      | _ => .fail
    | _ => .fail
  | _ => .fail
def oLookup (P : Program) (t : TypeId) (m k : Operand) (ok : Bool) : RM := rd m fun mu => rd k fun ku => match mu with
  | .mapr l => .getH l fun B => match B with
    | .mp es => match P.underlying t with
      | some (.map kt et) => match P.underlying kt with
        | some d => match isSc d, toS ku, zeroOf P et with
          | true, some kv, some z => lookM d kv (avV z) ok es
          | _, _, _ => .fail
        | none => .fail
      | _ => .fail
    | _ => .fail
  | _ => .fail
section
variable {P : Program} {X : Nat → Prop} {h : Hp} {φ : Lab} {w : World} {M : Nat → Prop} {tm : Nat → AV} {v : AV} {ws : Hp} {a : Act} {o : Oper}
theorem toS_rep {u : AV} {uv x : Value} (h1 : toS u = some x) (hr : repV h φ w M u uv) : uv = x := by
  cases u <;> simp only [toS, Option.some.injEq, reduceCtorEq] at h1 <;> subst h1 <;> simpa only [repV] using hr
theorem oMakeMap_ok (hs : Sat X h φ w) {fr : Nat} (hf : h.get fr = none) {t : TypeId} {r : Option Operand} (ho : o.op = .makeMap t r) (he : (oMakeMap fr r).eval tm h.get = some (v, ws)) : Comes P X h φ w v (ws ++ h) ((execOp a.eval o).run P w) := by
  unfold oMakeMap at he
  split at he
  · simp only [RM.eval, Option.some.injEq, Prod.mk.injEq] at he
    obtain ⟨rfl, rfl⟩ := he
    unfold execOp
    simp [ho, Instr.makeMap, newObj]
    refine ⟨_, post_newO (w' := { w with heap := w.heap.push (.map #[] 0) }) (B := .mp []) hs hf (O := .map #[] 0) ⟨rfl, rfl, rfl⟩ (by simp) (fun b hb => by
      show (w.heap.push _)[b]? = _
      rw [Array.getElem?_push, if_neg (by omega)]) (by show w.heap.size ≤ (w.heap.push _).size; rw [Array.size_push]; omega) rfl (fun h' φ' M' hup hl hat => ⟨_, #[], 0, hl, hat, rfl⟩), ?_⟩
    simp only [repV]
    exact ⟨_, Lab.set_eq _ _ _, rfl⟩
  · cases he
theorem newKey_ok {d : TypeDesc} {k : Value} : ∀ {es : List MapEntry} {i : Nat}, newKey d k (es.map fun e => (e.key, e.val)) = true → Instr.findNow d k es i = some none
  | [], _, _ => rfl
  | e :: es, i, h => by
    simp only [List.map_cons, newKey] at h
    simp only [Instr.findNow]
    split at h
    · rename_i b hb
      simp only [Bool.and_eq_true, Bool.not_eq_true'] at h
      obtain ⟨rfl, h⟩ := h
      rw [hb]
      exact newKey_ok h
    · cases h
theorem isKey_sc {d : TypeDesc} (hd : isSc d = true) {kt : TypeId} (hk : P.underlying kt = some d) (e : Bool) (n : Nat) (x : Value) (W : World) : (Instr.checkKey e (n + 1) kt x).run P W = .ok () W := by
  unfold Instr.checkKey
  rw [Sem.run_bind, run_underlying hk, Result.andThen_ok]
  cases d <;> first | (cases hd; done) | rfl
theorem run_findKey' {kt : TypeId} {d : TypeDesc} (hd : P.underlying kt = some d) {k : Value} {es : List MapEntry} {r : Option (Nat × Value)} (h : Instr.findNow d k es 0 = some r) (W : World) : (Instr.findKey kt k es).run P W = .ok r W := by
  unfold Instr.findKey
  rw [Sem.run_bind, run_underlying hd, Result.andThen_ok, h]
  rfl
theorem oInsert_ok (hs : Sat X h φ w) (ht : Tm h φ w (MB X h φ) tm a) {t : TypeId} {m k x : Operand} (ho : o.op = .insert t m k x ∨ o.op = .mapUpdate t m k x) (he : (oInsert P t m k x).eval tm h.get = some (v, ws)) : Comes P X h φ w v (ws ++ h) ((execOp a.eval o).run P w) := by
  unfold oInsert at he
  rw [rd_eval, rd_eval, rd_eval] at he
  have hm := opv_rep ht m
  have hk := opv_rep ht k
  have hx := opv_rep ht x
  split at he
  · rename_i l hl
    rw [hl] at hm
    rw [eval_getH] at he
    split at he
    · rename_i B hB
      split at he
      · rename_i es
        split at he
        · rename_i kt et hmt
          split at he
          · rename_i d hd
            split at he
            · rename_i kv xv hsc hkv hxv
              split at he
              · rename_i hnew
                simp only [RM.eval, Option.some.injEq, Prod.mk.injEq] at he
                obtain ⟨rfl, rfl⟩ := he
                have hk := toS_rep hkv hk
                have hx := toS_rep hxv hx
                simp only [repV] at hm
                obtain ⟨b, hb, hm⟩ := hm
                obtain ⟨b', c, clk, g1, g2, g3⟩ := hs.blk l _ hB
                rw [hb] at g1; injection g1 with g1; subst g1
                subst g3
                have hf := newKey_ok (i := 0) hnew
                have hrun : (Instr.mapUpdate t (.map (some b)) kv xv).run P w = .ok () { w with heap := w.heap.setIfInBounds b (.map (c.push { key := kv, val := xv, born := clk }) (clk + 1)) } := by
                  have hc := isKey_sc (P := P) hsc hd false 9999 kv w
                  simp [Instr.mapUpdate, run_underlying hmt, MapKept.run_getObj_map g2, hc, run_findKey' hd hf w, MapKept.run_setObj_map _ g2, Result.andThen]
                have hrun0 : (execOp a.eval o).run P w = .ok .skip { w with heap := w.heap.setIfInBounds b (.map (c.push { key := kv, val := xv, born := clk }) (clk + 1)) } := by
                  unfold execOp
                  rcases ho with ho | ho <;> simp only [ho, hm, hk, hx, Sem.run_bind, hrun, Result.andThen_ok] <;> rfl
                rw [hrun0]
                have hblt := heap_lt g2
                have hnewB : ({ w with heap := w.heap.setIfInBounds b (.map (c.push { key := kv, val := xv, born := clk }) (clk + 1)) } : World).heap[b]? = some (.map (c.push { key := kv, val := xv, born := clk }) (clk + 1)) := by
                  simp [Array.getElem?_setIfInBounds, hblt]
                refine ⟨φ, post_setO hs hB rfl hb (fun c' t' f' hc => by rw [g2] at hc; cases hc) ⟨rfl, rfl, rfl⟩ (by simp) (fun j hj => by simp [Array.getElem?_setIfInBounds, Ne.symm hj]) rfl trivial (fun hu => ?_), rfl⟩
                exact ⟨b, _, _, hb, hnewB, by simp⟩
              · cases he
            · cases he
          · cases he
        · cases he
      · cases he
    · cases he
  · cases he
def pickR (z : Value) : Option (Nat × Value) → Value
  | some (_, x) => x
  | none => z
def lookR (ok : Bool) (z : Value) (r : Option (Nat × Value)) : Value := match ok with
  | true => .tuple #[pickR z r, .bool r.isSome]
  | false => pickR z r
theorem lookM_ok {d : TypeDesc} {k z : Value} {ok : Bool} : ∀ {es : List MapEntry} {i : Nat}, (lookM d k (avV z) ok (es.map fun e => (e.key, e.val))).eval tm h.get = some (v, ws) →
    ∃ r, Instr.findNow d k es i = some r ∧ ws = [] ∧ repV h φ w M v (lookR ok z r)
  | [], i, he => by
    simp only [List.map_nil, lookM] at he
    refine ⟨none, rfl, ?_⟩
    split at he <;> simp only [RM.eval, Option.some.injEq, Prod.mk.injEq] at he
    · obtain ⟨rfl, rfl⟩ := he
      refine ⟨rfl, ?_⟩
      simp only [lookR, pickR, repV, repVs]
      exact ⟨_, rfl, _, _, rfl, avV_rep z, _, _, rfl, rfl, rfl⟩
    · obtain ⟨rfl, rfl⟩ := he
      exact ⟨rfl, avV_rep z⟩
  | e :: es, i, he => by
    simp only [List.map_cons, lookM] at he
    simp only [Instr.findNow]
    split at he
    · rename_i b hb
      rw [hb]
      rw [eval_ite] at he
      cases b with
      | true =>
        refine ⟨_, rfl, ?_⟩
        simp only at he
        split at he <;> simp only [RM.eval, Option.some.injEq, Prod.mk.injEq] at he
        · obtain ⟨rfl, rfl⟩ := he
          refine ⟨rfl, ?_⟩
          simp only [lookR, pickR, repV, repVs]
          exact ⟨_, rfl, _, _, rfl, avS_rep _, _, _, rfl, rfl, rfl⟩
        · obtain ⟨rfl, rfl⟩ := he
          exact ⟨rfl, avS_rep _⟩
      | false => exact lookM_ok he
    · cases he
theorem oLookup_ok (hs : Sat X h φ w) (ht : Tm h φ w (MB X h φ) tm a) {t : TypeId} {m k : Operand} {ok : Bool} (ho : o.op = .lookup t m k ok) (he : (oLookup P t m k ok).eval tm h.get = some (v, ws)) : Comes P X h φ w v (ws ++ h) ((execOp a.eval o).run P w) := by
  unfold oLookup at he
  rw [rd_eval, rd_eval] at he
  have hm := opv_rep ht m
  have hk := opv_rep ht k
  split at he
  · rename_i l hl
    rw [hl] at hm
    rw [eval_getH] at he
    split at he
    · rename_i B hB
      split at he
      · rename_i es
        split at he
        · rename_i kt et hmt
          split at he
          · rename_i d hd
            split at he
            · rename_i kv z hsc hkv hz
              have hk := toS_rep hkv hk
              simp only [repV] at hm
              obtain ⟨b, hb, hm⟩ := hm
              obtain ⟨b', c, clk, g1, g2, g3⟩ := hs.blk l _ hB
              rw [hb] at g1; injection g1 with g1; subst g1
              subst g3
              obtain ⟨r, hf, rfl, hr⟩ := lookM_ok (φ := φ) (w := w) (M := MB X h φ) (i := 0) he
              have hzr : (zeroValue et).run P w = .ok z w := by
                unfold zeroOf at hz
                cases hi : P.info? et with
                | none => rw [hi] at hz; cases hz
                | some i =>
                  rw [hi, Option.bind_some] at hz
                  simp [zeroValue, typeInfo, hi, hz]
              have hrun : (Instr.lookup t (.map (some b)) kv ok).run P w = .ok (lookR ok z r) w := by
                have hc := isKey_sc (P := P) hsc hd c.isEmpty 9999 kv w
                cases r with
                | none => cases ok <;> simp [Instr.lookup, run_underlying hmt, MapKept.run_getObj_map g2, hc, run_findKey' hd hf w, Result.andThen, hzr, lookR, pickR]
                | some p => cases ok <;> simp [Instr.lookup, run_underlying hmt, MapKept.run_getObj_map g2, hc, run_findKey' hd hf w, Result.andThen, lookR, pickR]
              unfold execOp
              simp only [ho, hm, hk, Sem.run_bind, hrun, Result.andThen_ok]
              exact comes_val hs hr
            · cases he
          · cases he
        · cases he
      · cases he
    · cases he
  · cases he
end
end Go.Proofs.YtdfgfjnpllncdaaGreatDoor.I

namespace Go.Proofs.YtdfgfjnpllncdaaGreatDoor.I
open Go.RowKit
set_option linter.unusedVariables false

/-- What is known of a function: its answer, told over the walk's values (and the first label that is free). -/
abbrev Spec := List AV → Nat → RM
/-- What the calls may rely on beside: blocks below N hold what G says; nobody writes there. -/
structure Env (N : Nat) (G : World → Prop) (h : Hp) (φ : Lab) (w : World) : Prop where
  g : G w
  n : N ≤ w.heap.size
  o : ∀ b, ownB h φ b → N ≤ b
def Stays (N : Nat) (G : World → Prop) : Prop := ∀ w w' : World, (∀ b, b < N → w'.heap[b]? = w.heap[b]?) → G w → G w'
theorem Env.post {N : Nat} {G : World → Prop} (hG : Stays N G) {X : Nat → Prop} {h h' : Hp} {φ φ' : Lab} {w w' : World} (e : Env N G h φ w) (p : Post X h φ w h' φ' w') : Env N G h' φ' w' :=
  ⟨hG w w' (fun b hb => p.chg.same b (by have := e.n; omega) (fun ho => by have := e.o b ho; omega)) e.g, Nat.le_trans e.n p.chg.size, fun b hb => by
    rcases p.grow b hb with h1 | h1
    · exact e.o b h1
    · have := e.n; omega⟩
def enters (P : Program) (g : FuncId) : Bool := match P.funcs[g]? with
  | some fn => fn.body.isSome && fn.name != "runtime.NumGoroutine"
  | none => false
/-- What is known of a function is so. -/
structure SpecOk (P : Program) (N : Nat) (G : World → Prop) (g : FuncId) (S : Spec) : Prop where
  enters : enters P g = true
  calls : ∀ X h φ w us vals fr v ws tm, Sat X h φ w → Env N G h φ w → repVs h φ w (MB X h φ) us vals → (∀ k, fr ≤ k → k < fr + 64 → Hp.get h k = none) → (S us fr).eval tm h.get = some (v, ws) →
    Calls P g vals.toArray w fun e w' => ∃ u φ', e = .returned u ∧ Post X h φ w (ws ++ h) φ' w' ∧ repV (ws ++ h) φ' w' (MB X (ws ++ h) φ') v u
abbrev Specs := FuncId → Option Spec

def execCall (P : Program) (F : Specs) (fr : Nat) (ty : TypeId) (c : Call) : RM := match c.callee with
  | .builtin b => match b with
    | .len => match c.args.toList, c.argTypes.toList with
      | [x], [t] => oLen P t x
      | _, _ => .fail
    | .append => match c.args.toList, c.argTypes.toList with
      | [s, x], [t, tx] => oAppend P fr t tx s x
      | _, _ => .fail
    | .unsafeString => match c.args.toList, c.argTypes.toList with
      | [x, n], [t, _] => oUString P t x n
      | _, _ => .fail
    | .unsafeSliceData => match c.args.toList with
      | [x] => oSliceData P ty x
      | _ => .fail
    | .max => rds c.args.toList fun us => oMinMax true us
    | .min => rds c.args.toList fun us => oMinMax false us
    | _ => .fail
  | .value f => rd f fun u => match u with
    | .fn g caps => rds c.args.toList fun us => match F g with
      | some S => S (us ++ caps) fr
      | none => .fail
    | _ => .fail
  | _ => .fail
def exec (P : Program) (F : Specs) (fr : Nat) (o : Oper) : RM := match o.op with
  | .move x | .assign x => oMove x
  | .pick c a b => oPick c a b
  | .alloc t => oAlloc P fr t
  | .box _ x => oBox fr x
  | .build t ps => oBuild P t ps
  | .buildSlice t n ps => oBuildSlice P fr t n ps
  | .load t a => oLoad P t a
  | .store t a x => oStore P t a x
  | .nilCheck x => oNilCheck x
  | .binOp op t x y _ => rd x fun u => rd y fun v => binV P op t (isConst x || isConst y) u v
  | .unOp op _ x => rd x fun u => unV op u
  | .convert s d x => oConvert P fr s d x
  | .makeFunc fn a b => oMakeFunc fn a b
  | .slice t x lo hi mx => oSlice P t x lo hi mx
  | .fieldAddr t x f => oFieldAddr P t x f
  | .field t x f => oField P t x f
  | .indexAddr t x i => oIndexAddr P t x i
  | .index t x i => oIndex P t x i
  | .extract x i => oExtract x i
  | .makeMap _ r => oMakeMap fr r
  | .insert t m k x | .mapUpdate t m k x => oInsert P t m k x
  | .lookup t m k ok => oLookup P t m k ok
  | .call c => execCall P F fr o.type c
  | _ => .fail

section
variable {P : Program} {N : Nat} {G : World → Prop} {F : Specs} {X : Nat → Prop} {h : Hp} {φ : Lab} {w : World} {tm : Nat → AV} {v : AV} {ws : Hp} {a : Act} {o : Oper}
theorem toArray_one {α : Type} {xs : Array α} {l : List α} (e : xs.toList = l) : xs = l.toArray := by
  cases xs; simp_all
theorem exec_ok (hF : ∀ g S, F g = some S → SpecOk P N G g S) (hs : Sat X h φ w) (hE : Env N G h φ w) (ht : Tm h φ w (MB X h φ) tm a) {fr : Nat} (hf : ∀ k, fr ≤ k → k < fr + 64 → h.get k = none) (he : (exec P F fr o).eval tm h.get = some (v, ws)) :
    Comes P X h φ w v (ws ++ h) ((execOp a.eval o).run P w) := by
  have hf0 := hf fr (Nat.le_refl _) (by omega)
  unfold exec at he
  split at he
  · exact oMove_ok hs ht (.inl (by assumption)) he
  · exact oMove_ok hs ht (.inr (by assumption)) he
  · exact oPick_ok hs ht (by assumption) he
  · exact oAlloc_ok hs hf0 (by assumption) he
  · exact oBox_ok hs ht hf0 (by assumption) he
  · exact oBuild_ok hs ht (by assumption) he
  · exact oBuildSlice_ok hs ht hf0 (by assumption) he
  · exact oLoad_ok hs ht (by assumption) he
  · exact oStore_ok hs ht (by assumption) he
  · exact oNilCheck_ok hs ht (by assumption) he
  · rename_i op t x y yt ho
    rw [rd_eval, rd_eval] at he
    obtain ⟨rfl, r, h1, h2⟩ := binV_ok (P := P) (opv_rep ht x) (opv_rep ht y) he
    unfold execOp
    simp only [ho]
    rw [Sem.run_bind, h1]
    exact comes_val hs h2
  · rename_i op t x ho
    rw [rd_eval] at he
    obtain ⟨rfl, r, h1, h2⟩ := unV_ok (P := P) (opv_rep ht x) he
    unfold execOp
    simp only [ho]
    rw [Sem.run_bind, h1]
    exact comes_val hs h2
  · exact oConvert_ok hs ht hf0 (by assumption) he
  · exact oMakeFunc_ok hs ht (by assumption) he
  · exact oSlice_ok hs ht (by assumption) he
  · exact oFieldAddr_ok hs ht (by assumption) he
  · exact oField_ok hs ht (by assumption) he
  · exact oIndexAddr_ok hs ht (by assumption) he
  · exact oIndex_ok hs ht (by assumption) he
  · exact oExtract_ok hs ht (by assumption) he
  · exact oMakeMap_ok hs hf0 (by assumption) he
  · exact oInsert_ok hs ht (.inl (by assumption)) he
  · exact oInsert_ok hs ht (.inr (by assumption)) he
  · exact oLookup_ok hs ht (by assumption) he
  · rename_i c ho
    obtain ⟨cal, args, ats⟩ := c
    unfold execCall at he
    split at he
    · rename_i b hb
      simp only at hb
      subst hb
      split at he
      · split at he
        · rename_i x t h1 h2
          obtain rfl := toArray_one h1
          obtain rfl := toArray_one h2
          exact oLen_ok hs ht ho he
        · cases he
      · split at he
        · rename_i s x t tx h1 h2
          obtain rfl := toArray_one h1
          obtain rfl := toArray_one h2
          exact oAppend_ok hs ht hf0 ho he
        · cases he
      · split at he
        · rename_i x n t t' h1 h2
          obtain rfl := toArray_one h1
          obtain rfl := toArray_one h2
          exact oUString_ok hs ht ho he
        · cases he
      · split at he
        · rename_i x h1
          obtain rfl := toArray_one h1
          exact oSliceData_ok hs ht ho he
        · cases he
      · rw [rds_eval] at he
        exact oMinMax_ok (mx := true) hs ht (xs := args.toList) (ts := ats) (by simpa using ho) he
      · rw [rds_eval] at he
        exact oMinMax_ok (mx := false) hs ht (xs := args.toList) (ts := ats) (by simpa using ho) he
      · cases he
    · rename_i f hb
      simp only at hb
      subst hb
      rw [rd_eval] at he
      have hfv := opv_rep ht f
      split at he
      · rename_i g caps hg
        rw [hg] at hfv
        simp only [repV] at hfv
        obtain ⟨cs, hfv, hcs⟩ := hfv
        rw [rds_eval] at he
        split at he
        · rename_i S hS
          have hok := hF g S hS
          have hargs := opvs_rep ht args.toList
          have hall := repVs_append.2 ⟨_, _, rfl, hargs, hcs⟩
          have hc := hok.calls X h φ w _ _ fr v ws tm hs hE hall hf he
          have hen := hok.enters
          unfold enters at hen
          split at hen
          · rename_i fn hfn
            simp only [Bool.and_eq_true, bne_iff_ne, ne_eq] at hen
            obtain ⟨hen1, hen2⟩ := hen
            have hnone : fn.body.isNone = false := by cases hb : fn.body <;> simp_all
            have hrun : (execOp a.eval o).run P w = .ok (.enter g (args.map a.eval ++ cs)) w := by
              unfold execOp
              simp [ho, resolve, Deferred.ofValue, hfv, invoke, callFunc, hfn, hen2]
              intro hnb; rw [hnb] at hen1; cases hen1
            rw [hrun]
            refine ⟨rfl, ?_⟩
            have e : (args.toList.map a.eval ++ cs.toList).toArray = args.map a.eval ++ cs := by
              apply Array.ext'; simp
            rw [e] at hc
            exact hc
          · cases hen
        · cases he
      · cases he
    · cases he
  · cases he
end
end Go.Proofs.YtdfgfjnpllncdaaGreatDoor.I
