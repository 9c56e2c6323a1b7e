import Derived.Test.YtdfgfjnpllncdaaGreatDoorXq4
import Derived.Lib.ItoaLen
import Derived.OpenShut
import Derived.Lib.Small
import Derived.Lib.Join
import Derived.Lib.AtoiAllCases
import Derived.Below
import Derived.IntWalk
import Derived.Laws.BitsAllLaws
import Derived.Laws.BitsLemmas
namespace Go.Proofs.YtdfgfjnpllncdaaGreatDoor.I
open Go.RowKit
set_option linter.unusedVariables false
/-- A loop over a list, told by recursion. -/
def foldL {α S O : Type} (body : Nat → α → S → Option (S ⊕ O)) (out : S → O) : Nat → List α → S → Option O
  | _, [], s => some (out s)
  | i, a :: l, s => match body i a s with
    | none => none
    | some (.inl s') => foldL body out (i + 1) l s'
    | some (.inr o) => some o
def stepTo {D S O : Type} (emb : Int → S → D) (i : Nat) : Option (S ⊕ O) → Option (D ⊕ O)
  | none => none
  | some (.inl s') => some (.inl (emb ((i : Int) + 1) s'))
  | some (.inr o) => some (.inr o)
theorem loop_from {α S D O : Type} {step : D → Option (D ⊕ O)} (emb : Int → S → D) (xs : List α) (body : Nat → α → S → Option (S ⊕ O)) (out : S → O)
    (hin : ∀ (i : Nat) a s, xs[i]? = some a → step (emb i s) = stepTo emb i (body i a s))
    (hend : ∀ s, step (emb (xs.length : Int) s) = some (.inr (out s))) : ∀ (l : List α) (i : Nat) (s : S), i ≤ xs.length → xs.drop i = l → loop step (emb i s) = foldL body out i l s
  | [], i, s, hi, hl => by
    have : i = xs.length := by
      have := congrArg List.length hl
      simp at this; omega
    subst this
    rw [loop_eq, hend]
    rfl
  | a :: l, i, s, hi, hl => by
    have ha : xs[i]? = some a := by
      have := congrArg (fun l => l[0]?) hl
      simpa using this
    have hlt : i < xs.length := (List.getElem?_eq_some_iff.1 ha).1
    have hd : xs.drop (i + 1) = l := by rw [← List.drop_drop, hl]; rfl
    rw [loop_eq, hin i a s ha]
    simp only [foldL]
    cases hb : body i a s with
    | none => rfl
    | some r =>
      cases r with
      | inr o => rfl
      | inl s' =>
        simp only [stepTo]
        exact loop_from emb xs body out hin hend l (i + 1) s' hlt hd
theorem loop_list {α S D O : Type} {step : D → Option (D ⊕ O)} (emb : Int → S → D) (xs : List α) (body : Nat → α → S → Option (S ⊕ O)) (out : S → O)
    (hin : ∀ (i : Nat) a s, xs[i]? = some a → step (emb i s) = stepTo emb i (body i a s))
    (hend : ∀ s, step (emb (xs.length : Int) s) = some (.inr (out s))) (s : S) : loop step (emb 0 s) = foldL body out 0 xs s :=
  loop_from emb xs body out hin hend xs 0 s (Nat.zero_le _) rfl
theorem wrap64 {n : Int} (h1 : -9223372036854775808 ≤ n) (h2 : n ≤ 9223372036854775807) : IntKind.wrap .i64 n = n := by
  unfold IntKind.wrap
  simp only [IntKind.signed, IntKind.bits]
  simp
  omega
theorem lt_of_get {α : Type} {xs : List α} {i : Nat} {a : α} (h : xs[i]? = some a) : i < xs.length := (List.getElem?_eq_some_iff.1 h).1
theorem dec_lt {i n : Nat} (h : i < n) : decide ((i : Int) < (n : Int)) = true := by simp; omega
theorem dec_nlt {i : Nat} : decide ((i : Int) < (i : Int)) = false := by simp
theorem inB_lt {i n : Nat} (h : i < n) : inB (i : Int) n = true := by unfold inB; simp; omega
theorem wrapS {i n : Nat} (h : i < n) (hn : n ≤ 9223372036854775807) : IntKind.wrap .i64 ((i : Int) + 1) = (i : Int) + 1 := wrap64 (by omega) (by omega)
theorem bytes_get {s : ByteArray} {i : Nat} : strAt s (i : Int) = s.data.toList[i]? := by
  unfold strAt
  rw [if_pos (by omega)]
  simp only [Int.toNat_natCast]
  show s[i]? = _
  cases h : s.data.toList[i]? with
  | none =>
    have := List.getElem?_eq_none_iff.1 h
    rw [Array.length_toList] at this
    exact getElem?_neg s i (by show ¬ i < s.data.size; omega)
  | some b =>
    have h2 := (List.getElem?_eq_some_iff.1 h)
    obtain ⟨h3, h4⟩ := h2
    rw [Array.length_toList] at h3
    rw [getElem?_pos s i h3]
    congr 1
theorem bytes_len {s : ByteArray} : s.size = s.data.toList.length := by rw [Array.length_toList]; rfl
end Go.Proofs.YtdfgfjnpllncdaaGreatDoor.I

namespace Go.Proofs.YtdfgfjnpllncdaaGreatDoor.I
open Go.RowKit
set_option linter.unusedVariables false

abbrev DVal := Int × Int × ByteArray × Bool × Unit
def found {O : Type} : Option O → Option (Unit ⊕ O)
  | some o => some (.inr o)
  | none => some (.inl ())
theorem foldL_find {α O : Type} {body : Nat → α → Unit → Option (Unit ⊕ O)} {out : Unit → O} (g : α → Option O) : ∀ (xs : List α) (i : Nat), (∀ (j : Nat) a, xs[j]? = some a → body (i + j) a () = found (g a)) →
    foldL body out i xs () = some ((xs.findSome? g).getD (out ()))
  | [], i, _ => rfl
  | a :: l, i, h => by
    have h0 := h 0 a rfl
    simp only [Nat.add_zero] at h0
    simp only [foldL, h0, List.findSome?_cons]
    cases hg : g a with
    | some o => rfl
    | none =>
      simp only [found]
      exact foldL_find g l (i + 1) (fun j b hb => by
        have := h (j + 1) b (by simpa using hb)
        rwa [show i + 1 + j = i + (j + 1) by omega])

def okB (b : UInt8) : Bool := !(decide ((b.toNat : Int) < 32)) && (!(decide (126 < (b.toNat : Int))) && !(decide ((b.toNat : Int) = 34)))
theorem find_all {α : Type} (p : α → Bool) {O : Type} (o : O) : ∀ (xs : List α), xs.findSome? (fun a => if p a then none else some o) = if xs.all p then none else some o
  | [] => rfl
  | a :: l => by
    rw [List.findSome?_cons, List.all_cons]
    cases h : p a with
    | true => simp [find_all p o l]
    | false => simp
theorem r38_eq (s : ByteArray) (hs : s.size ≤ 9223372036854775807) : r98 (s, ()) = some (s.data.toList.all okB, ()) := by
  unfold r98
  rw [loop_list (fun i _ => ((i, ()), ())) s.data.toList (fun i b _ => found (if okB b then none else some (Sum.inl ((false, ()), ())))) (fun _ => Sum.inr (Sum.inl ((), ()))) (fun i b _ h => ?_) (fun _ => ?_) ()]
  · rw [foldL_find (fun b => if okB b then none else some (Sum.inl ((false, ()), ()))) s.data.toList 0 (fun j a _ => rfl), find_all]
    cases s.data.toList.all okB <;> rfl
  · have hl := lt_of_get h
    have hlen : s.size = s.data.toList.length := bytes_len
    simp only [hlen, dec_lt hl, bytes_get, h, cond_true, Option.bind_some]
    rw [wrapS hl (by omega)]
    unfold okB
    cases decide ((b.toNat : Int) < 32) <;> cases decide (126 < (b.toNat : Int)) <;> cases decide ((b.toNat : Int) = 34) <;> rfl
  · simp only [← bytes_len, dec_nlt, cond_false]

def checkV (v : DVal) : Int :=
  if v.1 < 0 then 8 else if 3 < v.1 then 8 else if ¬ v.1 = 1 ∧ ¬ v.2.1 = 0 then 3 else if ¬ v.1 = 2 ∧ ¬ v.2.2.1 = ByteArray.mk (List.toArray []) then 3 else if ¬ v.1 = 3 ∧ v.2.2.2.1 = true then 3
  else if v.2.1 < -1000000000000 then 2 else if 1000000000000 < v.2.1 then 2 else if 40 < (v.2.2.1.size : Int) then 2 else if v.2.2.1.data.toList.all okB = true then 0 else 3
theorem r10_eq (v : DVal) (hs : v.2.2.1.size ≤ 9223372036854775807) : r61 (v, ()) = some (checkV v, ()) := by
  obtain ⟨k, n, s, b, ⟨⟩⟩ := v
  have h38 := r38_eq s hs
  unfold r61 checkV
  simp only [h38, Option.bind_some]
  generalize s.data.toList.all okB = a
  clear h38 hs
  generalize s.size = z
  by_cases h1 : k < 0
  · simp [h1]
  by_cases h2 : 3 < k
  · simp [h1, h2]
  have hk : k = 0 ∨ k = 1 ∨ k = 2 ∨ k = 3 := by omega
  by_cases h3 : n = 0 <;> by_cases h4 : s = ByteArray.mk (List.toArray []) <;> by_cases h5 : n < -1000000000000 <;> by_cases h6 : 1000000000000 < n <;> by_cases h7 : 40 < (z : Int) <;> rcases hk with rfl | rfl | rfl | rfl <;> cases b <;> cases a <;> simp [h3, h4, h5, h6, h7]
def okI (b : Int) : Bool := !(decide (b < 32)) && (!(decide (126 < b)) && !(decide (b = 34)))
theorem okI_all (s : ByteArray) : (bytesOf s).all okI = s.data.toList.all okB := by
  unfold bytesOf
  rw [List.all_map]
  rfl
set_option maxHeartbeats 1000000 in
theorem r29_eq (v : DVal) (hs : v.2.2.1.size ≤ 9223372036854775807) : r24 (v, ()) = some (checkV v, ()) := by
  obtain ⟨k, n, s, b, ⟨⟩⟩ := v
  unfold r24 checkV
  have hb : (bytesOf s).length = s.size := by unfold bytesOf; rw [List.length_map, ← bytes_len]
  rw [loop_list (fun i _ => ((i, ()), ())) (bytesOf s) (fun i b _ => found (if okI b then none else some (Sum.inl ((3, ()), ())))) (fun _ => Sum.inr (Sum.inl ((), ()))) (fun i b _ h => ?_) (fun _ => ?_) ()]
  · rw [foldL_find (fun b => if okI b then none else some (Sum.inl ((3, ()), ()))) (bytesOf s) 0 (fun j a _ => rfl), find_all, okI_all]
    generalize s.data.toList.all okB = a
    clear hb hs
    generalize s.size = z
    by_cases h1 : k < 0
    · simp [h1]
    by_cases h2 : 3 < k
    · simp [h1, h2]
    have hk : k = 0 ∨ k = 1 ∨ k = 2 ∨ k = 3 := by omega
    have hn : ((0 : Int) = n) = (n = 0) := propext eq_comm
    have hc : ((ByteArray.mk #[]) = s) = (s = ByteArray.mk #[]) := propext eq_comm
    by_cases h3 : n = 0 <;> by_cases h4 : s = ByteArray.mk (List.toArray []) <;> by_cases h5 : n < -1000000000000 <;> by_cases h6 : 1000000000000 < n <;> by_cases h7 : 40 < (z : Int) <;> rcases hk with rfl | rfl | rfl | rfl <;> cases b <;> cases a <;> simp [h3, h4, h5, h6, h7, inB, sumE, hc, hn]
  · have hl := lt_of_get h
    simp only [dec_lt hl, inB_lt hl, Int.toNat_natCast, h, cond_true, Option.bind_some]
    rw [wrapS hl (by rw [hb]; exact hs)]
    unfold okI
    cases decide (b < 32) <;> cases decide (126 < b) <;> cases decide (b = 34) <;> rfl
  · simp only [dec_nlt, cond_false]
end Go.Proofs.YtdfgfjnpllncdaaGreatDoor.I

namespace Go.Proofs.YtdfgfjnpllncdaaGreatDoor.I
open Go.RowKit
set_option linter.unusedVariables false
theorem loop_up {S D O : Type} {step : D → Option (D ⊕ O)} (emb : Int → S → D) (n : Nat) (Inv : Nat → S → Prop) (Post : O → Prop)
    (hin : ∀ (i : Nat) (s : S), i < n → Inv i s → (∃ s', step (emb (i : Int) s) = some (.inl (emb ((i : Int) + 1) s')) ∧ Inv (i + 1) s') ∨ ∃ o, step (emb (i : Int) s) = some (.inr o) ∧ Post o)
    (hend : ∀ s, Inv n s → ∃ o, step (emb (n : Int) s) = some (.inr o) ∧ Post o) : ∀ (k : Nat) (s : S), k ≤ n → Inv k s → ∃ o, loop step (emb (k : Int) s) = some o ∧ Post o := by
  have key : ∀ (m k : Nat) (s : S), n - k = m → k ≤ n → Inv k s → ∃ o, loop step (emb (k : Int) s) = some o ∧ Post o := by
    intro m
    induction m with
    | zero =>
      intro k s hm hk hI
      have : k = n := by omega
      subst this
      obtain ⟨o, h1, h2⟩ := hend s hI
      rw [loop_eq, h1]
      exact ⟨o, rfl, h2⟩
    | succ m ih =>
      intro k s hm hk hI
      rcases hin k s (by omega) hI with ⟨s', h1, h2⟩ | ⟨o, h1, h2⟩
      · rw [loop_eq, h1]
        exact ih (k + 1) s' (by omega) (by omega) h2
      · rw [loop_eq, h1]
        exact ⟨o, rfl, h2⟩
  exact fun k s => key _ k s rfl
theorem bind_loop {D O R : Type} {step : D → Option (D ⊕ O)} {d : D} {f : O → Option R} {Post : O → Prop} {y : R} (h : ∃ o, loop step d = some o ∧ Post o) (k : ∀ o, Post o → f o = some y) : Option.bind (loop step d) f = some y := by
  obtain ⟨o, h1, h2⟩ := h
  rw [h1]
  exact k o h2
theorem bind_loopQ {D O R : Type} {step : D → Option (D ⊕ O)} {d : D} {f : O → Option R} {Post : O → Prop} (Q : Option R → Prop) (h : ∃ o, loop step d = some o ∧ Post o) (k : ∀ o, Post o → Q (f o)) : Q (Option.bind (loop step d) f) := by
  obtain ⟨o, h1, h2⟩ := h
  rw [h1]
  exact k o h2
/-- From the first element on; only one way out. -/
theorem loop_all {S D O R : Type} {step : D → Option (D ⊕ O)} {f : O → Option R} {y : R} (emb : Int → S → D) (n : Nat) (Inv : Nat → S → Prop) (out : S → O)
    (hin : ∀ (i : Nat) (s : S), i < n → Inv i s → ∃ s', step (emb (i : Int) s) = some (.inl (emb ((i : Int) + 1) s')) ∧ Inv (i + 1) s')
    (hend : ∀ s, Inv n s → step (emb (n : Int) s) = some (.inr (out s))) (s0 : S) (h0 : Inv 0 s0) (k : ∀ s, Inv n s → f (out s) = some y) : Option.bind (loop step (emb 0 s0)) f = some y := by
  have h := loop_up (step := step) emb n Inv (fun o => ∃ s, Inv n s ∧ o = out s) (fun i s hi hs => .inl (hin i s hi hs)) (fun s hs => ⟨_, hend s hs, s, hs, rfl⟩) 0 s0 (Nat.zero_le _) h0
  refine bind_loop h ?_
  rintro o ⟨s, hs, rfl⟩
  exact k s hs
/-- The state after each round is told. -/
theorem loop_is {S D O R : Type} {step : D → Option (D ⊕ O)} {f : O → Option R} {y : R} (emb : Int → S → D) (n : Nat) (st : Nat → S) (out : S → O)
    (hin : ∀ (i : Nat), i < n → step (emb (i : Int) (st i)) = some (.inl (emb ((i : Int) + 1) (st (i + 1)))))
    (hend : step (emb (n : Int) (st n)) = some (.inr (out (st n)))) (k : f (out (st n)) = some y) (s0 : S) (h0 : s0 = st 0) : Option.bind (loop step (emb 0 s0)) f = some y :=
  loop_all emb n (fun i s => s = st i) out (fun i s hi hs => ⟨_, by subst hs; exact hin i hi, rfl⟩) (fun s hs => by subst hs; exact hend) s0 h0 (fun s hs => by subst hs; exact k)
theorem take_succ {α : Type} {l : List α} {i : Nat} {a : α} (h : l[i]? = some a) : l.take (i + 1) = l.take i ++ [a] := by
  rw [List.take_add_one, h]; rfl
theorem get_lt {α : Type} {l : List α} {i : Nat} (h : i < l.length) : ∃ a, l[i]? = some a := ⟨_, List.getElem?_eq_getElem h⟩
end Go.Proofs.YtdfgfjnpllncdaaGreatDoor.I

namespace Go.Proofs.YtdfgfjnpllncdaaGreatDoor.I
open Go.RowKit
set_option linter.unusedVariables false
set_option linter.constructorNameAsVariable false
theorem name_eq (s : ByteArray) (h : s.size ≤ 9223372036854775807) : r62 (s, ()) = some (nameOk s, ()) := by
  unfold r62
  have : decide (s.size ≤ 9223372036854775807) = true := decide_eq_true h
  simp only [this, cond_true]
end Go.Proofs.YtdfgfjnpllncdaaGreatDoor.I

namespace Go.Proofs.YtdfgfjnpllncdaaGreatDoor.I
open Go.RowKit
set_option linter.unusedVariables false
set_option linter.constructorNameAsVariable false

abbrev O3 := ((Int × Unit) × Unit) ⊕ (Unit × Unit) ⊕ Empty
def w3 (e : Int) : O3 := Sum.inl ((e, ()), ())
def w0 : O3 := Sum.inr (Sum.inl ((), ()))
end Go.Proofs.YtdfgfjnpllncdaaGreatDoor.I

namespace Go.Proofs.YtdfgfjnpllncdaaGreatDoor.I
open Go.RowKit
set_option linter.unusedVariables false
set_option linter.constructorNameAsVariable false
def Tot {α : Type} (o : Option α) : Prop := ∃ y, o = some y
theorem tot_some {α : Type} (y : α) : Tot (some y) := ⟨y, rfl⟩
theorem tot_bind {α β : Type} {o : Option α} {f : α → Option β} (h : Tot o) (k : ∀ y, Tot (f y)) : Tot (o.bind f) := by
  obtain ⟨y, rfl⟩ := h
  exact k y
/-- A loop that counts. -/
theorem tot_count {S D O : Type} {step : D → Option (D ⊕ O)} (emb : Int → S → D) (Inv : Nat → S → Prop) (n : Nat)
    (hin : ∀ (i : Nat) s, i < n → Inv i s → ∃ r, step (emb i s) = some r ∧ ((∃ s', r = .inl (emb ((i : Int) + 1) s') ∧ Inv (i + 1) s') ∨ ∃ o, r = .inr o))
    (hend : ∀ s, ∃ o, step (emb (n : Int) s) = some (.inr o)) (s : S) (h0 : Inv 0 s) : Tot (loop step (emb 0 s)) := by
  have key : ∀ (m i : Nat) (s : S), n - i = m → i ≤ n → Inv i s → Tot (loop step (emb (i : Int) s)) := by
    intro m
    induction m with
    | zero =>
      intro i s hm hi hI
      have : i = n := by omega
      subst this
      obtain ⟨o, ho⟩ := hend s
      exact ⟨o, by rw [loop_eq, ho]⟩
    | succ m ih =>
      intro i s hm hi hI
      obtain ⟨r, hr, h⟩ := hin i s (by omega) hI
      rw [loop_eq, hr]
      rcases h with ⟨s', rfl, hI'⟩ | ⟨o, rfl⟩
      · exact ih (i + 1) s' (by omega) (by omega) hI'
      · exact ⟨o, rfl⟩
  exact key n 0 s (by omega) (Nat.zero_le _) h0
theorem tot_sumE {α β γ : Type} {f : α → Option γ} {g : β → Option γ} (h : ∀ a, Tot (f a)) (k : ∀ b, Tot (g b)) (o : α ⊕ β) : Tot (sumE f g o) := by
  cases o
  · exact h _
  · exact k _
theorem tot_emptyE {γ : Type} (o : Empty) : Tot (emptyE (γ := Option γ) o) := nomatch o
/-- What a round may come to. -/
def Good {S D O : Type} (emb : Int → S → D) (Inv : Nat → S → Prop) (i : Nat) (x : Option (D ⊕ O)) : Prop := (∃ s', x = some (.inl (emb ((i : Int) + 1) s')) ∧ Inv (i + 1) s') ∨ ∃ o, x = some (.inr o)
section
variable {S D O : Type} {emb : Int → S → D} {Inv : Nat → S → Prop} {i : Nat}
theorem good_cond {b : Bool} {x y : Option (D ⊕ O)} (h : Good emb Inv i x) (k : Good emb Inv i y) : Good emb Inv i (cond b x y) := by
  cases b
  · exact k
  · exact h
theorem good_out (o : O) : Good emb Inv i (some (.inr o) : Option (D ⊕ O)) := .inr ⟨o, rfl⟩
theorem good_next (s' : S) (h : Inv (i + 1) s') : Good emb Inv i (some (.inl (emb ((i : Int) + 1) s')) : Option (D ⊕ O)) := .inl ⟨s', rfl, h⟩
theorem tot_loop {step : D → Option (D ⊕ O)} (emb : Int → S → D) (Inv : Nat → S → Prop) (n : Nat) (hin : ∀ (i : Nat) s, i < n → Inv i s → Good emb Inv i (step (emb i s))) (hend : ∀ s, ∃ o, step (emb (n : Int) s) = some (.inr o)) (s : S) (h0 : Inv 0 s) : Tot (loop step (emb 0 s)) :=
  tot_count emb Inv n (fun i s hi hI => by
    rcases hin i s hi hI with ⟨s', h1, h2⟩ | ⟨o, h1⟩
    · exact ⟨_, h1, .inl ⟨s', rfl, h2⟩⟩
    · exact ⟨_, h1, .inr ⟨o, rfl⟩⟩) hend s h0
end
abbrev IU : Type := (Int × Unit) × Unit
@[reducible] def embI (i : Int) (_ : Unit) : IU := ((i, ()), ())
theorem t145 (l : List Int) (n : Int) (hl : l.length ≤ 9223372036854775807) : Tot (r64 (l, (n, ()))) := by
  unfold r64
  refine tot_bind (tot_loop embI (fun _ _ => True) l.length (fun i _ hi _ => ?_) (fun _ => ?_) () trivial) (tot_sumE (fun _ => tot_some _) (tot_sumE (fun _ => tot_some _) tot_emptyE))
  · obtain ⟨a, ha⟩ : ∃ a, l[i]? = some a := ⟨_, List.getElem?_eq_getElem hi⟩
    dsimp only [embI]
    simp only [dec_lt hi, inB_lt hi, Int.toNat_natCast, ha, cond_true, Option.bind_some]
    rw [wrapS hi hl]
    exact good_cond (good_out _) (good_next () trivial)
  · dsimp only [embI]
    simp only [dec_nlt, cond_false]
    exact ⟨_, rfl⟩
end Go.Proofs.YtdfgfjnpllncdaaGreatDoor.I

namespace Go.Proofs.YtdfgfjnpllncdaaGreatDoor.I
open Go.RowKit
set_option linter.unusedVariables false
set_option linter.constructorNameAsVariable false
abbrev kVal : Kd := .pair (.int .i64) (.pair (.int .i64) (.pair .str (.pair .bool .unit)))
end Go.Proofs.YtdfgfjnpllncdaaGreatDoor.I

namespace Go.Proofs.YtdfgfjnpllncdaaGreatDoor.I
open Go.RowKit
set_option linter.unusedVariables false
set_option linter.unusedSimpArgs false
set_option linter.constructorNameAsVariable false
abbrev DNode := Int × DVal × ByteArray × Unit
abbrev DExp := Tree DNode
abbrev kNode : Kd := .pair (.int .i64) (.pair kVal (.pair .str .unit))
abbrev kExp : Kd := .tree kNode
theorem t_eta (a : DExp) : Tree.node ((Tree.val a).1, (((Tree.val a).2.1.1, ((Tree.val a).2.1.2.1, ((Tree.val a).2.1.2.2.1, ((Tree.val a).2.1.2.2.2.1, Unit.unit)))), ((Tree.val a).2.2.1, Unit.unit))) (Tree.kids a) = a := by
  cases a
  rfl
theorem exp_small {t : DExp} (h : small kExp t) : small (.int .i64) (Tree.val t).1 ∧ small kVal (Tree.val t).2.1 ∧ (Tree.val t).2.2.1.size ≤ 9223372036854775807 ∧ (Tree.kids t).length ≤ 9223372036854775807 ∧ ∀ k ∈ Tree.kids t, small kExp k := by
  cases t with
  | node v ks =>
    obtain ⟨h1, h2, h3⟩ := h
    exact ⟨h1.1, h1.2.1, h1.2.2.1, h2, smallTs_iff.1 h3⟩
def emptyS : ByteArray := ByteArray.mk (List.toArray [])
/-- How many operands. -/
def kidsN (op : Int) : Int := if 0 ≤ op ∧ op ≤ 2 then 0 else if op = 5 ∨ op = 17 ∨ op = 19 then 1 else if op = 18 then 3 else if 3 ≤ op ∧ op ≤ 21 then 2 else -1
theorem kids_eq (op : Int) : r60 (op, ()) = some (kidsN op, ()) := by
  by_cases h : 0 ≤ op ∧ op ≤ 21
  · have key : ∀ n : Fin 22, r60 (((n : Nat) : Int), ()) = some (kidsN ((n : Nat) : Int), ()) := by decide +kernel
    have := key ⟨op.toNat, by omega⟩
    simp only at this
    rwa [show ((op.toNat : Nat) : Int) = op by omega] at this
  · have e5 : decide (op = 5) = false := decide_eq_false (by omega)
    have e17 : decide (op = 17) = false := decide_eq_false (by omega)
    have e19 : decide (op = 19) = false := decide_eq_false (by omega)
    have e18 : decide (op = 18) = false := decide_eq_false (by omega)
    unfold r60 kidsN
    rw [if_neg (by omega), if_neg (by omega), if_neg (by omega), if_neg (by omega)]
    simp only [e5, e17, e19, e18, cond_false]
    by_cases h0 : 0 ≤ op
    · simp only [decide_eq_true h0, decide_eq_false (show ¬ op ≤ 2 by omega), decide_eq_true (show 3 ≤ op by omega), decide_eq_false (show ¬ op ≤ 21 by omega), cond_true, cond_false]
    · simp only [decide_eq_false h0, decide_eq_false (show ¬ 3 ≤ op by omega), cond_false]
noncomputable def wordsL : List ByteArray := ((r13 ()).getD ([], ())).1
noncomputable def fieldsL : List ByteArray := ((r12 ()).getD ([], ())).1
theorem words_eq : r13 () = some (wordsL, ()) := rfl
theorem fields_eq : r12 () = some (fieldsL, ()) := rfl
theorem index_str (l : List ByteArray) (s : ByteArray) (hl : l.length ≤ 1000000) : ∃ i : Int, r49 (l, (s, ())) = some (i, ()) ∧ (0 ≤ i ↔ s ∈ l) := by
  unfold r49
  refine bind_loopQ (fun r => ∃ i : Int, r = some (i, ()) ∧ (0 ≤ i ↔ s ∈ l)) (loop_up embI l.length (fun i _ => s ∉ l.take i) (fun o => (∃ k : Nat, o = Sum.inl (((k : Int), ()), ()) ∧ s ∈ l) ∨ (o = Sum.inr (Sum.inl ((), ())) ∧ s ∉ l)) (fun i u hi hI => ?_) (fun u hI => ?_) 0 () (Nat.zero_le _) (by simp)) (fun o ho => ?_)
  · obtain ⟨a, ha⟩ := get_lt hi
    simp only [embI, dec_lt hi, inB_lt hi, Int.toNat_natCast, ha, cond_true, Option.bind_some]
    by_cases he : s = a
    · refine .inr ⟨_, by rw [decide_eq_true he]; rfl, .inl ⟨i, rfl, ?_⟩⟩
      rw [he]
      exact List.mem_of_getElem? ha
    · refine .inl ⟨(), by rw [decide_eq_false he, cond_false, wrapS hi (by omega)], ?_⟩
      rw [take_succ ha]
      simp only [List.mem_append, List.mem_singleton]
      exact fun h => h.elim hI he
  · rw [List.take_length] at hI
    refine ⟨_, by simp only [embI, dec_nlt, cond_false], .inr ⟨rfl, hI⟩⟩
  · rcases ho with ⟨k, rfl, h⟩ | ⟨rfl, h⟩
    · exact ⟨_, rfl, fun _ => h, fun _ => by simp⟩
    · refine ⟨_, rfl, fun hc => ?_, fun hc => absurd hc h⟩
      simp at hc
def inL (s : ByteArray) (l : List ByteArray) : Bool := l.any fun a => decide (s = a)
theorem inL_iff {s : ByteArray} {l : List ByteArray} : inL s l = true ↔ s ∈ l := by simp [inL]
theorem contains_str (l : List ByteArray) (s : ByteArray) (hl : l.length ≤ 1000000) : r26 (l, (s, ())) = some (inL s l, ()) := by
  unfold r26
  obtain ⟨i, h1, h2⟩ := index_str l s hl
  rw [h1]
  simp only [Option.bind_some]
  have : decide (0 ≤ i) = inL s l := by
    rw [Bool.eq_iff_iff, inL_iff, decide_eq_true_eq]
    exact h2
  rw [this]
/-- What a node's own fault is. -/
noncomputable def oneE (nd : DNode) (k : Nat) : Int :=
  if kidsN nd.1 < 0 then 8
  else if ¬ ((k : Int) = kidsN nd.1) ∨ (nd.1 ≠ 0 ∧ nd.2.1 ≠ (0, (0, (emptyS, (false, ()))))) ∨ (nd.1 ≠ 1 ∧ nd.1 ≠ 2 ∧ nd.2.2.1 ≠ emptyS) then 3
  else if nd.1 = 0 then checkV nd.2.1
  else if (nd.1 = 1 ∧ (nameOk nd.2.2.1 = false ∨ inL nd.2.2.1 wordsL = true)) ∨ (nd.1 = 2 ∧ inL nd.2.2.1 fieldsL = false) then 16 else 0
theorem words_len : wordsL.length = 10 := rfl
theorem fields_len : fieldsL.length = 10 := rfl
theorem val_nil (v : DVal) : (Bool.and (decide (v.1 = (0 : Int))) (Bool.and (decide (v.2.1 = (0 : Int))) (Bool.and (decide (v.2.2.1 = (ByteArray.mk (List.toArray (List.nil))))) (decide (v.2.2.2.1 = Bool.false))))) = decide (v = (0, (0, (emptyS, (false, ()))))) := by
  obtain ⟨a, b, c, d, ⟨⟩⟩ := v
  rw [Bool.eq_iff_iff]
  simp [emptyS]
set_option maxHeartbeats 4000000 in
theorem one_eq (t : DExp) (h : small kExp t) : r36 (t, ()) = some (oneE (Tree.val t) (Tree.kids t).length, ()) := by
  obtain ⟨h1, h2, h3, h4, h5⟩ := exp_small h
  generalize hk : (Tree.kids t).length = k
  have hv := r10_eq (Tree.val t).2.1 h2.2.2.1
  have hn := name_eq (Tree.val t).2.2.1 h3
  have hw := contains_str wordsL (Tree.val t).2.2.1 (by rw [words_len]; omega)
  have hf := contains_str fieldsL (Tree.val t).2.2.1 (by rw [fields_len]; omega)
  have hv' : r61 (((Tree.val t).2.1.1, ((Tree.val t).2.1.2.1, ((Tree.val t).2.1.2.2.1, ((Tree.val t).2.1.2.2.2.1, Unit.unit)))), Unit.unit) = some (checkV (Tree.val t).2.1, ()) := hv
  have hkk : r60 ((Tree.val t).1, Unit.unit) = some (kidsN (Tree.val t).1, ()) := kids_eq _
  unfold r36 oneE
  simp only [hkk, hk, hv', hn, hw, hf, words_eq, fields_eq, Option.bind_some, val_nil]
  generalize hop : (Tree.val t).1 = op
  generalize (Tree.val t).2.1 = v
  generalize (Tree.val t).2.2.1 = s
  by_cases k0 : kidsN op < 0
  · rw [if_pos k0, decide_eq_true k0]
    rfl
  rw [if_neg k0, decide_eq_false k0, cond_false]
  by_cases k1 : (k : Int) = kidsN op
  rotate_left
  · rw [if_pos (.inl k1), decide_eq_false k1]
    rfl
  rw [decide_eq_true k1]
  simp only [k1, Bool.not_true, cond_false, not_true_eq_false, false_or]
  by_cases b0 : op = 0
  · subst b0
    by_cases be : s = emptyS
    · subst be
      simp [emptyS]
    · have : ¬ s = ByteArray.mk (List.toArray []) := be
      simp [be, this]
  · by_cases bv : v = (0, (0, (emptyS, (false, ()))))
    · by_cases b1 : op = 1
      · subst b1
        cases hnm : nameOk s <;> cases hmw : inL s wordsL <;> simp [bv]
      · by_cases b2 : op = 2
        · subst b2
          cases hmf : inL s fieldsL <;> simp [bv]
        · by_cases be : s = emptyS
          · have : s = ByteArray.mk (List.toArray []) := be
            simp [b0, b1, b2, bv, be, emptyS]
          · have : ¬ s = ByteArray.mk (List.toArray []) := be
            simp [b0, b1, b2, bv, be, this]
    · simp [b0, bv]
end Go.Proofs.YtdfgfjnpllncdaaGreatDoor.I

namespace Go.Proofs.YtdfgfjnpllncdaaGreatDoor.I
open Go.RowKit
set_option linter.unusedVariables false
set_option linter.constructorNameAsVariable false
theorem size_mk (l : List UInt8) : (ByteArray.mk l.toArray).size = l.length := by rw [bytes_len]
theorem fits16 {k : Nat} (h : k ≤ 1000000000) : fits k 16 = true := by unfold fits; simp; omega
theorem big {n : Nat} (h : n ≤ 1000000000) : decide (9223372036854775807 < n) = false := by simp; omega
def ofS (s : ByteArray) : List UInt8 := s.data.toList
theorem ofS_len (s : ByteArray) : (ofS s).length = s.size := bytes_len.symm
theorem ofS_mk (l : List UInt8) : ofS ⟨l.toArray⟩ = l := rfl
theorem mk_ofS (s : ByteArray) : (⟨(ofS s).toArray⟩ : ByteArray) = s := rfl
theorem ba_app (a b : List UInt8) : (⟨a.toArray⟩ : ByteArray) ++ (⟨b.toArray⟩ : ByteArray) = ⟨(a ++ b).toArray⟩ := by
  apply ByteArray.ext
  rw [ByteArray.data_append]
  exact List.append_toArray a b
def In64 (x : Int) : Prop := -9223372036854775808 ≤ x ∧ x ≤ 9223372036854775807
theorem fbool_len (b : Bool) : (Lib.formatBool b).length ≤ 5 := by cases b <;> decide +kernel
theorem fb_true : Lib.formatBool true = [116, 114, 117, 101] := by decide +kernel
theorem fb_false : Lib.formatBool false = [102, 97, 108, 115, 101] := by decide +kernel
end Go.Proofs.YtdfgfjnpllncdaaGreatDoor.I

namespace Go.Proofs.YtdfgfjnpllncdaaGreatDoor.I
open Go.RowKit
set_option linter.unusedVariables false
set_option linter.unusedSimpArgs false
set_option linter.constructorNameAsVariable false
mutual
def sz : DExp → Nat
  | .node v ks => szL ks + 1
def szL : List DExp → Nat
  | [] => 0
  | t :: ts => sz t + szL ts
end
theorem sz_node (t : DExp) : sz t = szL (Tree.kids t) + 1 := by
  cases t
  simp only [sz, Tree.kids]
theorem szL_mem : ∀ {ks : List DExp} {t : DExp}, t ∈ ks → sz t ≤ szL ks
  | k :: ks, t, h => by
    simp only [szL]
    rcases List.mem_cons.1 h with rfl | h
    · omega
    · have := szL_mem h
      omega
mutual
/-- The nodes with their depths, in the order of a walk; behind a depth of 20 none. -/
def pre (d : Nat) : DExp → List (DExp × Nat)
  | .node v ks => (.node v ks, d) :: (if 20 < d then [] else preL (d + 1) ks)
def preL (d : Nat) : List DExp → List (DExp × Nat)
  | [] => []
  | t :: ts => pre d t ++ preL d ts
end
theorem pre_node (d : Nat) (t : DExp) : pre d t = (t, d) :: (if 20 < d then [] else preL (d + 1) (Tree.kids t)) := by
  cases t
  simp only [pre, Tree.kids]
theorem preL_app (d : Nat) : ∀ (a b : List DExp), preL d (a ++ b) = preL d a ++ preL d b
  | [], b => rfl
  | t :: a, b => by simp only [List.cons_append, preL, preL_app d a b, List.append_assoc]
theorem preL_one (d : Nat) (t : DExp) : preL d [t] = pre d t := by simp only [preL, List.append_nil]
noncomputable def nodeE (i : Nat) (p : DExp × Nat) : Int := if 100 ≤ i ∨ 20 < p.2 then 2 else oneE (Tree.val p.1) (Tree.kids p.1).length
noncomputable def firstE : Nat → List (DExp × Nat) → Int
  | _, [] => 0
  | i, p :: l => if nodeE i p ≠ 0 then nodeE i p else firstE (i + 1) l
theorem firstE_app : ∀ (a b : List (DExp × Nat)) (i : Nat), firstE i (a ++ b) = if firstE i a ≠ 0 then firstE i a else firstE (i + a.length) b
  | [], b, i => by simp [firstE]
  | p :: a, b, i => by
    simp only [List.cons_append, firstE, firstE_app a b (i + 1), List.length_cons]
    by_cases h : nodeE i p = 0
    · simp only [h, ne_eq, not_true_eq_false, if_false]
      rw [show i + (a.length + 1) = i + 1 + a.length by omega]
    · simp only [h, ne_eq, not_false_eq_true, if_true]
@[reducible] def embCW (i : Int) (s : Int) : (Int × Int × Unit) × Unit := ((i, (s, ())), ())
set_option maxHeartbeats 2000000 in
theorem walk_eq : ∀ (n : Nat) (t : DExp) (d i : Nat), sz t ≤ n → i ≤ 100 → small kExp t → ∃ c' : Int, r35 n (t, ((d : Int), ())) ((i : Int), ()) = some ((firstE i (pre d t), ()), (c', ())) ∧ (firstE i (pre d t) = 0 → c' = ((i + (pre d t).length : Nat) : Int) ∧ i + (pre d t).length ≤ 100)
  | 0, t, d, i, hn, _, _ => by rw [sz_node] at hn; omega
  | n + 1, t, d, i, hn, hi, hs => by
    have w1 : IntKind.wrap .i64 ((i : Int) + 1) = ((i + 1 : Nat) : Int) := by rw [wrap64 (by omega) (by omega)]; omega
    rw [r35_succ]
    unfold r35B
    simp only [w1]
    rw [pre_node]
    simp only [firstE]
    by_cases h100 : i = 100
    · have e1 : decide ((100 : Int) < ((i + 1 : Nat) : Int)) = true := decide_eq_true (by omega)
      have e2 : nodeE i (t, d) = 2 := by unfold nodeE; rw [if_pos (.inl (by omega))]
      rw [e1, cond_true, e2]
      exact ⟨_, rfl, fun h => by simp at h⟩
    have e1 : decide ((100 : Int) < ((i + 1 : Nat) : Int)) = false := decide_eq_false (by omega)
    rw [e1, cond_false]
    by_cases hd : 20 < d
    · have e2 : nodeE i (t, d) = 2 := by unfold nodeE; rw [if_pos (.inr hd)]
      have e3 : decide ((20 : Int) < (d : Int)) = true := decide_eq_true (by omega)
      rw [e3, cond_true, e2]
      exact ⟨_, rfl, fun h => by simp at h⟩
    have e3 : decide ((20 : Int) < (d : Int)) = false := decide_eq_false (by omega)
    have e2 : nodeE i (t, d) = oneE (Tree.val t) (Tree.kids t).length := by unfold nodeE; rw [if_neg (by simp; omega)]
    rw [e3, cond_false, t_eta, one_eq t hs, e2, if_neg hd]
    simp only [Option.bind_some]
    by_cases he : oneE (Tree.val t) (Tree.kids t).length = 0
    rotate_left
    · rw [decide_eq_false he]
      simp only [Bool.not_false, cond_true]
      exact ⟨_, by rw [if_pos he], fun h => by rw [if_pos he] at h; exact absurd h he⟩
    rw [decide_eq_true he]
    simp only [Bool.not_true, cond_false, he, ne_eq, not_true_eq_false, if_false]
    have hsk := (exp_small hs).2.2.2.2
    have hlk := (exp_small hs).2.2.2.1
    have hszk : ∀ k ∈ Tree.kids t, sz k ≤ n := fun k hk => by
      have := szL_mem hk
      rw [sz_node] at hn
      omega
    have hd1 : IntKind.wrap .i64 ((d : Int) + 1) = ((d + 1 : Nat) : Int) := by rw [wrap64 (by omega) (by omega)]; omega
    generalize Tree.kids t = ks at hsk hlk hszk
    refine bind_loopQ (fun r => ∃ c' : Int, r = some ((firstE (i + 1) (preL (d + 1) ks), ()), (c', ())) ∧ (firstE (i + 1) (preL (d + 1) ks) = 0 → c' = ((i + ((t, d) :: preL (d + 1) ks).length : Nat) : Int) ∧ i + ((t, d) :: preL (d + 1) ks).length ≤ 100))
      (loop_up embCW ks.length (fun j s => s = ((i + 1 + (preL (d + 1) (ks.take j)).length : Nat) : Int) ∧ firstE (i + 1) (preL (d + 1) (ks.take j)) = 0 ∧ i + 1 + (preL (d + 1) (ks.take j)).length ≤ 100)
        (fun o => (∃ e c' : Int, o = Sum.inl ((e, (c', ())), ()) ∧ e ≠ 0 ∧ firstE (i + 1) (preL (d + 1) ks) = e) ∨ (∃ c' : Int, o = Sum.inr (Sum.inl ((c', ()), ())) ∧ firstE (i + 1) (preL (d + 1) ks) = 0 ∧ c' = ((i + 1 + (preL (d + 1) ks).length : Nat) : Int) ∧ i + 1 + (preL (d + 1) ks).length ≤ 100))
        (fun j s hj hI => ?_) (fun s hI => ?_) 0 _ (Nat.zero_le _) ⟨by simp [preL], by simp [preL, firstE], by simp [preL]; omega⟩) (fun o ho => ?_)
    · obtain ⟨rfl, h1, h2⟩ := hI
      obtain ⟨k, hk⟩ := get_lt hj
      have hkm := List.mem_of_getElem? hk
      obtain ⟨c', g1, g2⟩ := walk_eq n k (d + 1) (i + 1 + (preL (d + 1) (ks.take j)).length) (hszk k hkm) h2 (hsk k hkm)
      simp only [embCW, dec_lt hj, inB_lt hj, Int.toNat_natCast, hk, cond_true, Option.bind_some, t_eta, hd1, g1]
      have hsplit : preL (d + 1) (ks.take (j + 1)) = preL (d + 1) (ks.take j) ++ pre (d + 1) k := by rw [take_succ hk, preL_app, preL_one]
      have hall : ks = ks.take (j + 1) ++ ks.drop (j + 1) := (List.take_append_drop _ _).symm
      by_cases hz : firstE (i + 1 + (preL (d + 1) (ks.take j)).length) (pre (d + 1) k) = 0
      · obtain ⟨rfl, g3⟩ := g2 hz
        refine .inl ⟨_, by rw [decide_eq_true hz]; simp only [Bool.not_true, cond_false]; rw [wrapS hj (by omega)], ?_, ?_, ?_⟩
        · rw [hsplit, List.length_append]; congr 1; omega
        · rw [hsplit, firstE_app, h1]
          simpa using hz
        · rw [hsplit, List.length_append]; omega
      · refine .inr ⟨_, by rw [decide_eq_false hz]; simp only [Bool.not_false, cond_true], .inl ⟨_, c', rfl, hz, ?_⟩⟩
        have e5 : firstE (i + 1) (preL (d + 1) (ks.take (j + 1))) = firstE (i + 1 + (preL (d + 1) (ks.take j)).length) (pre (d + 1) k) := by
          rw [hsplit, firstE_app, h1]
          simp
        have hf := congrArg (fun l => firstE (i + 1) (preL (d + 1) l)) hall
        rw [show firstE (i + 1) (preL (d + 1) ks) = firstE (i + 1) (preL (d + 1) (ks.take (j + 1) ++ ks.drop (j + 1))) from hf, preL_app, firstE_app, e5, if_pos hz]
    · obtain ⟨rfl, h1, h2⟩ := hI
      rw [List.take_length] at h1 h2 ⊢
      exact ⟨_, by simp only [embCW, dec_nlt, cond_false], .inr ⟨_, rfl, h1, rfl, h2⟩⟩
    · rcases ho with ⟨e, c', rfl, h1, h2⟩ | ⟨c', rfl, h1, rfl, h2⟩
      · exact ⟨c', by rw [h2]; rfl, fun h => absurd (h2 ▸ h) h1⟩
      · refine ⟨((i + 1 + (preL (d + 1) ks).length : Nat) : Int), by rw [h1]; rfl, fun _ => ⟨?_, ?_⟩⟩
        · rw [List.length_cons]; congr 1; omega
        · rw [List.length_cons]; omega
/-- What an expression's fault is. -/
noncomputable def expE (t : DExp) : Int := firstE 0 (pre 1 t)
theorem check_eq (n : Nat) (t : DExp) (hn : sz t ≤ n) (hs : small kExp t) : r14 n (t, ()) = some (expE t, ()) := by
  obtain ⟨c', h1, _⟩ := walk_eq n t 1 0 hn (by omega) hs
  have h1 : r35 n (t, ((1 : Int), Unit.unit)) ((0 : Int), Unit.unit) = some ((expE t, ()), (c', ())) := h1
  unfold r14
  rw [t_eta, h1]
  rfl
end Go.Proofs.YtdfgfjnpllncdaaGreatDoor.I

namespace Go.Proofs.YtdfgfjnpllncdaaGreatDoor.I
open Go.RowKit
set_option linter.unusedVariables false
set_option linter.unusedSimpArgs false
set_option linter.constructorNameAsVariable false
theorem take_app_take {α : Type} (X Y : List α) (m : Nat) : (X.take m ++ Y).take m = (X ++ Y).take m := by
  rcases Nat.le_total m X.length with h | h
  · rw [List.take_append_of_le_length (by rw [List.length_take]; omega), List.take_append_of_le_length h, List.take_take, Nat.min_self]
  · rw [List.take_of_length_le h]
def rows (B : List (DExp × Nat)) : List DExp × List Int × Unit := (B.map (·.1), (B.map (fun p => ((p.2 : Nat) : Int)), ()))
@[reducible] def embFl (i : Int) (s : List DExp × List Int × Unit) : (List DExp × List Int × Int × Unit) × Unit := ((s.1, (s.2.1, (i, ()))), ())
theorem rows_app (A : List (DExp × Nat)) (t : DExp) (d : Nat) : (A.map (·.1) ++ [t], (A.map (fun p => ((p.2 : Nat) : Int)) ++ [(d : Int)], ())) = rows (A ++ [(t, d)]) := by
  unfold rows
  simp
set_option maxHeartbeats 2000000 in
theorem flat_eq : ∀ (n : Nat) (t : DExp) (d : Nat) (A : List (DExp × Nat)), sz t ≤ n → A.length ≤ 101 → d ≤ 21 → small kExp t → r22 n (t, ((d : Int), ((101 : Int), ()))) (rows A) = some (rows ((A ++ pre d t).take 101))
  | 0, t, d, A, hn, _, _, _ => by rw [sz_node] at hn; omega
  | n + 1, t, d, A, hn, hA, hd, hs => by
    rw [r22_succ]
    unfold r22B
    simp only [t_eta]
    have hl1 : (rows A).1.length = A.length := by simp [rows]
    have hl2 : (rows A).2.1.length = A.length := by simp [rows]
    rw [hl1, hl2]
    by_cases h101 : A.length = 101
    · have e1 : decide ((101 : Int) ≤ ((A.length : Nat) : Int)) = true := decide_eq_true (by omega)
      rw [e1, cond_true, List.take_append_of_le_length (by omega), List.take_of_length_le (by omega)]
    have e1 : decide ((101 : Int) ≤ ((A.length : Nat) : Int)) = false := decide_eq_false (by omega)
    have e2 : fits (A.length + [t].length) 88 = true := by unfold fits; simp; omega
    have e3 : fits (A.length + [(d : Int)].length) 8 = true := by unfold fits; simp; omega
    rw [e1, cond_false, e2, cond_true, e3, cond_true]
    by_cases hd2 : 20 < d
    · have e4 : decide ((20 : Int) < (d : Int)) = true := decide_eq_true (by omega)
      rw [e4, cond_true, pre_node, if_pos hd2, List.take_of_length_le (by simp; omega)]
      exact congrArg some (rows_app A t d)
    have e4 : decide ((20 : Int) < (d : Int)) = false := decide_eq_false (by omega)
    rw [e4, cond_false, pre_node, if_neg hd2]
    have hsk := (exp_small hs).2.2.2.2
    have hlk := (exp_small hs).2.2.2.1
    have hszk : ∀ k ∈ Tree.kids t, sz k ≤ n := fun k hk => by
      have := szL_mem hk
      rw [sz_node] at hn
      omega
    have hd1 : IntKind.wrap .i64 ((d : Int) + 1) = ((d + 1 : Nat) : Int) := by rw [wrap64 (by omega) (by omega)]; omega
    generalize Tree.kids t = ks at hsk hlk hszk
    rw [show (((rows A).1 ++ [t]), ((rows A).2.1 ++ [(d : Int)], ((0 : Int), Unit.unit))) = (((rows (A ++ [(t, d)])).1), ((rows (A ++ [(t, d)])).2.1, ((0 : Int), Unit.unit))) by unfold rows; simp]
    refine loop_is (y := rows ((A ++ (t, d) :: preL (d + 1) ks).take 101)) embFl ks.length (fun j => rows ((A ++ (t, d) :: preL (d + 1) (ks.take j)).take 101)) (fun s => Sum.inl ((s.1, (s.2.1, ())), ())) (fun j hj => ?_) ?_ ?_ _ ?_
    · obtain ⟨k, hk⟩ := get_lt hj
      have hkm := List.mem_of_getElem? hk
      have ih := flat_eq n k (d + 1) ((A ++ (t, d) :: preL (d + 1) (ks.take j)).take 101) (hszk k hkm) (by rw [List.length_take]; omega) (by omega) (hsk k hkm)
      have hsplit : preL (d + 1) (ks.take (j + 1)) = preL (d + 1) (ks.take j) ++ pre (d + 1) k := by rw [take_succ hk, preL_app, preL_one]
      have ih : r22 n (k, (((d + 1 : Nat) : Int), ((101 : Int), Unit.unit))) ((rows ((A ++ (t, d) :: preL (d + 1) (ks.take j)).take 101)).1, ((rows ((A ++ (t, d) :: preL (d + 1) (ks.take j)).take 101)).2.1, Unit.unit)) = _ := ih
      simp only [embFl, dec_lt hj, inB_lt hj, Int.toNat_natCast, hk, cond_true, Option.bind_some, t_eta, hd1, ih]
      rw [wrapS hj (by omega), take_app_take, hsplit]
      simp only [List.append_assoc, List.cons_append]
    · simp only [embFl, dec_nlt, cond_false]
    · rw [List.take_length]
      rfl
    · rw [List.take_zero, preL, List.take_of_length_le (by simp; omega)]
mutual
theorem pre_small : ∀ (t : DExp) (d : Nat), small kExp t → ∀ p ∈ pre d t, small kExp p.1
  | .node v ks, d, h, p, hp => by
    simp only [pre] at hp
    rcases List.mem_cons.1 hp with rfl | hp
    · exact h
    · split at hp
      · cases hp
      · exact preL_small ks (d + 1) (smallTs_iff.1 h.2.2) p hp
theorem preL_small : ∀ (ks : List DExp) (d : Nat), (∀ k ∈ ks, small kExp k) → ∀ p ∈ preL d ks, small kExp p.1
  | [], _, _, p, hp => by cases hp
  | k :: ks, d, h, p, hp => by
    simp only [preL] at hp
    rcases List.mem_append.1 hp with hp | hp
    · exact pre_small k d (h k (by simp)) p hp
    · exact preL_small ks d (fun x hx => h x (by simp [hx])) p hp
end
theorem firstE_take : ∀ (l : List (DExp × Nat)) (i : Nat), i ≤ 100 → firstE i (l.take (101 - i)) = firstE i l
  | [], i, _ => by simp
  | p :: l, i, hi => by
    rw [show 101 - i = (101 - (i + 1)) + 1 by omega, List.take_succ_cons]
    simp only [firstE]
    by_cases h : nodeE i p = 0
    · simp only [h, ne_eq, not_true_eq_false, if_false]
      have : i < 100 := by
        rcases Nat.lt_or_ge i 100 with h1 | h1
        · exact h1
        · unfold nodeE at h
          rw [if_pos (.inl h1)] at h
          cases h
      exact firstE_take l (i + 1) (by omega)
    · simp only [h, ne_eq, not_false_eq_true, if_true]
noncomputable def operL : List Int := ((r23 ()).getD ([], ())).1
theorem oper_eq : r23 () = some (operL, ()) := rfl
theorem oper_at (op : Int) (h0 : 0 ≤ op) (h1 : op ≤ 21) : inB op operL.length = true ∧ operL[op.toNat]? = some (kidsN op) := by
  have key : ∀ n : Fin 22, inB ((n : Nat) : Int) operL.length = true ∧ operL[(n : Nat)]? = some (kidsN ((n : Nat) : Int)) := by decide +kernel
  have := key ⟨op.toNat, by omega⟩
  simp only at this
  rwa [show ((op.toNat : Nat) : Int) = op by omega] at this
theorem kids_in {op : Int} (h0 : 0 ≤ op) (h1 : op ≤ 21) : ¬ kidsN op < 0 := by
  have key : ∀ n : Fin 22, ¬ kidsN ((n : Nat) : Int) < 0 := by decide
  have := key ⟨op.toNat, by omega⟩
  simp only at this
  rwa [show ((op.toNat : Nat) : Int) = op by omega] at this
theorem kids_out {op : Int} (h : op < 0 ∨ 21 < op) : kidsN op < 0 := by
  unfold kidsN
  rw [if_neg (by omega), if_neg (by omega), if_neg (by omega), if_neg (by omega)]
  omega
theorem reserved_eq : r27 () = some (wordsL, ()) := by kernel_rfl
theorem rfields_eq : r28 () = some (fieldsL, ()) := by kernel_rfl
end Go.Proofs.YtdfgfjnpllncdaaGreatDoor.I

namespace Go.Proofs.YtdfgfjnpllncdaaGreatDoor.I
open Go.RowKit
set_option linter.unusedVariables false
set_option linter.unusedSimpArgs false
set_option linter.constructorNameAsVariable false
theorem rname_eq (s : ByteArray) (h : s.size ≤ 9223372036854775807) : r25 (s, ()) = some (nameOk s, ()) := by
  unfold r25
  have : decide (s.size ≤ 9223372036854775807) = true := decide_eq_true h
  simp only [this, cond_true]
@[reducible] def exX (e : Int) : (IU) ⊕ (((Int × Unit) × Unit) ⊕ ((Unit × Unit) ⊕ Empty)) := Sum.inr (Sum.inl ((e, ()), ()))
set_option maxHeartbeats 8000000 in
theorem exprErr_eq (n : Nat) (t : DExp) (hn : sz t ≤ n) (hs : small kExp t) : r8 n (t, ()) = some (expE t, ()) := by
  unfold r8
  have h1 := flat_eq n t 1 [] hn (by simp) (by omega) hs
  have h1 : r22 n (t, ((1 : Int), ((101 : Int), Unit.unit))) (List.nil, (List.nil, Unit.unit)) = some (rows ((pre 1 t).take 101)) := h1
  rw [t_eta, h1]
  simp only [Option.bind_some]
  have hsm : ∀ p ∈ (pre 1 t).take 101, small kExp p.1 := fun p hp => pre_small t 1 hs p (List.mem_of_mem_take hp)
  have hl : ((pre 1 t).take 101).length ≤ 101 := by rw [List.length_take]; omega
  have hfin : firstE 0 ((pre 1 t).take 101) = expE t := firstE_take (pre 1 t) 0 (by omega)
  rw [← hfin]
  generalize (pre 1 t).take 101 = B at hsm hl
  have hl1 : (rows B).1.length = B.length := by simp [rows]
  have hl2 : (rows B).2.1.length = B.length := by simp [rows]
  refine bind_loop (Post := fun o => (∃ e : Int, o = Sum.inl ((e, ()), ()) ∧ firstE 0 B = e) ∨ (o = Sum.inr (Sum.inl ((), ())) ∧ firstE 0 B = 0)) (loop_up embI B.length (fun j _ => firstE 0 (B.take j) = 0) _ (fun j u hj hI => ?_) (fun u hI => ?_) 0 () (Nat.zero_le _) (by simp [firstE])) (fun o ho => ?_)
  · obtain ⟨p, hp⟩ := get_lt hj
    have hps := hsm p (List.mem_of_getElem? hp)
    have ea : (rows B).1[j]? = some p.1 := by simp [rows, hp]
    have eb : (rows B).2.1[j]? = some ((p.2 : Nat) : Int) := by simp [rows, hp]
    have hsplit : B.take (j + 1) = B.take j ++ [p] := take_succ hp
    have hj2 : (B.take j).length = j := by rw [List.length_take]; omega
    have hone : firstE 0 (B.take (j + 1)) = nodeE j p := by
      rw [hsplit, firstE_app, hI, hj2, if_neg (by simp), Nat.zero_add]
      simp only [firstE]
      by_cases hz : nodeE j p = 0
      · rw [hz]; simp
      · rw [if_pos hz]
    have hall : B = B.take (j + 1) ++ B.drop (j + 1) := (List.take_append_drop _ _).symm
    have hbad : nodeE j p ≠ 0 → firstE 0 B = nodeE j p := fun hne => by
      have hf := congrArg (fun l => firstE 0 l) hall
      rw [show firstE 0 B = firstE 0 (B.take (j + 1) ++ B.drop (j + 1)) from hf, firstE_app, hone, if_pos hne]
    simp only [embI, hl1, hl2, dec_lt hj, inB_lt hj, Int.toNat_natCast, ea, eb, cond_true, Option.bind_some]
    suffices hstep : ∀ r : Option (IU ⊕ (((Int × Unit) × Unit) ⊕ ((Unit × Unit) ⊕ Empty))), r = (if nodeE j p = 0 then some (Sum.inl ((((j : Int) + 1, ()), ()))) else some (exX (nodeE j p))) → ((∃ s' : Unit, r = some (Sum.inl (((((j : Int) + 1), ()), ()))) ∧ firstE 0 (B.take (j + 1)) = 0) ∨ ∃ o, r = some (Sum.inr o) ∧ ((∃ e : Int, o = Sum.inl ((e, ()), ()) ∧ firstE 0 B = e) ∨ (o = Sum.inr (Sum.inl ((), ())) ∧ firstE 0 B = 0))) by
      refine hstep _ ?_
      obtain ⟨t', d'⟩ := p
      obtain ⟨k1, k2, k3, k4, k5⟩ := exp_small hps
      simp only
      have hv := r29_eq (Tree.val t').2.1 k2.2.2.1
      have hv' : r24 (((Tree.val t').2.1.1, ((Tree.val t').2.1.2.1, ((Tree.val t').2.1.2.2.1, ((Tree.val t').2.1.2.2.2.1, Unit.unit)))), Unit.unit) = some (checkV (Tree.val t').2.1, ()) := hv
      have hnm := rname_eq (Tree.val t').2.2.1 k3
      have hw := contains_str wordsL (Tree.val t').2.2.1 (by rw [words_len]; omega)
      have hf := contains_str fieldsL (Tree.val t').2.2.1 (by rw [fields_len]; omega)
      rw [wrapS hj (by omega)]
      have hNE : nodeE j (t', d') = if 100 ≤ j ∨ 20 < d' then 2 else oneE (Tree.val t') (Tree.kids t').length := rfl
      rw [hNE]
      by_cases h100 : j = 100
      · have e1 : decide ((j : Int) = 100) = true := decide_eq_true (by omega)
        rw [e1, cond_true, if_pos (show 100 ≤ j ∨ 20 < d' from .inl (by omega))]
        rfl
      have e1 : decide ((j : Int) = 100) = false := decide_eq_false (by omega)
      rw [e1, cond_false]
      by_cases hd : 20 < d'
      · have e2 : decide ((20 : Int) < (d' : Int)) = true := decide_eq_true (by omega)
        rw [e2, cond_true, if_pos (show 100 ≤ j ∨ 20 < d' from .inr hd)]
        rfl
      have e2 : decide ((20 : Int) < (d' : Int)) = false := decide_eq_false (by omega)
      rw [e2, cond_false, if_neg (show ¬ (100 ≤ j ∨ 20 < d') by omega)]
      by_cases ho1 : (Tree.val t').1 < 0
      · rw [decide_eq_true ho1, cond_true]
        have : oneE (Tree.val t') (Tree.kids t').length = 8 := by unfold oneE; rw [if_pos (kids_out (.inl ho1))]
        rw [this]
        rfl
      rw [decide_eq_false ho1, cond_false]
      by_cases ho2 : 21 < (Tree.val t').1
      · rw [decide_eq_true ho2, cond_true]
        have : oneE (Tree.val t') (Tree.kids t').length = 8 := by unfold oneE; rw [if_pos (kids_out (.inr ho2))]
        rw [this]
        rfl
      rw [decide_eq_false ho2, cond_false]
      obtain ⟨q1, q2⟩ := oper_at (Tree.val t').1 (by omega) (by omega)
      have q3 := kids_in (op := (Tree.val t').1) (by omega) (by omega)
      simp only [oper_eq, q1, q2, cond_true, Option.bind_some, hv', hnm, hw, hf, reserved_eq, rfields_eq, val_nil]
      unfold oneE
      rw [if_neg q3]
      generalize (Tree.kids t').length = k
      generalize (Tree.val t').2.1 = v
      generalize (Tree.val t').2.2.1 = s
      generalize (Tree.val t').1 = op at *
      clear hv hv' hnm hw hf q1 q2
      by_cases z1 : (k : Int) = kidsN op
      rotate_left
      · rw [if_pos (Or.inl z1 : ¬ (k : Int) = kidsN op ∨ _), decide_eq_false z1]
        rfl
      rw [decide_eq_true z1]
      simp only [z1, Bool.not_true, cond_false, not_true_eq_false, false_or]
      by_cases b0 : op = 0
      · subst b0
        by_cases be : s = emptyS
        · subst be
          by_cases hc : checkV v = 0 <;> simp [emptyS, hc]
        · have : ¬ s = ByteArray.mk (List.toArray []) := be
          simp [be, this]
      · by_cases bv : v = (0, (0, (emptyS, (false, ()))))
        · by_cases b1 : op = 1
          · subst b1
            cases hnm : nameOk s <;> cases hmw : inL s wordsL <;> simp [bv]
          · by_cases b2 : op = 2
            · subst b2
              cases hmf : inL s fieldsL <;> simp [bv]
            · by_cases be : s = emptyS
              · have : s = ByteArray.mk (List.toArray []) := be
                simp [b0, b1, b2, bv, be, emptyS]
              · have : ¬ s = ByteArray.mk (List.toArray []) := be
                simp [b0, b1, b2, bv, be, this]
        · simp [b0, bv]
    intro r hr
    by_cases hz : nodeE j p = 0
    · rw [if_pos hz] at hr
      exact .inl ⟨(), hr, by rw [hone, hz]⟩
    · rw [if_neg hz] at hr
      exact .inr ⟨_, hr, .inl ⟨_, rfl, hbad hz⟩⟩
  · rw [List.take_length] at hI
    exact ⟨_, by simp only [embI, hl1, dec_nlt, cond_false], .inr ⟨rfl, hI⟩⟩
  · rcases ho with ⟨e, rfl, h⟩ | ⟨rfl, h⟩
    · rw [h]; rfl
    · rw [h]; rfl
end Go.Proofs.YtdfgfjnpllncdaaGreatDoor.I

namespace Go.Proofs.YtdfgfjnpllncdaaGreatDoor.I
open Go.RowKit
set_option linter.unusedVariables false
set_option linter.unusedSimpArgs false
set_option linter.constructorNameAsVariable false
theorem oneE_kids {nd : DNode} {k : Nat} (h : oneE nd k = 0) : 0 ≤ nd.1 ∧ nd.1 ≤ 21 ∧ (k : Int) = kidsN nd.1 := by
  unfold oneE at h
  split at h
  · cases h
  · rename_i h1
    split at h
    · cases h
    · rename_i h2
      have h3 : (k : Int) = kidsN nd.1 := Classical.byContradiction (fun hc => h2 (.inl hc))
      refine ⟨?_, ?_, h3⟩
      · rcases Int.lt_or_le nd.1 0 with h4 | h4
        · exact absurd (kids_out (.inl h4)) h1
        · exact h4
      · rcases Int.lt_or_le 21 nd.1 with h4 | h4
        · exact absurd (kids_out (.inr h4)) h1
        · exact h4
mutual
def VE : DExp → Prop
  | .node nd ks => oneE nd ks.length = 0 ∧ VEL ks
def VEL : List DExp → Prop
  | [] => True
  | t :: ts => VE t ∧ VEL ts
end
theorem VEL_iff : ∀ {ks : List DExp}, VEL ks ↔ ∀ k ∈ ks, VE k
  | [] => by simp [VEL]
  | t :: ts => by simp [VEL, VEL_iff (ks := ts)]
theorem VE_node (t : DExp) : VE t ↔ oneE (Tree.val t) (Tree.kids t).length = 0 ∧ ∀ k ∈ Tree.kids t, VE k := by
  cases t
  simp only [VE, Tree.val, Tree.kids, VEL_iff]
mutual
theorem ve_of : ∀ (t : DExp) (d i : Nat), firstE i (pre d t) = 0 → VE t
  | .node nd ks, d, i, h => by
    simp only [pre, firstE] at h
    by_cases h1 : nodeE i (.node nd ks, d) = 0
    · simp only [h1, ne_eq, not_true_eq_false, if_false] at h
      unfold nodeE at h1
      split at h1
      · cases h1
      · rename_i hd
        rw [if_neg (fun h => hd (.inr h))] at h
        simp only [VE]
        exact ⟨h1, vel_of ks (d + 1) (i + 1) h⟩
    · simp only [h1, ne_eq, not_false_eq_true, if_true] at h
theorem vel_of : ∀ (ks : List DExp) (d i : Nat), firstE i (preL d ks) = 0 → VEL ks
  | [], _, _, _ => by simp only [VEL]
  | t :: ts, d, i, h => by
    simp only [preL] at h
    rw [firstE_app] at h
    by_cases h1 : firstE i (pre d t) = 0
    · simp only [h1, ne_eq, not_true_eq_false, if_false] at h
      simp only [VEL]
      exact ⟨ve_of t d i h1, vel_of ts d _ h⟩
    · simp only [h1, ne_eq, not_false_eq_true, if_true] at h
end
end Go.Proofs.YtdfgfjnpllncdaaGreatDoor.I

namespace Go.Proofs.YtdfgfjnpllncdaaGreatDoor.I
open Go.RowKit
set_option linter.unusedVariables false
set_option linter.unusedSimpArgs false
set_option linter.constructorNameAsVariable false
def boolV (b : Bool) : DVal := (3, (0, (emptyS, (b, ()))))
def numV (n : Int) : DVal := (1, (n, (emptyS, (false, ()))))
def zeroV0 : DVal := (0, (0, (emptyS, (false, ()))))
end Go.Proofs.YtdfgfjnpllncdaaGreatDoor.I

namespace Go.Proofs.YtdfgfjnpllncdaaGreatDoor.I
open Go.RowKit
set_option linter.unusedVariables false
set_option linter.unusedSimpArgs false
set_option linter.constructorNameAsVariable false
theorem sumE_inl {α β γ : Type} {f : α → γ} {g : β → γ} (a : α) : sumE f g (.inl a) = f a := rfl
def bs (l : List UInt8) : ByteArray := ⟨l.toArray⟩
def tNot : ByteArray := bs [110, 111, 116]
def tMinus : ByteArray := bs [45]
def tOpen : ByteArray := bs [40]
def tClose : ByteArray := bs [41]
def tComma : ByteArray := bs [44]
def tDot : ByteArray := bs [46]
def tNil : ByteArray := bs [110, 105, 108]
def tTrue : ByteArray := bs [116, 114, 117, 101]
def tFalse : ByteArray := bs [102, 97, 108, 115, 101]
/-- The operators with two operands. -/
def signL : List (Nat × ByteArray) := [(3, bs [111, 114]), (4, bs [97, 110, 100]), (6, bs [61]), (7, bs [33, 61]), (8, bs [60]), (9, bs [60, 61]), (10, bs [62]), (11, bs [62, 61]), (12, bs [43]), (13, bs [45]), (14, bs [42]), (15, bs [47]), (16, bs [37])]
def opOf (s : ByteArray) : Option Nat := (signL.find? fun p => decide (s = p.2)).map (·.1)
/-- How strongly an operator binds. -/
def lev (op : Nat) : Nat := if op = 3 then 1 else if op = 4 then 2 else if op ≤ 11 then 4 else if op ≤ 13 then 5 else 6
def opAt (n : Nat) : List ByteArray → Option Nat
  | [] => none
  | s :: _ => match opOf s with
    | some op => if lev op = n then some op else none
    | none => none
def fnL : List (Int × ByteArray) := [(18, bs [105, 102]), (19, bs [108, 101, 110]), (20, bs [109, 105, 110]), (21, bs [109, 97, 120])]
def fnOf (s : ByteArray) : Option Int := (fnL.find? fun p => decide (s = p.2)).map (·.1)
/-- The kind of a token, by its first byte. -/
def kindB (s : ByteArray) : Int := match s.data.toList with
  | [] => 0
  | c :: _ => if 97 ≤ c.toNat ∧ c.toNat ≤ 122 then 119 else if 48 ≤ c.toNat ∧ c.toNat ≤ 57 then 110 else if c.toNat = 34 then 116 else 115
def textV (s : ByteArray) : DVal := (2, (0, (s, (false, ()))))
/-- The value that a text shows, before it is checked. -/
def preV (s : ByteArray) : Option DVal :=
  if s = tNil then some zeroV0
  else if s = tTrue ∨ s = tFalse then some (boolV (decide (s = tTrue)))
  else if 2 ≤ s.size ∧ s.data.toList.head? = some 34 ∧ s.data.toList.getLast? = some 34 then some (textV (s.extract 1 (s.size - 1)))
  else match Lib.atoiAll s.data.toList with
    | .ok n => if bs (Lib.itoa n) = s then some (numV n) else none
    | _ => none
noncomputable def vread (s : ByteArray) : DVal × Int := match preV s with
  | none => (zeroV0, 15)
  | some v => if checkV v = 0 then (v, 0) else (zeroV0, checkV v)
def nodeL (v : DVal) : DExp := .node (0, (v, (emptyS, ()))) []
def nodeO (op : Int) (l : List DExp) : DExp := .node (op, (zeroV0, (emptyS, ()))) l
def nodeN (op : Int) (s : ByteArray) : DExp := .node (op, (zeroV0, (s, ()))) []
theorem nd_eta2 (e : DExp) : Tree.node (Tree.val e) (Tree.kids e) = e := by cases e; rfl
abbrev Toks := List ByteArray
/-- What begins an expression and needs no further one. -/
noncomputable def leafOf : Toks → Option (Option (DExp × Toks))
  | [] => some none
  | s :: l =>
    if s = tOpen then none
    else if s = tDot then some (match l with
      | [] => none
      | f :: l2 => if inL f fieldsL = true then some (nodeN 2 f, l2) else none)
    else if kindB s = 110 then some (if (vread s).2 = 0 then some (nodeL (vread s).1, l) else none)
    else if ¬ (kindB s = 119 ∨ kindB s = 116) then some none
    else if (vread s).2 = 0 then some (some (nodeL (vread s).1, l))
    else match fnOf s with
      | some _ => none
      | none => if kindB s = 119 ∧ nameOk s = true ∧ inL s wordsL = false then some (some (nodeN 1 s, l)) else some none
inductive Req where
  | at (n : Nat)
  | chain (n : Nat) (e : DExp)
  | args (op : Int) (k : Nat) (acc : List DExp)
def BinL (n : Nat) : Prop := n = 1 ∨ n = 2 ∨ n = 4 ∨ n = 5 ∨ n = 6
def numHead : Toks → Bool
  | [] => false
  | s :: _ => decide (kindB s = 110)
inductive Ps : Req → Toks → Option (DExp × Toks) → Prop
  | bin {n l e l1 r} : BinL n → Ps (.at (n + 1)) l (some (e, l1)) → Ps (.chain n e) l1 r → Ps (.at n) l r
  | binBad {n l} : BinL n → Ps (.at (n + 1)) l none → Ps (.at n) l none
  | stop {n e l} : opAt n l = none → Ps (.chain n e) l (some (e, l))
  | go {n e s l op e2 l2 r} : BinL n → opAt n (s :: l) = some op → n ≠ 4 → Ps (.at (n + 1)) l (some (e2, l2)) → Ps (.chain n (nodeO (op : Int) [e, e2])) l2 r → Ps (.chain n e) (s :: l) r
  | go4 {e s l op e2 l2} : opAt 4 (s :: l) = some op → Ps (.at 5) l (some (e2, l2)) → Ps (.chain 4 e) (s :: l) (some (nodeO (op : Int) [e, e2], l2))
  | goBad {n e s l op} : BinL n → opAt n (s :: l) = some op → Ps (.at (n + 1)) l none → Ps (.chain n e) (s :: l) none
  | notY {l e l1} : Ps (.at 3) l (some (e, l1)) → Ps (.at 3) (tNot :: l) (some (nodeO 5 [e], l1))
  | notBad {l} : Ps (.at 3) l none → Ps (.at 3) (tNot :: l) none
  | nonot {l r} : l.head? ≠ some tNot → Ps (.at 4) l r → Ps (.at 3) l r
  | neg {l e l1} : numHead l = false → Ps (.at 7) l (some (e, l1)) → Ps (.at 7) (tMinus :: l) (some (nodeO 17 [e], l1))
  | negBad {l} : numHead l = false → Ps (.at 7) l none → Ps (.at 7) (tMinus :: l) none
  | negNum {d l} : kindB d = 110 → (vread (tMinus ++ d)).2 = 0 → Ps (.at 7) (tMinus :: d :: l) (some (nodeL (vread (tMinus ++ d)).1, l))
  | negNumBad {d l} : kindB d = 110 → (vread (tMinus ++ d)).2 ≠ 0 → Ps (.at 7) (tMinus :: d :: l) none
  | prim {l r} : l.head? ≠ some tMinus → Ps (.at 8) l r → Ps (.at 7) l r
  | par {l e l1} : Ps (.at 1) l (some (e, tClose :: l1)) → Ps (.at 8) (tOpen :: l) (some (e, l1))
  | parBad {l} : Ps (.at 1) l none → Ps (.at 8) (tOpen :: l) none
  | parNo {l e l1} : Ps (.at 1) l (some (e, l1)) → l1.head? ≠ some tClose → Ps (.at 8) (tOpen :: l) none
  | leaf {l r} : leafOf l = some r → Ps (.at 8) l r
  | fnY {s l op r} : leafOf (s :: tOpen :: l) = none → fnOf s = some op → Ps (.args op (kidsN op).toNat []) l r → Ps (.at 8) (s :: tOpen :: l) r
  | fnNo {s l op} : leafOf (s :: l) = none → fnOf s = some op → l.head? ≠ some tOpen → Ps (.at 8) (s :: l) none
  | argsEnd {op acc l} : Ps (.args op 0 acc) (tClose :: l) (some (nodeO op acc, l))
  | argsNo {op acc l} : l.head? ≠ some tClose → Ps (.args op 0 acc) l none
  | argOne {op k l e l1 r} : Ps (.at 1) l (some (e, l1)) → Ps (.args op k [e]) l1 r → Ps (.args op (k + 1) []) l r
  | argOneBad {op k l} : Ps (.at 1) l none → Ps (.args op (k + 1) []) l none
  | argMore {op k acc l e l1 r} : acc ≠ [] → Ps (.at 1) l (some (e, l1)) → Ps (.args op k (acc ++ [e])) l1 r → Ps (.args op (k + 1) acc) (tComma :: l) r
  | argMoreBad {op k acc l} : acc ≠ [] → Ps (.at 1) l none → Ps (.args op (k + 1) acc) (tComma :: l) none
  | argNo {op k acc l} : acc ≠ [] → l.head? ≠ some tComma → Ps (.args op (k + 1) acc) l none
end Go.Proofs.YtdfgfjnpllncdaaGreatDoor.I

namespace Go.Proofs.YtdfgfjnpllncdaaGreatDoor.I
open Go.RowKit
set_option linter.unusedVariables false
set_option linter.constructorNameAsVariable false
theorem itoa_eq {n : Int} (h : -9223372036854775808 ≤ n ∧ n ≤ 9223372036854775807) : r93 (n, ()) = some (⟨(Lib.itoa n).toArray⟩, ()) := by
  unfold r93 i64B
  rw [decide_eq_true h]
  rfl
theorem fmtInt_eq {n : Int} (h : -9223372036854775808 ≤ n ∧ n ≤ 9223372036854775807) : r56 (n, ((10 : Int), ())) = some (⟨(Lib.itoa n).toArray⟩, ()) := by
  unfold r56 i64B
  rw [decide_eq_true h]
  rfl
theorem itoa_len {n : Int} (h : -9223372036854775808 ≤ n ∧ n ≤ 9223372036854775807) : (Lib.itoa n).length ≤ 21 := Lib.itoa_length_le n h.1 h.2
theorem join_eq (xs : List (List UInt8)) (sep : List UInt8) (h1 : xs.length ≤ 140737488355328) (h2 : (Lib.join xs sep).length ≤ 140737488355328) :
    r34 (xs.map (fun l => (⟨l.toArray⟩ : ByteArray)), (⟨sep.toArray⟩, ())) = some (⟨(Lib.join xs sep).toArray⟩, ()) := by
  have e : joinB (xs.map (fun l => (⟨l.toArray⟩ : ByteArray))) ⟨sep.toArray⟩ = Lib.join xs sep := by
    unfold joinB
    rw [List.map_map]
    congr 1
    conv => rhs; rw [← List.map_id xs]
    exact List.map_congr_left (fun l _ => rfl)
  unfold r34
  simp only [e]
  rw [decide_eq_true ⟨by rw [List.length_map]; exact h1, h2⟩]
  rfl
end Go.Proofs.YtdfgfjnpllncdaaGreatDoor.I

namespace Go.Proofs.YtdfgfjnpllncdaaGreatDoor.I
open Go.RowKit
set_option linter.unusedVariables false
set_option linter.constructorNameAsVariable false
def showB (v : DVal) : List UInt8 := if v.1 = 0 then [110, 105, 108] else if v.1 = 1 then Lib.itoa v.2.1 else if v.1 = 2 then [34] ++ ofS v.2.2.1 ++ [34] else if v.1 = 3 then Lib.formatBool v.2.2.2.1 else [63]
theorem show_len {v : DVal} (h1 : v.2.2.1.size ≤ 40) (h2 : In64 v.2.1) : (showB v).length ≤ 42 := by
  unfold showB
  split
  · simp
  · split
    · have := itoa_len h2; omega
    · split
      · simp only [List.length_append, ofS_len, List.length_cons, List.length_nil]; omega
      · split
        · have := fbool_len v.2.2.2.1; omega
        · simp
theorem fbool_eq (b : Bool) : r94 (b, ()) = some (⟨(Lib.formatBool b).toArray⟩, ()) := rfl
theorem show_eq (v : DVal) (h1 : v.2.2.1.size ≤ 40) (h2 : In64 v.2.1) : r52 (v, ()) = some (⟨(showB v).toArray⟩, ()) := by
  obtain ⟨k, n, s, b, ⟨⟩⟩ := v
  obtain ⟨s, rfl⟩ : ∃ l, s = ⟨l.toArray⟩ := ⟨ofS s, (mk_ofS s).symm⟩
  unfold r52 showB
  simp only [size_mk] at h1
  simp only [itoa_eq h2, fbool_eq, Option.bind_some, ba_app, size_mk, ofS_mk]
  rw [big (by simp only [List.length_append, List.length_cons, List.length_nil]; omega), big (by simp only [List.length_append, List.length_cons, List.length_nil]; omega)]
  by_cases k0 : k = 0
  · simp only [k0, decide_true, cond_true, if_true]
  by_cases k1 : k = 1
  · simp only [k0, k1, decide_true, decide_false, cond_true, cond_false, if_true, if_false]
    rfl
  by_cases k2 : k = 2
  · simp only [k0, k1, k2, decide_true, decide_false, cond_true, cond_false, if_true, if_false]
    rfl
  by_cases k3 : k = 3
  · simp only [k0, k1, k2, k3, decide_true, decide_false, cond_true, cond_false, if_true, if_false]
    rfl
  · simp only [k0, k1, k2, k3, decide_false, cond_false, if_false]
theorem shown_eq (v : DVal) (h1 : v.2.2.1.size ≤ 40) (h2 : In64 v.2.1) : r32 (v, ()) = some (⟨(showB v).toArray⟩, ()) := by
  obtain ⟨k, n, s, b, ⟨⟩⟩ := v
  obtain ⟨s, rfl⟩ : ∃ l, s = ⟨l.toArray⟩ := ⟨ofS s, (mk_ofS s).symm⟩
  unfold r32 showB
  simp only [size_mk] at h1
  have hj : Lib.join [[], s, []] [34] = [34] ++ s ++ [34] := by rw [Lib.join_cons]; simp [Lib.joinTail]
  have ej : r34 ((List.cons (ByteArray.mk (List.toArray (List.nil))) (List.cons (ByteArray.mk s.toArray) (List.cons (ByteArray.mk (List.toArray (List.nil))) (List.nil)))), ((ByteArray.mk (List.toArray (List.cons (34 : UInt8) (List.nil)))), ())) = some (⟨([34] ++ s ++ [34]).toArray⟩, ()) := by
    have := join_eq [[], s, []] [34] (by simp) (by rw [hj]; simp; omega)
    rw [hj] at this
    exact this
  simp only [fmtInt_eq h2, ej, Option.bind_some, ofS_mk]
  by_cases k0 : k = 0
  · simp only [k0, decide_true, cond_true, if_true]
  by_cases k1 : k = 1
  · simp only [k0, k1, decide_true, decide_false, cond_true, cond_false, if_true, if_false]
    rfl
  by_cases k2 : k = 2
  · simp only [k0, k1, k2, decide_true, decide_false, cond_true, cond_false, if_true, if_false]
    rfl
  by_cases k3 : k = 3
  · cases b with
    | true =>
      simp only [k0, k1, k2, k3, decide_true, decide_false, cond_true, cond_false, if_true, if_false, fb_true]
      rfl
    | false =>
      simp only [k0, k1, k2, k3, decide_true, decide_false, cond_true, cond_false, if_true, if_false, fb_false]
      rfl
  · simp only [k0, k1, k2, k3, decide_false, cond_false, if_false]
end Go.Proofs.YtdfgfjnpllncdaaGreatDoor.I

namespace Go.Proofs.YtdfgfjnpllncdaaGreatDoor.I
open Go.RowKit
set_option linter.unusedVariables false
set_option linter.unusedSimpArgs false
set_option linter.constructorNameAsVariable false
def levE (op : Int) : Nat := if op = 3 then 1 else if op = 4 then 2 else if op = 5 then 3 else if 6 ≤ op ∧ op ≤ 11 then 4 else if op = 12 ∨ op = 13 then 5 else if 14 ≤ op ∧ op ≤ 16 then 6 else if op = 17 then 7 else 9
def signT (op : Int) : List UInt8 := ((signL.find? fun p => decide ((p.1 : Int) = op)).map (fun p => ofS p.2)).getD []
def fnT (op : Int) : List UInt8 := ((fnL.find? fun p => decide (p.1 = op)).map (fun p => ofS p.2)).getD []
/-- What of an operand is needed: how strongly it binds, whether it is a number, its text. -/
abbrev KidT := Nat × Bool × List UInt8
def nthK (l : List KidT) (i : Nat) : KidT := l.getD i (0, false, [])
def paren (l : List UInt8) : List UInt8 := [40] ++ l ++ [41]
def inner (k : KidT) (least : Nat) : List UInt8 := if k.1 < least then paren k.2.2 else k.2.2
def isNumN (nd : DNode) : Bool := decide (nd.1 = 0) && decide (nd.2.1.1 = 1)
def txt1 (nd : DNode) (ks : List KidT) : List UInt8 :=
  if nd.1 = 0 then showB nd.2.1
  else if nd.1 = 1 then ofS nd.2.2.1
  else if nd.1 = 2 then [46] ++ ofS nd.2.2.1
  else if nd.1 = 5 then [110, 111, 116, 32] ++ inner (nthK ks 0) 3
  else if nd.1 = 17 then (if (nthK ks 0).2.1 = true then [45, 40] ++ (nthK ks 0).2.2 ++ [41] else [45] ++ inner (nthK ks 0) 7)
  else if 3 ≤ nd.1 ∧ nd.1 ≤ 16 then inner (nthK ks 0) (if levE nd.1 = 4 then 5 else levE nd.1) ++ [32] ++ signT nd.1 ++ [32] ++ inner (nthK ks 1) (levE nd.1 + 1)
  else fnT nd.1 ++ [40] ++ Lib.join (ks.map fun k => k.2.2) [44, 32] ++ [41]
mutual
/-- The text of a valid expression. -/
def txt : DExp → List UInt8
  | .node nd ks => txt1 nd (kidTs ks)
def kidTs : List DExp → List KidT
  | [] => []
  | k :: ks => (levE (Tree.val k).1, isNumN (Tree.val k), txt k) :: kidTs ks
end
theorem kidTs_map : ∀ (ks : List DExp), kidTs ks = ks.map fun k => (levE (Tree.val k).1, isNumN (Tree.val k), txt k)
  | [] => rfl
  | k :: ks => by simp only [kidTs, kidTs_map ks, List.map_cons]
theorem sign_len (op : Int) : (signT op).length ≤ 3 := by
  unfold signT
  cases h : signL.find? (fun p => decide ((p.1 : Int) = op)) with
  | none => simp
  | some p =>
    have hm := List.mem_of_find?_eq_some h
    have key : ∀ p ∈ signL, (ofS p.2).length ≤ 3 := by decide +kernel
    exact key p hm
theorem fn_len (op : Int) : (fnT op).length ≤ 3 := by
  unfold fnT
  cases h : fnL.find? (fun p => decide (p.1 = op)) with
  | none => simp
  | some p =>
    have hm := List.mem_of_find?_eq_some h
    have key : ∀ p ∈ fnL, (ofS p.2).length ≤ 3 := by decide +kernel
    exact key p hm
def sumK (ks : List KidT) : Nat := (ks.map fun k => k.2.2.length + 4).sum
theorem nthK_len (ks : List KidT) (i : Nat) : (nthK ks i).2.2.length ≤ sumK ks := by
  induction ks generalizing i with
  | nil => simp [nthK]
  | cons k ks ih =>
    cases i with
    | zero => simp only [nthK, List.getD_cons_zero, sumK, List.map_cons, List.sum_cons]; omega
    | succ i =>
      have := ih i
      simp only [nthK, List.getD_cons_succ, sumK, List.map_cons, List.sum_cons] at *
      omega
theorem inner_len (k : KidT) (n : Nat) : (inner k n).length ≤ k.2.2.length + 2 := by
  unfold inner paren
  split
  · simp only [List.length_append, List.length_cons, List.length_nil]; omega
  · omega
theorem two_len (ks : List KidT) (n m : Nat) : (inner (nthK ks 0) n).length + (inner (nthK ks 1) m).length ≤ sumK ks + 4 := by
  have h1 := inner_len (nthK ks 0) n
  have h2 := inner_len (nthK ks 1) m
  match ks with
  | [] => simp [nthK] at *; omega
  | [a] => simp [nthK, sumK] at *; omega
  | a :: b :: ks => simp [nthK, sumK] at *; omega
theorem join_len : ∀ (xs : List (List UInt8)) (sep : List UInt8), (Lib.join xs sep).length ≤ (xs.map fun x => x.length + sep.length).sum
  | [], sep => by simp [Lib.join, List.intercalate, List.intersperse]
  | [x], sep => by simp [Lib.join, List.intercalate, List.intersperse]
  | x :: y :: r, sep => by
    have ih := join_len (y :: r) sep
    have e : Lib.join (x :: y :: r) sep = x ++ (sep ++ Lib.join (y :: r) sep) := by simp [Lib.join, List.intercalate, List.intersperse]
    rw [e]
    simp only [List.length_append, List.map_cons, List.sum_cons] at *
    omega
theorem sum_le2 {α : Type} (f g : α → Nat) (h : ∀ a, f a ≤ g a) : ∀ (l : List α), (l.map f).sum ≤ (l.map g).sum
  | [] => by simp
  | a :: l => by
    have := sum_le2 f g h l
    have := h a
    simp only [List.map_cons, List.sum_cons]
    omega
theorem txt1_len {nd : DNode} {ks : List KidT} (h1 : nd.2.1.2.2.1.size ≤ 40) (h2 : In64 nd.2.1.2.1) (h3 : nd.2.2.1.size ≤ 12) : (txt1 nd ks).length ≤ 60 + sumK ks := by
  have hs := show_len h1 h2
  have hk0 := nthK_len ks 0
  have hi3 := inner_len (nthK ks 0) 3
  have hi7 := inner_len (nthK ks 0) 7
  have ht := two_len ks 5 (levE nd.1 + 1)
  have ht2 := two_len ks (levE nd.1) (levE nd.1 + 1)
  have hsg := sign_len nd.1
  have hfn := fn_len nd.1
  have hj := join_len (ks.map fun k => k.2.2) [44, 32]
  have hj2 : (((ks.map fun k => k.2.2).map fun x => x.length + ([44, 32] : List UInt8).length)).sum ≤ sumK ks := by
    rw [List.map_map]
    exact sum_le2 _ _ (fun k => by simp only [Function.comp, List.length_cons, List.length_nil]; omega) ks
  unfold txt1
  repeat' split
  all_goals first
    | omega
    | (simp only [List.length_append, List.length_cons, List.length_nil, ofS_len]; omega)
    | (simp only [List.length_append, List.length_cons, List.length_nil, ofS_len] at *; omega)
end Go.Proofs.YtdfgfjnpllncdaaGreatDoor.I

namespace Go.Proofs.YtdfgfjnpllncdaaGreatDoor.I
open Go.RowKit
set_option linter.unusedVariables false
set_option linter.unusedSimpArgs false
set_option linter.constructorNameAsVariable false
def quotedS (s : ByteArray) : Prop := 2 ≤ s.size ∧ s.data.toList.head? = some 34 ∧ s.data.toList.getLast? = some 34
instance (s : ByteArray) : Decidable (quotedS s) := by unfold quotedS; exact inferInstance
end Go.Proofs.YtdfgfjnpllncdaaGreatDoor.I

namespace Go.Proofs.YtdfgfjnpllncdaaGreatDoor.I
open Go.RowKit
set_option linter.unusedVariables false
set_option linter.unusedSimpArgs false
set_option linter.constructorNameAsVariable false
abbrev Tk := ByteArray × Int × Unit
def Ev (P : Nat → Prop) : Prop := ∃ N, ∀ n, N ≤ n → P n
def isTk (t : Tk) (s : ByteArray) : Prop := t.1 = s ∧ (t.2.1 = 119 ∨ t.2.1 = 115)
instance (t : Tk) (s : ByteArray) : Decidable (isTk t s) := by unfold isTk; exact inferInstance
end Go.Proofs.YtdfgfjnpllncdaaGreatDoor.I

namespace Go.Proofs.YtdfgfjnpllncdaaGreatDoor.I
open Go.RowKit
set_option linter.unusedVariables false
set_option linter.unusedSimpArgs false
set_option linter.constructorNameAsVariable false
theorem leaf_sub {l : Toks} {e : DExp} {l1 : Toks} (h : leafOf l = some (some (e, l1))) : ∀ s ∈ l1, s ∈ l := by
  cases l with
  | nil => cases h
  | cons s l =>
    simp only [leafOf] at h
    intro x hx
    repeat' split at h
    all_goals first
      | (cases h; done)
      | (obtain ⟨_, rfl⟩ := Prod.mk.inj h
         simp [hx])
      | (obtain ⟨_, rfl⟩ := Prod.mk.inj (Option.some.inj h)
         simp [hx])
      | (obtain ⟨_, rfl⟩ := Prod.mk.inj (Option.some.inj (Option.some.inj h))
         simp [hx])
/-- What is left was there. -/
theorem ps_sub {q : Req} {l : Toks} {r : Option (DExp × Toks)} (h : Ps q l r) : ∀ {e l1}, r = some (e, l1) → ∀ s ∈ l1, s ∈ l := by
  induction h with
  | bin _ _ _ ih1 ih2 => intro e l1 hr s hs; exact ih1 rfl s (ih2 hr s hs)
  | stop h => intro e l1 hr s hs; injection hr with hr; injection hr with h1 h2; subst h2; exact hs
  | go _ _ _ _ _ ih1 ih2 => intro e l1 hr s hs; exact List.mem_cons_of_mem _ (ih1 rfl s (ih2 hr s hs))
  | go4 _ _ ih1 => intro e l1 hr s hs; injection hr with hr; injection hr with h1 h2; subst h2; exact List.mem_cons_of_mem _ (ih1 rfl s hs)
  | notY _ ih1 => intro e l1 hr s hs; injection hr with hr; injection hr with h1 h2; subst h2; exact List.mem_cons_of_mem _ (ih1 rfl s hs)
  | nonot _ _ ih1 => intro e l1 hr s hs; exact ih1 hr s hs
  | neg _ _ ih1 => intro e l1 hr s hs; injection hr with hr; injection hr with h1 h2; subst h2; exact List.mem_cons_of_mem _ (ih1 rfl s hs)
  | negNum _ _ => intro e l1 hr s hs; injection hr with hr; injection hr with h1 h2; subst h2; exact List.mem_cons_of_mem _ (List.mem_cons_of_mem _ hs)
  | prim _ _ ih1 => intro e l1 hr s hs; exact ih1 hr s hs
  | par _ ih1 => intro e l1 hr s hs; injection hr with hr; injection hr with h1 h2; subst h2; exact List.mem_cons_of_mem _ (ih1 rfl s (List.mem_cons_of_mem _ hs))
  | leaf hl => intro e l1 hr s hs; subst hr; exact leaf_sub hl s hs
  | fnY _ _ _ ih1 => intro e l1 hr s hs; exact List.mem_cons_of_mem _ (List.mem_cons_of_mem _ (ih1 hr s hs))
  | argsEnd => intro e l1 hr s hs; injection hr with hr; injection hr with h1 h2; subst h2; exact List.mem_cons_of_mem _ hs
  | argOne _ _ ih1 ih2 => intro e l1 hr s hs; exact ih1 rfl s (ih2 hr s hs)
  | argMore _ _ _ ih1 ih2 => intro e l1 hr s hs; exact List.mem_cons_of_mem _ (ih1 rfl s (ih2 hr s hs))
  | _ => intro e l1 hr; cases hr
def TokOk (l : Toks) : Prop := ∀ s ∈ l, s.size ≤ 4000
theorem TokOk.sub {q : Req} {l : Toks} {e : DExp} {l1 : Toks} (h : TokOk l) (hp : Ps q l (some (e, l1))) : TokOk l1 := fun s hs => h s (ps_sub hp rfl s hs)
theorem TokOk.tail {s : ByteArray} {l : Toks} (h : TokOk (s :: l)) : TokOk l := fun x hx => h x (List.mem_cons_of_mem _ hx)
end Go.Proofs.YtdfgfjnpllncdaaGreatDoor.I

namespace Go.Proofs.YtdfgfjnpllncdaaGreatDoor.I
open Go.RowKit
set_option linter.unusedVariables false
set_option linter.unusedSimpArgs false
set_option linter.constructorNameAsVariable false
noncomputable def marksL : List ByteArray := ((r33 ()).getD ([], ())).1
end Go.Proofs.YtdfgfjnpllncdaaGreatDoor.I

namespace Go.Proofs.YtdfgfjnpllncdaaGreatDoor.I
open Go.RowKit
set_option linter.unusedVariables false
set_option linter.unusedSimpArgs false
set_option linter.constructorNameAsVariable false
def isLit (c : UInt8) (s : ByteArray) : Prop := c = 34 ∨ (48 ≤ c.toNat ∧ c.toNat ≤ 57) ∨ s = tTrue ∨ s = tFalse ∨ s = tNil
instance (c : UInt8) (s : ByteArray) : Decidable (isLit c s) := by unfold isLit; exact inferInstance
end Go.Proofs.YtdfgfjnpllncdaaGreatDoor.I

namespace Go.Proofs.YtdfgfjnpllncdaaGreatDoor.I
open Go.RowKit
set_option linter.unusedVariables false
set_option linter.unusedSimpArgs false
set_option linter.constructorNameAsVariable false
def TokNe (l : Toks) : Prop := ∀ s ∈ l, s ≠ emptyS
theorem TokNe.sub {q : Req} {l : Toks} {e : DExp} {l1 : Toks} (h : TokNe l) (hp : Ps q l (some (e, l1))) : TokNe l1 := fun s hs => h s (ps_sub hp rfl s hs)
theorem TokNe.tail {s : ByteArray} {l : Toks} (h : TokNe (s :: l)) : TokNe l := fun x hx => h x (List.mem_cons_of_mem _ hx)
end Go.Proofs.YtdfgfjnpllncdaaGreatDoor.I

namespace Go.Proofs.YtdfgfjnpllncdaaGreatDoor
open Go.RowKit

theorem ba_app (a b : List UInt8) : (⟨a.toArray⟩ : ByteArray) ++ (⟨b.toArray⟩ : ByteArray) = ⟨(a ++ b).toArray⟩ := by
  apply ByteArray.ext
  simp [ByteArray.data_append]
end Go.Proofs.YtdfgfjnpllncdaaGreatDoor

namespace Go.Proofs.YtdfgfjnpllncdaaGreatDoor.I
open Go.RowKit
set_option linter.unusedVariables false
set_option linter.unusedSimpArgs false
set_option linter.constructorNameAsVariable false
theorem f_true {α : Type} {b : Bool} {x y : Option α} (h : b = true) : cond b x y = x := by subst h; rfl
theorem f_false {α : Type} {b : Bool} {x y : Option α} (h : b = false) : cond b x y = y := by subst h; rfl
theorem f_bind {α β : Type} {o : Option α} {x : α} {f : α → Option β} {z : Option β} (h : o = some x) (k : f x = z) : Option.bind o f = z := by rw [h]; exact k
theorem bs_app (a b : List UInt8) : bs a ++ bs b = bs (a ++ b) := ba_app a b
theorem bs_sz (l : List UInt8) : (bs l).size = l.length := by rw [bytes_len]; rfl
end Go.Proofs.YtdfgfjnpllncdaaGreatDoor.I

namespace Go.Proofs.YtdfgfjnpllncdaaGreatDoor.I
open Go.RowKit
set_option linter.unusedVariables false
set_option linter.unusedSimpArgs false
set_option linter.constructorNameAsVariable false
theorem check_bnd {v : DVal} (h : checkV v = 0) : 0 ≤ v.1 ∧ v.1 ≤ 3 ∧ -1000000000000 ≤ v.2.1 ∧ v.2.1 ≤ 1000000000000 ∧ v.2.2.1.size ≤ 40 := by
  unfold checkV at h
  split at h
  · cases h
  split at h
  · cases h
  split at h
  · cases h
  split at h
  · cases h
  split at h
  · cases h
  split at h
  · cases h
  split at h
  · cases h
  split at h
  · cases h
  exact ⟨by omega, by omega, by omega, by omega, by omega⟩
/-- A valid node's bounds. -/
theorem node_bnd {nd : DNode} {k : Nat} (h : oneE nd k = 0) : nd.2.1.2.2.1.size ≤ 40 ∧ In64 nd.2.1.2.1 ∧ nd.2.2.1.size ≤ 12 := by
  obtain ⟨g1, g2, g3⟩ := oneE_kids h
  unfold oneE at h
  rw [if_neg (kids_in g1 g2)] at h
  split at h
  · cases h
  · rename_i hn
    have hv : nd.1 ≠ 0 → nd.2.1 = (0, (0, (emptyS, (false, ())))) := fun h0 => Classical.byContradiction fun hc => hn (.inr (.inl ⟨h0, hc⟩))
    have hs : nd.1 ≠ 1 → nd.1 ≠ 2 → nd.2.2.1 = emptyS := fun h1 h2 => Classical.byContradiction fun hc => hn (.inr (.inr ⟨h1, h2, hc⟩))
    have he : emptyS.size = 0 := rfl
    have hval : nd.1 ≠ 0 → nd.2.1.2.2.1.size ≤ 40 ∧ In64 nd.2.1.2.1 := fun h0 => by
      rw [hv h0]
      exact ⟨by show (0 : Nat) ≤ 40; omega, ⟨by show (-9223372036854775808 : Int) ≤ 0; omega, by show (0 : Int) ≤ 9223372036854775807; omega⟩⟩
    by_cases h0 : nd.1 = 0
    · rw [if_pos h0] at h
      obtain ⟨_, _, b1, b2, b3⟩ := check_bnd h
      refine ⟨b3, ⟨by omega, by omega⟩, ?_⟩
      rw [hs (by omega) (by omega)]
      omega
    · obtain ⟨c1, c2⟩ := hval h0
      refine ⟨c1, c2, ?_⟩
      rw [if_neg h0] at h
      split at h
      · cases h
      · rename_i hbad
        by_cases h1 : nd.1 = 1
        · have hnm : nameOk nd.2.2.1 = true := by
            cases hx : nameOk nd.2.2.1 with
            | true => rfl
            | false => exact absurd (.inl ⟨h1, .inl hx⟩) hbad
          unfold nameOk at hnm
          simp only [Bool.and_eq_true, decide_eq_true_eq] at hnm
          exact hnm.2.2
        · by_cases h2 : nd.1 = 2
          · have hin : inL nd.2.2.1 fieldsL = true := by
              cases hx : inL nd.2.2.1 fieldsL with
              | true => rfl
              | false => exact absurd (.inr ⟨h2, hx⟩) hbad
            have key : ∀ s ∈ fieldsL, s.size ≤ 12 := by decide +kernel
            exact key _ (inL_iff.1 hin)
          · rw [hs h1 h2]
            omega
end Go.Proofs.YtdfgfjnpllncdaaGreatDoor.I

namespace Go.Proofs.YtdfgfjnpllncdaaGreatDoor.I
open Go.RowKit
set_option linter.unusedVariables false
set_option linter.unusedSimpArgs false
set_option linter.constructorNameAsVariable false
theorem firstE_len : ∀ (l : List (DExp × Nat)) (i : Nat), firstE i l = 0 → l = [] ∨ i + l.length ≤ 100
  | [], i, _ => .inl rfl
  | p :: l, i, h => by
    simp only [firstE] at h
    by_cases h0 : nodeE i p = 0
    · simp only [h0, ne_eq, not_true_eq_false, if_false] at h
      have hi : i < 100 := by
        rcases Nat.lt_or_ge i 100 with h1 | h1
        · exact h1
        · unfold nodeE at h0
          rw [if_pos (.inl h1)] at h0
          cases h0
      rcases firstE_len l (i + 1) h with rfl | h2
      · exact .inr (by simp only [List.length_cons, List.length_nil]; omega)
      · exact .inr (by simp only [List.length_cons]; omega)
    · simp only [h0, ne_eq, not_false_eq_true, if_true] at h
mutual
theorem pre_sz : ∀ (t : DExp) (d i : Nat), firstE i (pre d t) = 0 → (pre d t).length = sz t
  | .node nd ks, d, i, h => by
    simp only [pre, firstE] at h
    by_cases h0 : nodeE i (.node nd ks, d) = 0
    · simp only [h0, ne_eq, not_true_eq_false, if_false] at h
      by_cases hd : 20 < d
      · unfold nodeE at h0
        rw [if_pos (.inr hd)] at h0
        cases h0
      · rw [if_neg hd] at h
        have := preL_sz ks (d + 1) (i + 1) h
        simp only [pre, sz, List.length_cons, if_neg hd]
        omega
    · simp only [h0, ne_eq, not_false_eq_true, if_true] at h
theorem preL_sz : ∀ (ks : List DExp) (d i : Nat), firstE i (preL d ks) = 0 → (preL d ks).length = szL ks
  | [], d, i, _ => rfl
  | k :: ks, d, i, h => by
    simp only [preL] at h
    rw [firstE_app] at h
    by_cases h0 : firstE i (pre d k) = 0
    · rw [if_neg (by simpa using h0)] at h
      have h1 := pre_sz k d i h0
      have h2 := preL_sz ks d _ h
      simp only [preL, szL, List.length_append]
      omega
    · rw [if_pos h0] at h
      exact absurd h h0
end
theorem exp_sz {t : DExp} (h : expE t = 0) : sz t ≤ 100 := by
  have h1 := pre_sz t 1 0 h
  rcases firstE_len (pre 1 t) 0 h with h2 | h2
  · rw [h2] at h1
    simp only [List.length_nil] at h1
    omega
  · omega
def infoK (k : DExp) : KidT := (levE (Tree.val k).1, isNumN (Tree.val k), txt k)
mutual
theorem txt_len : ∀ (t : DExp), VE t → (txt t).length + 4 ≤ 64 * sz t
  | .node nd ks, hv => by
    have hv' := (VE_node (.node nd ks)).1 hv
    obtain ⟨b1, b2, b3⟩ := node_bnd hv'.1
    have h1 := txt1_len (ks := kidTs ks) b1 b2 b3
    have h2 := kids_len ks hv'.2
    simp only [txt, sz, Tree.val] at h1 ⊢
    omega
theorem kids_len : ∀ (ks : List DExp), (∀ k ∈ ks, VE k) → sumK (kidTs ks) ≤ 64 * szL ks
  | [], _ => by simp [kidTs, sumK]
  | k :: ks, hv => by
    have h1 := txt_len k (hv k (by simp))
    have h2 := kids_len ks (fun x hx => hv x (by simp [hx]))
    simp only [kidTs, sumK, List.map_cons, List.sum_cons, szL] at h2 ⊢
    omega
end
/-- An operand, perhaps in parentheses. -/
theorem paren_fin (q : List UInt8) (h : q.length ≤ 1000000) : cond (decide (9223372036854775807 < (bs [40]).size + (bs q).size)) none (cond (decide (9223372036854775807 < (bs [40] ++ bs q).size + (bs [41]).size)) none (some ((bs [40] ++ bs q) ++ bs [41], ()))) = some (bs (paren q), ()) := by
  refine (f_false (decide_eq_false (by simp only [bs_sz, List.length_cons, List.length_nil]; omega))).trans ?_
  refine (f_false (decide_eq_false (by simp only [ByteArray.size_append, bs_sz, List.length_cons, List.length_nil]; omega))).trans ?_
  rw [bs_app, bs_app]
  rfl
theorem level_eq {t : DExp} (h0 : 0 ≤ (Tree.val t).1) (h1 : (Tree.val t).1 ≤ 21) : r51 (t, ()) = some (((levE (Tree.val t).1 : Nat) : Int), ()) := by
  cases t with
  | node nd ks =>
    obtain ⟨op, v, nm, ⟨⟩⟩ := nd
    simp only [Tree.val] at h0 h1 ⊢
    have hop : op = 0 ∨ op = 1 ∨ op = 2 ∨ op = 3 ∨ op = 4 ∨ op = 5 ∨ op = 6 ∨ op = 7 ∨ op = 8 ∨ op = 9 ∨ op = 10 ∨ op = 11 ∨ op = 12 ∨ op = 13 ∨ op = 14 ∨ op = 15 ∨ op = 16 ∨ op = 17 ∨ op = 18 ∨ op = 19 ∨ op = 20 ∨ op = 21 := by omega
    rcases hop with rfl | rfl | rfl | rfl | rfl | rfl | rfl | rfl | rfl | rfl | rfl | rfl | rfl | rfl | rfl | rfl | rfl | rfl | rfl | rfl | rfl | rfl <;> rfl
theorem strength_eq {op : Int} (h0 : 0 ≤ op) (h1 : op ≤ 21) : r31 (op, ()) = some (((levE op : Nat) : Int), ()) := by
  have hop : op = 0 ∨ op = 1 ∨ op = 2 ∨ op = 3 ∨ op = 4 ∨ op = 5 ∨ op = 6 ∨ op = 7 ∨ op = 8 ∨ op = 9 ∨ op = 10 ∨ op = 11 ∨ op = 12 ∨ op = 13 ∨ op = 14 ∨ op = 15 ∨ op = 16 ∨ op = 17 ∨ op = 18 ∨ op = 19 ∨ op = 20 ∨ op = 21 := by omega
  rcases hop with rfl | rfl | rfl | rfl | rfl | rfl | rfl | rfl | rfl | rfl | rfl | rfl | rfl | rfl | rfl | rfl | rfl | rfl | rfl | rfl | rfl | rfl <;> rfl
theorem inner_eq (m : Nat) (k : DExp) (least : Nat) (h0 : 0 ≤ (Tree.val k).1) (h1 : (Tree.val k).1 ≤ 21) (hl : (txt k).length ≤ 1000000) (ht : r29 m (k, ()) = some (bs (txt k), ())) : r53 (m + 1) (k, ((least : Int), ())) = some (bs (inner (infoK k) least), ()) := by
  rw [r53_succ]
  unfold r53B
  simp only [nd_eta2]
  refine f_bind (level_eq h0 h1) ?_
  have hi : inner (infoK k) least = if levE (Tree.val k).1 < least then paren (txt k) else txt k := rfl
  rw [hi]
  by_cases hc : levE (Tree.val k).1 < least
  · rw [if_pos hc]
    refine (f_true (decide_eq_true (show ((levE (Tree.val k).1 : Nat) : Int) < (least : Int) by omega))).trans ?_
    exact f_bind ht (paren_fin (txt k) hl)
  · rw [if_neg hc]
    refine (f_false (decide_eq_false (show ¬ ((levE (Tree.val k).1 : Nat) : Int) < (least : Int) by omega))).trans ?_
    exact f_bind ht rfl
theorem closed_eq (m : Nat) (k : DExp) (least : Nat) (h0 : 0 ≤ (Tree.val k).1) (h1 : (Tree.val k).1 ≤ 21) (hl : (txt k).length ≤ 1000000) (ht : r10 m (k, ()) = some (bs (txt k), ())) : r30 (m + 1) (k, ((least : Int), ())) = some (bs (inner (infoK k) least), ()) := by
  rw [r30_succ]
  unfold r30B
  simp only [nd_eta2]
  refine f_bind (strength_eq h0 h1) ?_
  have hi : inner (infoK k) least = if levE (Tree.val k).1 < least then paren (txt k) else txt k := rfl
  rw [hi]
  by_cases hc : levE (Tree.val k).1 < least
  · rw [if_pos hc]
    refine (f_true (decide_eq_true (show ((levE (Tree.val k).1 : Nat) : Int) < (least : Int) by omega))).trans ?_
    exact f_bind ht (paren_fin (txt k) hl)
  · rw [if_neg hc]
    refine (f_false (decide_eq_false (show ¬ ((levE (Tree.val k).1 : Nat) : Int) < (least : Int) by omega))).trans ?_
    exact f_bind ht rfl
@[reducible] def embTx (i : Int) (s : List ByteArray) : (List ByteArray × Int × Unit) × Unit := ((s, (i, ())), ())
theorem texts_loop (raw : (DExp × Unit) → Option (ByteArray × Unit)) (ks : List DExp) (IH : ∀ k ∈ ks, raw (k, ()) = some (bs (txt k), ())) (hk : ks.length ≤ 9)
    (step : (List ByteArray × Int × Unit) × Unit → Option (((List ByteArray × Int × Unit) × Unit) ⊕ (((List ByteArray × Unit) × Unit) ⊕ Empty)))
    (hs : ∀ (s : List ByteArray) (i : Int), step ((s, (i, ())), ()) = cond (decide (i < (ks.length : Int))) (cond (inB i ks.length) (Option.bind (ks[Int.toNat i]?) fun x2 => Option.bind (raw (Tree.node (Tree.val x2) (Tree.kids x2), ())) fun x3 => cond (fits (s.length + [x3.1].length) 16) (some (Sum.inl ((s ++ [x3.1], (IntKind.wrap .i64 (i + 1), ())), ()))) none) none) (some (Sum.inr (Sum.inl ((s, ()), ()))))) :
    loop step (([], ((0 : Int), ())), ()) = some (.inl ((ks.map (fun k => bs (txt k)), ()), ())) := by
  have H : ∃ o, loop step (embTx ((0 : Nat) : Int) []) = some o ∧ o = .inl ((ks.map (fun k => bs (txt k)), ()), ()) := by
    refine loop_up (step := step) embTx ks.length (fun j s => s = (ks.take j).map (fun k => bs (txt k))) (fun o => o = .inl ((ks.map (fun k => bs (txt k)), ()), ())) (fun j s hj hI => ?_) (fun s hI => ?_) 0 _ (Nat.zero_le _) (by simp)
    · subst hI
      obtain ⟨k, hkj⟩ := get_lt hj
      have hm := List.mem_of_getElem? hkj
      refine .inl ⟨(ks.take (j + 1)).map (fun k => bs (txt k)), ?_, rfl⟩
      rw [hs]
      refine (f_true (dec_lt hj)).trans ((f_true (inB_lt hj)).trans ?_)
      refine f_bind (x := k) (by rw [Int.toNat_natCast]; exact hkj) ?_
      refine f_bind (by rw [nd_eta2]; exact IH k hm) ?_
      refine (f_true (fits16 (by simp only [List.length_map, List.length_take, List.length_cons, List.length_nil]; omega))).trans ?_
      rw [wrapS hj (by omega), take_succ hkj, List.map_append]
      rfl
    · subst hI
      rw [List.take_length]
      refine ⟨_, ?_, rfl⟩
      rw [hs]
      exact f_false dec_nlt
  obtain ⟨o, h1, rfl⟩ := H
  exact h1
theorem join_txt (ks : List DExp) (hk : ks.length ≤ 9) (hj : (Lib.join (ks.map txt) [44, 32]).length ≤ 1000000) : r34 (ks.map (fun k => bs (txt k)), (bs [44, 32], ())) = some (bs (Lib.join (ks.map txt) [44, 32]), ()) := by
  have := join_eq (ks.map txt) [44, 32] (by rw [List.length_map]; omega) (by omega)
  rw [List.map_map] at this
  exact this
theorem kidTs_txt (ks : List DExp) : (kidTs ks).map (fun k => k.2.2) = ks.map txt := by
  rw [kidTs_map, List.map_map]
  rfl
theorem kids_join (ks : List DExp) (hv : ∀ k ∈ ks, VE k) (hs : szL ks ≤ 1000) : (Lib.join (ks.map txt) [44, 32]).length ≤ 1000000 := by
  have h1 := kids_len ks hv
  have h2 := join_len (ks.map txt) [44, 32]
  have h3 : ((ks.map txt).map fun x => x.length + ([44, 32] : List UInt8).length).sum ≤ sumK (kidTs ks) := by
    rw [← kidTs_txt, List.map_map]
    exact sum_le2 _ _ (fun k => by simp only [Function.comp, List.length_cons, List.length_nil]; omega) _
  omega
theorem kd1 {l : List DExp} (h : (l.length : Int) = 1) : ∃ a, l = [a] := by
  match l, h with
  | [], h => cases h
  | [a], _ => exact ⟨a, rfl⟩
  | a :: b :: l, h => exfalso; simp only [List.length_cons] at h; omega
theorem kd2 {l : List DExp} (h : (l.length : Int) = 2) : ∃ a b, l = [a, b] := by
  match l, h with
  | [], h => cases h
  | [a], h => cases h
  | [a, b], _ => exact ⟨a, b, rfl⟩
  | a :: b :: c :: l, h => exfalso; simp only [List.length_cons] at h; omega
/-- What both need to know of a node's operands. -/
structure KidsOk (rawT : (DExp × Unit) → Option (ByteArray × Unit)) (rawI : (DExp × Int × Unit) → Option (ByteArray × Unit)) (ks : List DExp) : Prop where
  t : ∀ k ∈ ks, rawT (k, ()) = some (bs (txt k), ())
  i : ∀ k ∈ ks, ∀ least : Nat, least ≤ 9 → rawI (k, ((least : Int), ())) = some (bs (inner (infoK k) least), ())
  len : ∀ k ∈ ks, (txt k).length ≤ 100000
  ve : ∀ k ∈ ks, VE k
  sz : szL ks ≤ 1000
  n : ks.length ≤ 9
theorem KidsOk.inn {rawT : (DExp × Unit) → Option (ByteArray × Unit)} {rawI : (DExp × Int × Unit) → Option (ByteArray × Unit)} {ks : List DExp} (h : KidsOk rawT rawI ks) {k : DExp} (hk : k ∈ ks) (n : Nat) : (inner (infoK k) n).length ≤ 100002 := by
  have h1 := inner_len (infoK k) n
  have h2 := h.len k hk
  have : (infoK k).2.2 = txt k := rfl
  rw [this] at h1
  omega

set_option maxHeartbeats 8000000 in
theorem text_node (n : Nat) (v : DVal) (nm : ByteArray) (ks : List DExp) (op : Int) (h1 : oneE (op, (v, (nm, ()))) ks.length = 0) (K : KidsOk (r29 n) (r53 n) ks) : r29 (n + 1) (.node (op, (v, (nm, ()))) ks, ()) = some (bs (txt1 (op, (v, (nm, ()))) (kidTs ks)), ()) := by
  obtain ⟨g1, g2, g3⟩ := oneE_kids h1
  obtain ⟨b1, b2, b3⟩ := node_bnd h1
  simp only at g1 g2 g3 b1 b2 b3
  have hI := K.i
  have hT := K.t
  rw [r29_succ]
  unfold r29B
  have hop : op = 0 ∨ op = 1 ∨ op = 2 ∨ op = 3 ∨ op = 4 ∨ op = 5 ∨ op = 6 ∨ op = 7 ∨ op = 8 ∨ op = 9 ∨ op = 10 ∨ op = 11 ∨ op = 12 ∨ op = 13 ∨ op = 14 ∨ op = 15 ∨ op = 16 ∨ op = 17 ∨ op = 18 ∨ op = 19 ∨ op = 20 ∨ op = 21 := by omega
  rcases hop with rfl | rfl | rfl | rfl | rfl | rfl | rfl | rfl | rfl | rfl | rfl | rfl | rfl | rfl | rfl | rfl | rfl | rfl | rfl | rfl | rfl | rfl
  · refine f_bind (x := ((9 : Int), ())) (by rfl) ?_
    refine (f_true (by rfl)).trans ?_
    have hs := show_eq v b1 b2
    refine f_bind hs ?_
    rfl
  · refine f_bind (x := ((9 : Int), ())) (by rfl) ?_
    refine (f_false (by rfl)).trans ?_
    refine (f_true (by rfl)).trans ?_
    rfl
  · refine f_bind (x := ((9 : Int), ())) (by rfl) ?_
    refine (f_false (by rfl)).trans ?_
    refine (f_false (by rfl)).trans ?_
    refine (f_true (by rfl)).trans ?_
    refine (f_false (decide_eq_false (by simp only [size_mk, List.length_cons, List.length_nil]; show ¬ 9223372036854775807 < 0 + 1 + nm.size; omega))).trans ?_
    exact congrArg (fun z => some (z, ())) (by show bs [46] ++ bs (ofS nm) = _; rw [bs_app]; rfl)
  · obtain ⟨a, b, rfl⟩ := kd2 (l := ks) (by rw [g3]; rfl)
    have la := K.inn (k := a) (by simp) 1
    have lb := K.inn (k := b) (by simp) 2
    refine f_bind (x := ((1 : Int), ())) (by rfl) ?_
    refine (f_false (by rfl)).trans ?_
    refine (f_false (by rfl)).trans ?_
    refine (f_false (by rfl)).trans ?_
    refine (f_false (by rfl)).trans ?_
    refine (f_false (by rfl)).trans ?_
    refine (f_true (by rfl)).trans ?_
    refine (f_false (by rfl)).trans ?_
    refine (f_true (by rfl)).trans ?_
    refine f_bind (x := a) (by rfl) ?_
    refine f_bind (x := (bs (inner (infoK a) 1), ())) (by rw [nd_eta2]; exact hI a (by simp) 1 (by omega)) ?_
    refine (f_false (decide_eq_false (by simp only [ByteArray.size_append, size_mk, bs_sz, List.length_cons, List.length_nil, List.length_append]; omega))).trans ?_
    refine (f_true (by rfl)).trans ?_
    refine (f_false (decide_eq_false (by simp only [ByteArray.size_append, size_mk, bs_sz, List.length_cons, List.length_nil, List.length_append]; omega))).trans ?_
    refine (f_false (decide_eq_false (by simp only [ByteArray.size_append, size_mk, bs_sz, List.length_cons, List.length_nil, List.length_append]; omega))).trans ?_
    refine (f_true (by rfl)).trans ?_
    refine f_bind (x := b) (by rfl) ?_
    refine f_bind (x := (bs (inner (infoK b) 2), ())) (by rw [nd_eta2]; exact hI b (by simp) 2 (by omega)) ?_
    refine (f_false (decide_eq_false (by simp only [ByteArray.size_append, size_mk, bs_sz, List.length_cons, List.length_nil, List.length_append]; omega))).trans ?_
    exact congrArg (fun z => some (z, ())) (by show (((bs (inner (infoK a) 1) ++ bs [32]) ++ bs [111, 114]) ++ bs [32]) ++ bs (inner (infoK b) 2) = _; simp only [bs_app]; rfl)
  · obtain ⟨a, b, rfl⟩ := kd2 (l := ks) (by rw [g3]; rfl)
    have la := K.inn (k := a) (by simp) 2
    have lb := K.inn (k := b) (by simp) 3
    refine f_bind (x := ((2 : Int), ())) (by rfl) ?_
    refine (f_false (by rfl)).trans ?_
    refine (f_false (by rfl)).trans ?_
    refine (f_false (by rfl)).trans ?_
    refine (f_false (by rfl)).trans ?_
    refine (f_false (by rfl)).trans ?_
    refine (f_true (by rfl)).trans ?_
    refine (f_false (by rfl)).trans ?_
    refine (f_true (by rfl)).trans ?_
    refine f_bind (x := a) (by rfl) ?_
    refine f_bind (x := (bs (inner (infoK a) 2), ())) (by rw [nd_eta2]; exact hI a (by simp) 2 (by omega)) ?_
    refine (f_false (decide_eq_false (by simp only [ByteArray.size_append, size_mk, bs_sz, List.length_cons, List.length_nil, List.length_append]; omega))).trans ?_
    refine (f_false (by rfl)).trans ?_
    refine (f_true (by rfl)).trans ?_
    refine (f_false (decide_eq_false (by simp only [ByteArray.size_append, size_mk, bs_sz, List.length_cons, List.length_nil, List.length_append]; omega))).trans ?_
    refine (f_false (decide_eq_false (by simp only [ByteArray.size_append, size_mk, bs_sz, List.length_cons, List.length_nil, List.length_append]; omega))).trans ?_
    refine (f_true (by rfl)).trans ?_
    refine f_bind (x := b) (by rfl) ?_
    refine f_bind (x := (bs (inner (infoK b) 3), ())) (by rw [nd_eta2]; exact hI b (by simp) 3 (by omega)) ?_
    refine (f_false (decide_eq_false (by simp only [ByteArray.size_append, size_mk, bs_sz, List.length_cons, List.length_nil, List.length_append]; omega))).trans ?_
    exact congrArg (fun z => some (z, ())) (by show (((bs (inner (infoK a) 2) ++ bs [32]) ++ bs [97, 110, 100]) ++ bs [32]) ++ bs (inner (infoK b) 3) = _; simp only [bs_app]; rfl)
  · obtain ⟨a, rfl⟩ := kd1 (l := ks) (by rw [g3]; rfl)
    have la := K.inn (k := a) (by simp) 3
    refine f_bind (x := ((3 : Int), ())) (by rfl) ?_
    refine (f_false (by rfl)).trans ?_
    refine (f_false (by rfl)).trans ?_
    refine (f_false (by rfl)).trans ?_
    refine (f_true (by rfl)).trans ?_
    refine (f_true (by rfl)).trans ?_
    refine f_bind (x := a) (by rfl) ?_
    refine f_bind (x := (bs (inner (infoK a) 3), ())) (by rw [nd_eta2]; exact hI a (by simp) 3 (by omega)) ?_
    refine (f_false (decide_eq_false (by simp only [ByteArray.size_append, size_mk, bs_sz, List.length_cons, List.length_nil, List.length_append]; omega))).trans ?_
    exact congrArg (fun z => some (z, ())) (by show bs [110, 111, 116, 32] ++ bs (inner (infoK a) 3) = _; rw [bs_app]; rfl)
  · obtain ⟨a, b, rfl⟩ := kd2 (l := ks) (by rw [g3]; rfl)
    have la := K.inn (k := a) (by simp) 5
    have lb := K.inn (k := b) (by simp) 5
    refine f_bind (x := ((4 : Int), ())) (by rfl) ?_
    refine (f_false (by rfl)).trans ?_
    refine (f_false (by rfl)).trans ?_
    refine (f_false (by rfl)).trans ?_
    refine (f_false (by rfl)).trans ?_
    refine (f_false (by rfl)).trans ?_
    refine (f_true (by rfl)).trans ?_
    refine (f_true (by rfl)).trans ?_
    refine (f_true (by rfl)).trans ?_
    refine f_bind (x := a) (by rfl) ?_
    refine f_bind (x := (bs (inner (infoK a) 5), ())) (by rw [nd_eta2]; exact hI a (by simp) 5 (by omega)) ?_
    refine (f_false (decide_eq_false (by simp only [ByteArray.size_append, size_mk, bs_sz, List.length_cons, List.length_nil, List.length_append]; omega))).trans ?_
    refine (f_false (by rfl)).trans ?_
    refine (f_false (by rfl)).trans ?_
    refine (f_true (by rfl)).trans ?_
    refine (f_false (decide_eq_false (by simp only [ByteArray.size_append, size_mk, bs_sz, List.length_cons, List.length_nil, List.length_append]; omega))).trans ?_
    refine (f_false (decide_eq_false (by simp only [ByteArray.size_append, size_mk, bs_sz, List.length_cons, List.length_nil, List.length_append]; omega))).trans ?_
    refine (f_true (by rfl)).trans ?_
    refine f_bind (x := b) (by rfl) ?_
    refine f_bind (x := (bs (inner (infoK b) 5), ())) (by rw [nd_eta2]; exact hI b (by simp) 5 (by omega)) ?_
    refine (f_false (decide_eq_false (by simp only [ByteArray.size_append, size_mk, bs_sz, List.length_cons, List.length_nil, List.length_append]; omega))).trans ?_
    exact congrArg (fun z => some (z, ())) (by show (((bs (inner (infoK a) 5) ++ bs [32]) ++ bs [61]) ++ bs [32]) ++ bs (inner (infoK b) 5) = _; simp only [bs_app]; rfl)
  · obtain ⟨a, b, rfl⟩ := kd2 (l := ks) (by rw [g3]; rfl)
    have la := K.inn (k := a) (by simp) 5
    have lb := K.inn (k := b) (by simp) 5
    refine f_bind (x := ((4 : Int), ())) (by rfl) ?_
    refine (f_false (by rfl)).trans ?_
    refine (f_false (by rfl)).trans ?_
    refine (f_false (by rfl)).trans ?_
    refine (f_false (by rfl)).trans ?_
    refine (f_false (by rfl)).trans ?_
    refine (f_true (by rfl)).trans ?_
    refine (f_true (by rfl)).trans ?_
    refine (f_true (by rfl)).trans ?_
    refine f_bind (x := a) (by rfl) ?_
    refine f_bind (x := (bs (inner (infoK a) 5), ())) (by rw [nd_eta2]; exact hI a (by simp) 5 (by omega)) ?_
    refine (f_false (decide_eq_false (by simp only [ByteArray.size_append, size_mk, bs_sz, List.length_cons, List.length_nil, List.length_append]; omega))).trans ?_
    refine (f_false (by rfl)).trans ?_
    refine (f_false (by rfl)).trans ?_
    refine (f_false (by rfl)).trans ?_
    refine (f_true (by rfl)).trans ?_
    refine (f_false (decide_eq_false (by simp only [ByteArray.size_append, size_mk, bs_sz, List.length_cons, List.length_nil, List.length_append]; omega))).trans ?_
    refine (f_false (decide_eq_false (by simp only [ByteArray.size_append, size_mk, bs_sz, List.length_cons, List.length_nil, List.length_append]; omega))).trans ?_
    refine (f_true (by rfl)).trans ?_
    refine f_bind (x := b) (by rfl) ?_
    refine f_bind (x := (bs (inner (infoK b) 5), ())) (by rw [nd_eta2]; exact hI b (by simp) 5 (by omega)) ?_
    refine (f_false (decide_eq_false (by simp only [ByteArray.size_append, size_mk, bs_sz, List.length_cons, List.length_nil, List.length_append]; omega))).trans ?_
    exact congrArg (fun z => some (z, ())) (by show (((bs (inner (infoK a) 5) ++ bs [32]) ++ bs [33, 61]) ++ bs [32]) ++ bs (inner (infoK b) 5) = _; simp only [bs_app]; rfl)
  · obtain ⟨a, b, rfl⟩ := kd2 (l := ks) (by rw [g3]; rfl)
    have la := K.inn (k := a) (by simp) 5
    have lb := K.inn (k := b) (by simp) 5
    refine f_bind (x := ((4 : Int), ())) (by rfl) ?_
    refine (f_false (by rfl)).trans ?_
    refine (f_false (by rfl)).trans ?_
    refine (f_false (by rfl)).trans ?_
    refine (f_false (by rfl)).trans ?_
    refine (f_false (by rfl)).trans ?_
    refine (f_true (by rfl)).trans ?_
    refine (f_true (by rfl)).trans ?_
    refine (f_true (by rfl)).trans ?_
    refine f_bind (x := a) (by rfl) ?_
    refine f_bind (x := (bs (inner (infoK a) 5), ())) (by rw [nd_eta2]; exact hI a (by simp) 5 (by omega)) ?_
    refine (f_false (decide_eq_false (by simp only [ByteArray.size_append, size_mk, bs_sz, List.length_cons, List.length_nil, List.length_append]; omega))).trans ?_
    refine (f_false (by rfl)).trans ?_
    refine (f_false (by rfl)).trans ?_
    refine (f_false (by rfl)).trans ?_
    refine (f_false (by rfl)).trans ?_
    refine (f_true (by rfl)).trans ?_
    refine (f_false (decide_eq_false (by simp only [ByteArray.size_append, size_mk, bs_sz, List.length_cons, List.length_nil, List.length_append]; omega))).trans ?_
    refine (f_false (decide_eq_false (by simp only [ByteArray.size_append, size_mk, bs_sz, List.length_cons, List.length_nil, List.length_append]; omega))).trans ?_
    refine (f_true (by rfl)).trans ?_
    refine f_bind (x := b) (by rfl) ?_
    refine f_bind (x := (bs (inner (infoK b) 5), ())) (by rw [nd_eta2]; exact hI b (by simp) 5 (by omega)) ?_
    refine (f_false (decide_eq_false (by simp only [ByteArray.size_append, size_mk, bs_sz, List.length_cons, List.length_nil, List.length_append]; omega))).trans ?_
    exact congrArg (fun z => some (z, ())) (by show (((bs (inner (infoK a) 5) ++ bs [32]) ++ bs [60]) ++ bs [32]) ++ bs (inner (infoK b) 5) = _; simp only [bs_app]; rfl)
  · obtain ⟨a, b, rfl⟩ := kd2 (l := ks) (by rw [g3]; rfl)
    have la := K.inn (k := a) (by simp) 5
    have lb := K.inn (k := b) (by simp) 5
    refine f_bind (x := ((4 : Int), ())) (by rfl) ?_
    refine (f_false (by rfl)).trans ?_
    refine (f_false (by rfl)).trans ?_
    refine (f_false (by rfl)).trans ?_
    refine (f_false (by rfl)).trans ?_
    refine (f_false (by rfl)).trans ?_
    refine (f_true (by rfl)).trans ?_
    refine (f_true (by rfl)).trans ?_
    refine (f_true (by rfl)).trans ?_
    refine f_bind (x := a) (by rfl) ?_
    refine f_bind (x := (bs (inner (infoK a) 5), ())) (by rw [nd_eta2]; exact hI a (by simp) 5 (by omega)) ?_
    refine (f_false (decide_eq_false (by simp only [ByteArray.size_append, size_mk, bs_sz, List.length_cons, List.length_nil, List.length_append]; omega))).trans ?_
    refine (f_false (by rfl)).trans ?_
    refine (f_false (by rfl)).trans ?_
    refine (f_false (by rfl)).trans ?_
    refine (f_false (by rfl)).trans ?_
    refine (f_false (by rfl)).trans ?_
    refine (f_true (by rfl)).trans ?_
    refine (f_false (decide_eq_false (by simp only [ByteArray.size_append, size_mk, bs_sz, List.length_cons, List.length_nil, List.length_append]; omega))).trans ?_
    refine (f_false (decide_eq_false (by simp only [ByteArray.size_append, size_mk, bs_sz, List.length_cons, List.length_nil, List.length_append]; omega))).trans ?_
    refine (f_true (by rfl)).trans ?_
    refine f_bind (x := b) (by rfl) ?_
    refine f_bind (x := (bs (inner (infoK b) 5), ())) (by rw [nd_eta2]; exact hI b (by simp) 5 (by omega)) ?_
    refine (f_false (decide_eq_false (by simp only [ByteArray.size_append, size_mk, bs_sz, List.length_cons, List.length_nil, List.length_append]; omega))).trans ?_
    exact congrArg (fun z => some (z, ())) (by show (((bs (inner (infoK a) 5) ++ bs [32]) ++ bs [60, 61]) ++ bs [32]) ++ bs (inner (infoK b) 5) = _; simp only [bs_app]; rfl)
  · obtain ⟨a, b, rfl⟩ := kd2 (l := ks) (by rw [g3]; rfl)
    have la := K.inn (k := a) (by simp) 5
    have lb := K.inn (k := b) (by simp) 5
    refine f_bind (x := ((4 : Int), ())) (by rfl) ?_
    refine (f_false (by rfl)).trans ?_
    refine (f_false (by rfl)).trans ?_
    refine (f_false (by rfl)).trans ?_
    refine (f_false (by rfl)).trans ?_
    refine (f_false (by rfl)).trans ?_
    refine (f_true (by rfl)).trans ?_
    refine (f_true (by rfl)).trans ?_
    refine (f_true (by rfl)).trans ?_
    refine f_bind (x := a) (by rfl) ?_
    refine f_bind (x := (bs (inner (infoK a) 5), ())) (by rw [nd_eta2]; exact hI a (by simp) 5 (by omega)) ?_
    refine (f_false (decide_eq_false (by simp only [ByteArray.size_append, size_mk, bs_sz, List.length_cons, List.length_nil, List.length_append]; omega))).trans ?_
    refine (f_false (by rfl)).trans ?_
    refine (f_false (by rfl)).trans ?_
    refine (f_false (by rfl)).trans ?_
    refine (f_false (by rfl)).trans ?_
    refine (f_false (by rfl)).trans ?_
    refine (f_false (by rfl)).trans ?_
    refine (f_true (by rfl)).trans ?_
    refine (f_false (decide_eq_false (by simp only [ByteArray.size_append, size_mk, bs_sz, List.length_cons, List.length_nil, List.length_append]; omega))).trans ?_
    refine (f_false (decide_eq_false (by simp only [ByteArray.size_append, size_mk, bs_sz, List.length_cons, List.length_nil, List.length_append]; omega))).trans ?_
    refine (f_true (by rfl)).trans ?_
    refine f_bind (x := b) (by rfl) ?_
    refine f_bind (x := (bs (inner (infoK b) 5), ())) (by rw [nd_eta2]; exact hI b (by simp) 5 (by omega)) ?_
    refine (f_false (decide_eq_false (by simp only [ByteArray.size_append, size_mk, bs_sz, List.length_cons, List.length_nil, List.length_append]; omega))).trans ?_
    exact congrArg (fun z => some (z, ())) (by show (((bs (inner (infoK a) 5) ++ bs [32]) ++ bs [62]) ++ bs [32]) ++ bs (inner (infoK b) 5) = _; simp only [bs_app]; rfl)
  · obtain ⟨a, b, rfl⟩ := kd2 (l := ks) (by rw [g3]; rfl)
    have la := K.inn (k := a) (by simp) 5
    have lb := K.inn (k := b) (by simp) 5
    refine f_bind (x := ((4 : Int), ())) (by rfl) ?_
    refine (f_false (by rfl)).trans ?_
    refine (f_false (by rfl)).trans ?_
    refine (f_false (by rfl)).trans ?_
    refine (f_false (by rfl)).trans ?_
    refine (f_false (by rfl)).trans ?_
    refine (f_true (by rfl)).trans ?_
    refine (f_true (by rfl)).trans ?_
    refine (f_true (by rfl)).trans ?_
    refine f_bind (x := a) (by rfl) ?_
    refine f_bind (x := (bs (inner (infoK a) 5), ())) (by rw [nd_eta2]; exact hI a (by simp) 5 (by omega)) ?_
    refine (f_false (decide_eq_false (by simp only [ByteArray.size_append, size_mk, bs_sz, List.length_cons, List.length_nil, List.length_append]; omega))).trans ?_
    refine (f_false (by rfl)).trans ?_
    refine (f_false (by rfl)).trans ?_
    refine (f_false (by rfl)).trans ?_
    refine (f_false (by rfl)).trans ?_
    refine (f_false (by rfl)).trans ?_
    refine (f_false (by rfl)).trans ?_
    refine (f_false (by rfl)).trans ?_
    refine (f_true (by rfl)).trans ?_
    refine (f_false (decide_eq_false (by simp only [ByteArray.size_append, size_mk, bs_sz, List.length_cons, List.length_nil, List.length_append]; omega))).trans ?_
    refine (f_false (decide_eq_false (by simp only [ByteArray.size_append, size_mk, bs_sz, List.length_cons, List.length_nil, List.length_append]; omega))).trans ?_
    refine (f_true (by rfl)).trans ?_
    refine f_bind (x := b) (by rfl) ?_
    refine f_bind (x := (bs (inner (infoK b) 5), ())) (by rw [nd_eta2]; exact hI b (by simp) 5 (by omega)) ?_
    refine (f_false (decide_eq_false (by simp only [ByteArray.size_append, size_mk, bs_sz, List.length_cons, List.length_nil, List.length_append]; omega))).trans ?_
    exact congrArg (fun z => some (z, ())) (by show (((bs (inner (infoK a) 5) ++ bs [32]) ++ bs [62, 61]) ++ bs [32]) ++ bs (inner (infoK b) 5) = _; simp only [bs_app]; rfl)
  · obtain ⟨a, b, rfl⟩ := kd2 (l := ks) (by rw [g3]; rfl)
    have la := K.inn (k := a) (by simp) 5
    have lb := K.inn (k := b) (by simp) 6
    refine f_bind (x := ((5 : Int), ())) (by rfl) ?_
    refine (f_false (by rfl)).trans ?_
    refine (f_false (by rfl)).trans ?_
    refine (f_false (by rfl)).trans ?_
    refine (f_false (by rfl)).trans ?_
    refine (f_false (by rfl)).trans ?_
    refine (f_true (by rfl)).trans ?_
    refine (f_false (by rfl)).trans ?_
    refine (f_true (by rfl)).trans ?_
    refine f_bind (x := a) (by rfl) ?_
    refine f_bind (x := (bs (inner (infoK a) 5), ())) (by rw [nd_eta2]; exact hI a (by simp) 5 (by omega)) ?_
    refine (f_false (decide_eq_false (by simp only [ByteArray.size_append, size_mk, bs_sz, List.length_cons, List.length_nil, List.length_append]; omega))).trans ?_
    refine (f_false (by rfl)).trans ?_
    refine (f_false (by rfl)).trans ?_
    refine (f_false (by rfl)).trans ?_
    refine (f_false (by rfl)).trans ?_
    refine (f_false (by rfl)).trans ?_
    refine (f_false (by rfl)).trans ?_
    refine (f_false (by rfl)).trans ?_
    refine (f_false (by rfl)).trans ?_
    refine (f_true (by rfl)).trans ?_
    refine (f_false (decide_eq_false (by simp only [ByteArray.size_append, size_mk, bs_sz, List.length_cons, List.length_nil, List.length_append]; omega))).trans ?_
    refine (f_false (decide_eq_false (by simp only [ByteArray.size_append, size_mk, bs_sz, List.length_cons, List.length_nil, List.length_append]; omega))).trans ?_
    refine (f_true (by rfl)).trans ?_
    refine f_bind (x := b) (by rfl) ?_
    refine f_bind (x := (bs (inner (infoK b) 6), ())) (by rw [nd_eta2]; exact hI b (by simp) 6 (by omega)) ?_
    refine (f_false (decide_eq_false (by simp only [ByteArray.size_append, size_mk, bs_sz, List.length_cons, List.length_nil, List.length_append]; omega))).trans ?_
    exact congrArg (fun z => some (z, ())) (by show (((bs (inner (infoK a) 5) ++ bs [32]) ++ bs [43]) ++ bs [32]) ++ bs (inner (infoK b) 6) = _; simp only [bs_app]; rfl)
  · obtain ⟨a, b, rfl⟩ := kd2 (l := ks) (by rw [g3]; rfl)
    have la := K.inn (k := a) (by simp) 5
    have lb := K.inn (k := b) (by simp) 6
    refine f_bind (x := ((5 : Int), ())) (by rfl) ?_
    refine (f_false (by rfl)).trans ?_
    refine (f_false (by rfl)).trans ?_
    refine (f_false (by rfl)).trans ?_
    refine (f_false (by rfl)).trans ?_
    refine (f_false (by rfl)).trans ?_
    refine (f_true (by rfl)).trans ?_
    refine (f_false (by rfl)).trans ?_
    refine (f_true (by rfl)).trans ?_
    refine f_bind (x := a) (by rfl) ?_
    refine f_bind (x := (bs (inner (infoK a) 5), ())) (by rw [nd_eta2]; exact hI a (by simp) 5 (by omega)) ?_
    refine (f_false (decide_eq_false (by simp only [ByteArray.size_append, size_mk, bs_sz, List.length_cons, List.length_nil, List.length_append]; omega))).trans ?_
    refine (f_false (by rfl)).trans ?_
    refine (f_false (by rfl)).trans ?_
    refine (f_false (by rfl)).trans ?_
    refine (f_false (by rfl)).trans ?_
    refine (f_false (by rfl)).trans ?_
    refine (f_false (by rfl)).trans ?_
    refine (f_false (by rfl)).trans ?_
    refine (f_false (by rfl)).trans ?_
    refine (f_false (by rfl)).trans ?_
    refine (f_true (by rfl)).trans ?_
    refine (f_false (decide_eq_false (by simp only [ByteArray.size_append, size_mk, bs_sz, List.length_cons, List.length_nil, List.length_append]; omega))).trans ?_
    refine (f_false (decide_eq_false (by simp only [ByteArray.size_append, size_mk, bs_sz, List.length_cons, List.length_nil, List.length_append]; omega))).trans ?_
    refine (f_true (by rfl)).trans ?_
    refine f_bind (x := b) (by rfl) ?_
    refine f_bind (x := (bs (inner (infoK b) 6), ())) (by rw [nd_eta2]; exact hI b (by simp) 6 (by omega)) ?_
    refine (f_false (decide_eq_false (by simp only [ByteArray.size_append, size_mk, bs_sz, List.length_cons, List.length_nil, List.length_append]; omega))).trans ?_
    exact congrArg (fun z => some (z, ())) (by show (((bs (inner (infoK a) 5) ++ bs [32]) ++ bs [45]) ++ bs [32]) ++ bs (inner (infoK b) 6) = _; simp only [bs_app]; rfl)
  · obtain ⟨a, b, rfl⟩ := kd2 (l := ks) (by rw [g3]; rfl)
    have la := K.inn (k := a) (by simp) 6
    have lb := K.inn (k := b) (by simp) 7
    refine f_bind (x := ((6 : Int), ())) (by rfl) ?_
    refine (f_false (by rfl)).trans ?_
    refine (f_false (by rfl)).trans ?_
    refine (f_false (by rfl)).trans ?_
    refine (f_false (by rfl)).trans ?_
    refine (f_false (by rfl)).trans ?_
    refine (f_true (by rfl)).trans ?_
    refine (f_false (by rfl)).trans ?_
    refine (f_true (by rfl)).trans ?_
    refine f_bind (x := a) (by rfl) ?_
    refine f_bind (x := (bs (inner (infoK a) 6), ())) (by rw [nd_eta2]; exact hI a (by simp) 6 (by omega)) ?_
    refine (f_false (decide_eq_false (by simp only [ByteArray.size_append, size_mk, bs_sz, List.length_cons, List.length_nil, List.length_append]; omega))).trans ?_
    refine (f_false (by rfl)).trans ?_
    refine (f_false (by rfl)).trans ?_
    refine (f_false (by rfl)).trans ?_
    refine (f_false (by rfl)).trans ?_
    refine (f_false (by rfl)).trans ?_
    refine (f_false (by rfl)).trans ?_
    refine (f_false (by rfl)).trans ?_
    refine (f_false (by rfl)).trans ?_
    refine (f_false (by rfl)).trans ?_
    refine (f_false (by rfl)).trans ?_
    refine (f_true (by rfl)).trans ?_
    refine (f_false (decide_eq_false (by simp only [ByteArray.size_append, size_mk, bs_sz, List.length_cons, List.length_nil, List.length_append]; omega))).trans ?_
    refine (f_false (decide_eq_false (by simp only [ByteArray.size_append, size_mk, bs_sz, List.length_cons, List.length_nil, List.length_append]; omega))).trans ?_
    refine (f_true (by rfl)).trans ?_
    refine f_bind (x := b) (by rfl) ?_
    refine f_bind (x := (bs (inner (infoK b) 7), ())) (by rw [nd_eta2]; exact hI b (by simp) 7 (by omega)) ?_
    refine (f_false (decide_eq_false (by simp only [ByteArray.size_append, size_mk, bs_sz, List.length_cons, List.length_nil, List.length_append]; omega))).trans ?_
    exact congrArg (fun z => some (z, ())) (by show (((bs (inner (infoK a) 6) ++ bs [32]) ++ bs [42]) ++ bs [32]) ++ bs (inner (infoK b) 7) = _; simp only [bs_app]; rfl)
  · obtain ⟨a, b, rfl⟩ := kd2 (l := ks) (by rw [g3]; rfl)
    have la := K.inn (k := a) (by simp) 6
    have lb := K.inn (k := b) (by simp) 7
    refine f_bind (x := ((6 : Int), ())) (by rfl) ?_
    refine (f_false (by rfl)).trans ?_
    refine (f_false (by rfl)).trans ?_
    refine (f_false (by rfl)).trans ?_
    refine (f_false (by rfl)).trans ?_
    refine (f_false (by rfl)).trans ?_
    refine (f_true (by rfl)).trans ?_
    refine (f_false (by rfl)).trans ?_
    refine (f_true (by rfl)).trans ?_
    refine f_bind (x := a) (by rfl) ?_
    refine f_bind (x := (bs (inner (infoK a) 6), ())) (by rw [nd_eta2]; exact hI a (by simp) 6 (by omega)) ?_
    refine (f_false (decide_eq_false (by simp only [ByteArray.size_append, size_mk, bs_sz, List.length_cons, List.length_nil, List.length_append]; omega))).trans ?_
    refine (f_false (by rfl)).trans ?_
    refine (f_false (by rfl)).trans ?_
    refine (f_false (by rfl)).trans ?_
    refine (f_false (by rfl)).trans ?_
    refine (f_false (by rfl)).trans ?_
    refine (f_false (by rfl)).trans ?_
    refine (f_false (by rfl)).trans ?_
    refine (f_false (by rfl)).trans ?_
    refine (f_false (by rfl)).trans ?_
    refine (f_false (by rfl)).trans ?_
    refine (f_false (by rfl)).trans ?_
    refine (f_true (by rfl)).trans ?_
    refine (f_false (decide_eq_false (by simp only [ByteArray.size_append, size_mk, bs_sz, List.length_cons, List.length_nil, List.length_append]; omega))).trans ?_
    refine (f_false (decide_eq_false (by simp only [ByteArray.size_append, size_mk, bs_sz, List.length_cons, List.length_nil, List.length_append]; omega))).trans ?_
    refine (f_true (by rfl)).trans ?_
    refine f_bind (x := b) (by rfl) ?_
    refine f_bind (x := (bs (inner (infoK b) 7), ())) (by rw [nd_eta2]; exact hI b (by simp) 7 (by omega)) ?_
    refine (f_false (decide_eq_false (by simp only [ByteArray.size_append, size_mk, bs_sz, List.length_cons, List.length_nil, List.length_append]; omega))).trans ?_
    exact congrArg (fun z => some (z, ())) (by show (((bs (inner (infoK a) 6) ++ bs [32]) ++ bs [47]) ++ bs [32]) ++ bs (inner (infoK b) 7) = _; simp only [bs_app]; rfl)
  · obtain ⟨a, b, rfl⟩ := kd2 (l := ks) (by rw [g3]; rfl)
    have la := K.inn (k := a) (by simp) 6
    have lb := K.inn (k := b) (by simp) 7
    refine f_bind (x := ((6 : Int), ())) (by rfl) ?_
    refine (f_false (by rfl)).trans ?_
    refine (f_false (by rfl)).trans ?_
    refine (f_false (by rfl)).trans ?_
    refine (f_false (by rfl)).trans ?_
    refine (f_false (by rfl)).trans ?_
    refine (f_true (by rfl)).trans ?_
    refine (f_false (by rfl)).trans ?_
    refine (f_true (by rfl)).trans ?_
    refine f_bind (x := a) (by rfl) ?_
    refine f_bind (x := (bs (inner (infoK a) 6), ())) (by rw [nd_eta2]; exact hI a (by simp) 6 (by omega)) ?_
    refine (f_false (decide_eq_false (by simp only [ByteArray.size_append, size_mk, bs_sz, List.length_cons, List.length_nil, List.length_append]; omega))).trans ?_
    refine (f_false (by rfl)).trans ?_
    refine (f_false (by rfl)).trans ?_
    refine (f_false (by rfl)).trans ?_
    refine (f_false (by rfl)).trans ?_
    refine (f_false (by rfl)).trans ?_
    refine (f_false (by rfl)).trans ?_
    refine (f_false (by rfl)).trans ?_
    refine (f_false (by rfl)).trans ?_
    refine (f_false (by rfl)).trans ?_
    refine (f_false (by rfl)).trans ?_
    refine (f_false (by rfl)).trans ?_
    refine (f_false (by rfl)).trans ?_
    refine (f_true (by rfl)).trans ?_
    refine (f_false (decide_eq_false (by simp only [ByteArray.size_append, size_mk, bs_sz, List.length_cons, List.length_nil, List.length_append]; omega))).trans ?_
    refine (f_false (decide_eq_false (by simp only [ByteArray.size_append, size_mk, bs_sz, List.length_cons, List.length_nil, List.length_append]; omega))).trans ?_
    refine (f_true (by rfl)).trans ?_
    refine f_bind (x := b) (by rfl) ?_
    refine f_bind (x := (bs (inner (infoK b) 7), ())) (by rw [nd_eta2]; exact hI b (by simp) 7 (by omega)) ?_
    refine (f_false (decide_eq_false (by simp only [ByteArray.size_append, size_mk, bs_sz, List.length_cons, List.length_nil, List.length_append]; omega))).trans ?_
    exact congrArg (fun z => some (z, ())) (by show (((bs (inner (infoK a) 6) ++ bs [32]) ++ bs [37]) ++ bs [32]) ++ bs (inner (infoK b) 7) = _; simp only [bs_app]; rfl)
  · obtain ⟨a, rfl⟩ := kd1 (l := ks) (by rw [g3]; rfl)
    have la := K.inn (k := a) (by simp) 7
    have lt := K.len a (by simp)
    refine f_bind (x := ((7 : Int), ())) (by rfl) ?_
    refine (f_false (by rfl)).trans ?_
    refine (f_false (by rfl)).trans ?_
    refine (f_false (by rfl)).trans ?_
    refine (f_false (by rfl)).trans ?_
    refine (f_true (by rfl)).trans ?_
    refine (f_true (by rfl)).trans ?_
    refine f_bind (x := a) (by rfl) ?_
    have hneg : some ((bs [45]) ++ bs (inner (infoK a) 7), ()) = some (bs ([45] ++ inner (infoK a) 7), ()) := by rw [bs_app]
    by_cases q0 : (Tree.val a).1 = 0
    · refine (f_true (decide_eq_true q0)).trans ?_
      by_cases q1 : (Tree.val a).2.1.1 = 1
      · refine (f_true (decide_eq_true q1)).trans ?_
        refine f_bind (x := (bs (txt a), ())) (by rw [nd_eta2]; exact hT a (by simp)) ?_
        refine (f_false (decide_eq_false (by simp only [ByteArray.size_append, size_mk, bs_sz, List.length_cons, List.length_nil, List.length_append]; omega))).trans ?_
        refine (f_false (decide_eq_false (by simp only [ByteArray.size_append, size_mk, bs_sz, List.length_cons, List.length_nil, List.length_append]; omega))).trans ?_
        have hi : isNumN (Tree.val a) = true := by unfold isNumN; rw [decide_eq_true q0, decide_eq_true q1]; rfl
        have e : txt1 (17, (v, (nm, ()))) (kidTs [a]) = [45, 40] ++ txt a ++ [41] := by
          show (if isNumN (Tree.val a) = true then [45, 40] ++ txt a ++ [41] else [45] ++ inner (infoK a) 7) = _
          rw [if_pos hi]
        rw [e]
        exact congrArg (fun z => some (z, ())) (by show (bs [45, 40] ++ bs (txt a)) ++ bs [41] = _; rw [bs_app, bs_app])
      · refine (f_false (decide_eq_false q1)).trans ?_
        have hi : ¬ isNumN (Tree.val a) = true := by unfold isNumN; rw [decide_eq_false q1]; simp
        have e : txt1 (17, (v, (nm, ()))) (kidTs [a]) = [45] ++ inner (infoK a) 7 := by
          show (if isNumN (Tree.val a) = true then [45, 40] ++ txt a ++ [41] else [45] ++ inner (infoK a) 7) = _
          rw [if_neg hi]
        rw [e]
        refine (f_true (by rfl)).trans ?_
        refine f_bind (x := a) (by rfl) ?_
        refine f_bind (x := (bs (inner (infoK a) 7), ())) (by rw [nd_eta2]; exact hI a (by simp) 7 (by omega)) ?_
        refine (f_false (decide_eq_false (by simp only [ByteArray.size_append, size_mk, bs_sz, List.length_cons, List.length_nil, List.length_append]; omega))).trans ?_
        exact hneg
    · refine (f_false (decide_eq_false q0)).trans ?_
      have hi : ¬ isNumN (Tree.val a) = true := by unfold isNumN; rw [decide_eq_false q0]; simp
      have e : txt1 (17, (v, (nm, ()))) (kidTs [a]) = [45] ++ inner (infoK a) 7 := by
        show (if isNumN (Tree.val a) = true then [45, 40] ++ txt a ++ [41] else [45] ++ inner (infoK a) 7) = _
        rw [if_neg hi]
      rw [e]
      refine (f_true (by rfl)).trans ?_
      refine f_bind (x := a) (by rfl) ?_
      refine f_bind (x := (bs (inner (infoK a) 7), ())) (by rw [nd_eta2]; exact hI a (by simp) 7 (by omega)) ?_
      refine (f_false (decide_eq_false (by simp only [ByteArray.size_append, size_mk, bs_sz, List.length_cons, List.length_nil, List.length_append]; omega))).trans ?_
      exact hneg
  · refine f_bind (x := ((9 : Int), ())) (by rfl) ?_
    refine (f_false (by rfl)).trans ?_
    refine (f_false (by rfl)).trans ?_
    refine (f_false (by rfl)).trans ?_
    refine (f_false (by rfl)).trans ?_
    refine (f_false (by rfl)).trans ?_
    refine (f_false (by rfl)).trans ?_
    have hj := kids_join ks K.ve K.sz
    refine f_bind (texts_loop (r29 n) ks hT K.n _ (by intros; rfl)) ?_
    rw [sumE_inl]
    refine (f_true (by rfl)).trans ?_
    refine f_bind (join_txt ks K.n hj) ?_
    refine (f_false (decide_eq_false (by simp only [ByteArray.size_append, size_mk, bs_sz, List.length_cons, List.length_nil, List.length_append]; omega))).trans ?_
    refine (f_false (decide_eq_false (by simp only [ByteArray.size_append, size_mk, bs_sz, List.length_cons, List.length_nil, List.length_append]; omega))).trans ?_
    have e : txt1 (18, (v, (nm, ()))) (kidTs ks) = fnT 18 ++ [40] ++ Lib.join (ks.map txt) [44, 32] ++ [41] := by rw [← kidTs_txt]; rfl
    rw [e]
    exact congrArg (fun z => some (z, ())) (by show ((bs (fnT 18) ++ bs [40]) ++ bs (Lib.join (ks.map txt) [44, 32])) ++ bs [41] = _; rw [bs_app, bs_app, bs_app])
  · refine f_bind (x := ((9 : Int), ())) (by rfl) ?_
    refine (f_false (by rfl)).trans ?_
    refine (f_false (by rfl)).trans ?_
    refine (f_false (by rfl)).trans ?_
    refine (f_false (by rfl)).trans ?_
    refine (f_false (by rfl)).trans ?_
    refine (f_false (by rfl)).trans ?_
    have hj := kids_join ks K.ve K.sz
    refine f_bind (texts_loop (r29 n) ks hT K.n _ (by intros; rfl)) ?_
    rw [sumE_inl]
    refine (f_false (by rfl)).trans ?_
    refine (f_true (by rfl)).trans ?_
    refine f_bind (join_txt ks K.n hj) ?_
    refine (f_false (decide_eq_false (by simp only [ByteArray.size_append, size_mk, bs_sz, List.length_cons, List.length_nil, List.length_append]; omega))).trans ?_
    refine (f_false (decide_eq_false (by simp only [ByteArray.size_append, size_mk, bs_sz, List.length_cons, List.length_nil, List.length_append]; omega))).trans ?_
    have e : txt1 (19, (v, (nm, ()))) (kidTs ks) = fnT 19 ++ [40] ++ Lib.join (ks.map txt) [44, 32] ++ [41] := by rw [← kidTs_txt]; rfl
    rw [e]
    exact congrArg (fun z => some (z, ())) (by show ((bs (fnT 19) ++ bs [40]) ++ bs (Lib.join (ks.map txt) [44, 32])) ++ bs [41] = _; rw [bs_app, bs_app, bs_app])
  · refine f_bind (x := ((9 : Int), ())) (by rfl) ?_
    refine (f_false (by rfl)).trans ?_
    refine (f_false (by rfl)).trans ?_
    refine (f_false (by rfl)).trans ?_
    refine (f_false (by rfl)).trans ?_
    refine (f_false (by rfl)).trans ?_
    refine (f_false (by rfl)).trans ?_
    have hj := kids_join ks K.ve K.sz
    refine f_bind (texts_loop (r29 n) ks hT K.n _ (by intros; rfl)) ?_
    rw [sumE_inl]
    refine (f_false (by rfl)).trans ?_
    refine (f_false (by rfl)).trans ?_
    refine (f_true (by rfl)).trans ?_
    refine f_bind (join_txt ks K.n hj) ?_
    refine (f_false (decide_eq_false (by simp only [ByteArray.size_append, size_mk, bs_sz, List.length_cons, List.length_nil, List.length_append]; omega))).trans ?_
    refine (f_false (decide_eq_false (by simp only [ByteArray.size_append, size_mk, bs_sz, List.length_cons, List.length_nil, List.length_append]; omega))).trans ?_
    have e : txt1 (20, (v, (nm, ()))) (kidTs ks) = fnT 20 ++ [40] ++ Lib.join (ks.map txt) [44, 32] ++ [41] := by rw [← kidTs_txt]; rfl
    rw [e]
    exact congrArg (fun z => some (z, ())) (by show ((bs (fnT 20) ++ bs [40]) ++ bs (Lib.join (ks.map txt) [44, 32])) ++ bs [41] = _; rw [bs_app, bs_app, bs_app])
  · refine f_bind (x := ((9 : Int), ())) (by rfl) ?_
    refine (f_false (by rfl)).trans ?_
    refine (f_false (by rfl)).trans ?_
    refine (f_false (by rfl)).trans ?_
    refine (f_false (by rfl)).trans ?_
    refine (f_false (by rfl)).trans ?_
    refine (f_false (by rfl)).trans ?_
    have hj := kids_join ks K.ve K.sz
    refine f_bind (texts_loop (r29 n) ks hT K.n _ (by intros; rfl)) ?_
    rw [sumE_inl]
    refine (f_false (by rfl)).trans ?_
    refine (f_false (by rfl)).trans ?_
    refine (f_false (by rfl)).trans ?_
    refine (f_true (by rfl)).trans ?_
    refine f_bind (join_txt ks K.n hj) ?_
    refine (f_false (decide_eq_false (by simp only [ByteArray.size_append, size_mk, bs_sz, List.length_cons, List.length_nil, List.length_append]; omega))).trans ?_
    refine (f_false (decide_eq_false (by simp only [ByteArray.size_append, size_mk, bs_sz, List.length_cons, List.length_nil, List.length_append]; omega))).trans ?_
    have e : txt1 (21, (v, (nm, ()))) (kidTs ks) = fnT 21 ++ [40] ++ Lib.join (ks.map txt) [44, 32] ++ [41] := by rw [← kidTs_txt]; rfl
    rw [e]
    exact congrArg (fun z => some (z, ())) (by show ((bs (fnT 21) ++ bs [40]) ++ bs (Lib.join (ks.map txt) [44, 32])) ++ bs [41] = _; rw [bs_app, bs_app, bs_app])
set_option maxHeartbeats 8000000 in
theorem printed_node (n : Nat) (v : DVal) (nm : ByteArray) (ks : List DExp) (op : Int) (h1 : oneE (op, (v, (nm, ()))) ks.length = 0) (K : KidsOk (r10 n) (r30 n) ks) : r10 (n + 1) (.node (op, (v, (nm, ()))) ks, ()) = some (bs (txt1 (op, (v, (nm, ()))) (kidTs ks)), ()) := by
  obtain ⟨g1, g2, g3⟩ := oneE_kids h1
  obtain ⟨b1, b2, b3⟩ := node_bnd h1
  simp only at g1 g2 g3 b1 b2 b3
  have hI := K.i
  have hT := K.t
  rw [r10_succ]
  unfold r10B
  have hop : op = 0 ∨ op = 1 ∨ op = 2 ∨ op = 3 ∨ op = 4 ∨ op = 5 ∨ op = 6 ∨ op = 7 ∨ op = 8 ∨ op = 9 ∨ op = 10 ∨ op = 11 ∨ op = 12 ∨ op = 13 ∨ op = 14 ∨ op = 15 ∨ op = 16 ∨ op = 17 ∨ op = 18 ∨ op = 19 ∨ op = 20 ∨ op = 21 := by omega
  rcases hop with rfl | rfl | rfl | rfl | rfl | rfl | rfl | rfl | rfl | rfl | rfl | rfl | rfl | rfl | rfl | rfl | rfl | rfl | rfl | rfl | rfl | rfl
  · refine f_bind (x := ((9 : Int), ())) (by rfl) ?_
    refine (f_true (by rfl)).trans ?_
    have hs := shown_eq v b1 b2
    refine f_bind hs ?_
    rfl
  · refine f_bind (x := ((9 : Int), ())) (by rfl) ?_
    refine (f_false (by rfl)).trans ?_
    refine (f_true (by rfl)).trans ?_
    rfl
  · refine f_bind (x := ((9 : Int), ())) (by rfl) ?_
    refine (f_false (by rfl)).trans ?_
    refine (f_false (by rfl)).trans ?_
    refine (f_true (by rfl)).trans ?_
    refine (f_false (decide_eq_false (by simp only [size_mk, List.length_cons, List.length_nil]; show ¬ 9223372036854775807 < 0 + 1 + nm.size; omega))).trans ?_
    exact congrArg (fun z => some (z, ())) (by show bs [46] ++ bs (ofS nm) = _; rw [bs_app]; rfl)
  · obtain ⟨a, b, rfl⟩ := kd2 (l := ks) (by rw [g3]; rfl)
    have la := K.inn (k := a) (by simp) 1
    have lb := K.inn (k := b) (by simp) 2
    refine f_bind (x := ((1 : Int), ())) (by rfl) ?_
    refine (f_false (by rfl)).trans ?_
    refine (f_false (by rfl)).trans ?_
    refine (f_false (by rfl)).trans ?_
    refine (f_false (by rfl)).trans ?_
    refine (f_false (by rfl)).trans ?_
    refine (f_false (by rfl)).trans ?_
    refine (f_false (by rfl)).trans ?_
    refine (f_false (by rfl)).trans ?_
    refine (f_true (by rfl)).trans ?_
    refine f_bind (x := a) (by rfl) ?_
    refine f_bind (x := (bs (inner (infoK a) 1), ())) (by rw [nd_eta2]; exact hI a (by simp) 1 (by omega)) ?_
    refine (f_false (decide_eq_false (by simp only [ByteArray.size_append, size_mk, bs_sz, List.length_cons, List.length_nil, List.length_append]; omega))).trans ?_
    refine f_bind (x := (marksL, ())) (by rfl) ?_
    refine (f_true (by rfl)).trans ?_
    refine f_bind (x := bs [111, 114]) (by rfl) ?_
    refine (f_false (decide_eq_false (by simp only [ByteArray.size_append, size_mk, bs_sz, List.length_cons, List.length_nil, List.length_append]; omega))).trans ?_
    refine (f_false (decide_eq_false (by simp only [ByteArray.size_append, size_mk, bs_sz, List.length_cons, List.length_nil, List.length_append]; omega))).trans ?_
    refine (f_true (by rfl)).trans ?_
    refine f_bind (x := b) (by rfl) ?_
    refine f_bind (x := (bs (inner (infoK b) 2), ())) (by rw [nd_eta2]; exact hI b (by simp) 2 (by omega)) ?_
    refine (f_false (decide_eq_false (by simp only [ByteArray.size_append, size_mk, bs_sz, List.length_cons, List.length_nil, List.length_append]; omega))).trans ?_
    exact congrArg (fun z => some (z, ())) (by show (((bs (inner (infoK a) 1) ++ bs [32]) ++ bs [111, 114]) ++ bs [32]) ++ bs (inner (infoK b) 2) = _; simp only [bs_app]; rfl)
  · obtain ⟨a, b, rfl⟩ := kd2 (l := ks) (by rw [g3]; rfl)
    have la := K.inn (k := a) (by simp) 2
    have lb := K.inn (k := b) (by simp) 3
    refine f_bind (x := ((2 : Int), ())) (by rfl) ?_
    refine (f_false (by rfl)).trans ?_
    refine (f_false (by rfl)).trans ?_
    refine (f_false (by rfl)).trans ?_
    refine (f_false (by rfl)).trans ?_
    refine (f_false (by rfl)).trans ?_
    refine (f_false (by rfl)).trans ?_
    refine (f_false (by rfl)).trans ?_
    refine (f_false (by rfl)).trans ?_
    refine (f_true (by rfl)).trans ?_
    refine f_bind (x := a) (by rfl) ?_
    refine f_bind (x := (bs (inner (infoK a) 2), ())) (by rw [nd_eta2]; exact hI a (by simp) 2 (by omega)) ?_
    refine (f_false (decide_eq_false (by simp only [ByteArray.size_append, size_mk, bs_sz, List.length_cons, List.length_nil, List.length_append]; omega))).trans ?_
    refine f_bind (x := (marksL, ())) (by rfl) ?_
    refine (f_true (by rfl)).trans ?_
    refine f_bind (x := bs [97, 110, 100]) (by rfl) ?_
    refine (f_false (decide_eq_false (by simp only [ByteArray.size_append, size_mk, bs_sz, List.length_cons, List.length_nil, List.length_append]; omega))).trans ?_
    refine (f_false (decide_eq_false (by simp only [ByteArray.size_append, size_mk, bs_sz, List.length_cons, List.length_nil, List.length_append]; omega))).trans ?_
    refine (f_true (by rfl)).trans ?_
    refine f_bind (x := b) (by rfl) ?_
    refine f_bind (x := (bs (inner (infoK b) 3), ())) (by rw [nd_eta2]; exact hI b (by simp) 3 (by omega)) ?_
    refine (f_false (decide_eq_false (by simp only [ByteArray.size_append, size_mk, bs_sz, List.length_cons, List.length_nil, List.length_append]; omega))).trans ?_
    exact congrArg (fun z => some (z, ())) (by show (((bs (inner (infoK a) 2) ++ bs [32]) ++ bs [97, 110, 100]) ++ bs [32]) ++ bs (inner (infoK b) 3) = _; simp only [bs_app]; rfl)
  · obtain ⟨a, rfl⟩ := kd1 (l := ks) (by rw [g3]; rfl)
    have la := K.inn (k := a) (by simp) 3
    refine f_bind (x := ((3 : Int), ())) (by rfl) ?_
    refine (f_false (by rfl)).trans ?_
    refine (f_false (by rfl)).trans ?_
    refine (f_false (by rfl)).trans ?_
    refine (f_true (by rfl)).trans ?_
    refine (f_true (by rfl)).trans ?_
    refine f_bind (x := a) (by rfl) ?_
    refine f_bind (x := (bs (inner (infoK a) 3), ())) (by rw [nd_eta2]; exact hI a (by simp) 3 (by omega)) ?_
    refine (f_false (decide_eq_false (by simp only [ByteArray.size_append, size_mk, bs_sz, List.length_cons, List.length_nil, List.length_append]; omega))).trans ?_
    exact congrArg (fun z => some (z, ())) (by show bs [110, 111, 116, 32] ++ bs (inner (infoK a) 3) = _; rw [bs_app]; rfl)
  · obtain ⟨a, b, rfl⟩ := kd2 (l := ks) (by rw [g3]; rfl)
    have la := K.inn (k := a) (by simp) 5
    have lb := K.inn (k := b) (by simp) 5
    refine f_bind (x := ((4 : Int), ())) (by rfl) ?_
    refine (f_false (by rfl)).trans ?_
    refine (f_false (by rfl)).trans ?_
    refine (f_false (by rfl)).trans ?_
    refine (f_false (by rfl)).trans ?_
    refine (f_false (by rfl)).trans ?_
    refine (f_false (by rfl)).trans ?_
    refine (f_false (by rfl)).trans ?_
    refine (f_true (by rfl)).trans ?_
    refine (f_true (by rfl)).trans ?_
    refine f_bind (x := a) (by rfl) ?_
    refine f_bind (x := (bs (inner (infoK a) 5), ())) (by rw [nd_eta2]; exact hI a (by simp) 5 (by omega)) ?_
    refine (f_false (decide_eq_false (by simp only [ByteArray.size_append, size_mk, bs_sz, List.length_cons, List.length_nil, List.length_append]; omega))).trans ?_
    refine f_bind (x := (marksL, ())) (by rfl) ?_
    refine (f_true (by rfl)).trans ?_
    refine f_bind (x := bs [61]) (by rfl) ?_
    refine (f_false (decide_eq_false (by simp only [ByteArray.size_append, size_mk, bs_sz, List.length_cons, List.length_nil, List.length_append]; omega))).trans ?_
    refine (f_false (decide_eq_false (by simp only [ByteArray.size_append, size_mk, bs_sz, List.length_cons, List.length_nil, List.length_append]; omega))).trans ?_
    refine (f_true (by rfl)).trans ?_
    refine f_bind (x := b) (by rfl) ?_
    refine f_bind (x := (bs (inner (infoK b) 5), ())) (by rw [nd_eta2]; exact hI b (by simp) 5 (by omega)) ?_
    refine (f_false (decide_eq_false (by simp only [ByteArray.size_append, size_mk, bs_sz, List.length_cons, List.length_nil, List.length_append]; omega))).trans ?_
    exact congrArg (fun z => some (z, ())) (by show (((bs (inner (infoK a) 5) ++ bs [32]) ++ bs [61]) ++ bs [32]) ++ bs (inner (infoK b) 5) = _; simp only [bs_app]; rfl)
  · obtain ⟨a, b, rfl⟩ := kd2 (l := ks) (by rw [g3]; rfl)
    have la := K.inn (k := a) (by simp) 5
    have lb := K.inn (k := b) (by simp) 5
    refine f_bind (x := ((4 : Int), ())) (by rfl) ?_
    refine (f_false (by rfl)).trans ?_
    refine (f_false (by rfl)).trans ?_
    refine (f_false (by rfl)).trans ?_
    refine (f_false (by rfl)).trans ?_
    refine (f_false (by rfl)).trans ?_
    refine (f_false (by rfl)).trans ?_
    refine (f_false (by rfl)).trans ?_
    refine (f_true (by rfl)).trans ?_
    refine (f_true (by rfl)).trans ?_
    refine f_bind (x := a) (by rfl) ?_
    refine f_bind (x := (bs (inner (infoK a) 5), ())) (by rw [nd_eta2]; exact hI a (by simp) 5 (by omega)) ?_
    refine (f_false (decide_eq_false (by simp only [ByteArray.size_append, size_mk, bs_sz, List.length_cons, List.length_nil, List.length_append]; omega))).trans ?_
    refine f_bind (x := (marksL, ())) (by rfl) ?_
    refine (f_true (by rfl)).trans ?_
    refine f_bind (x := bs [33, 61]) (by rfl) ?_
    refine (f_false (decide_eq_false (by simp only [ByteArray.size_append, size_mk, bs_sz, List.length_cons, List.length_nil, List.length_append]; omega))).trans ?_
    refine (f_false (decide_eq_false (by simp only [ByteArray.size_append, size_mk, bs_sz, List.length_cons, List.length_nil, List.length_append]; omega))).trans ?_
    refine (f_true (by rfl)).trans ?_
    refine f_bind (x := b) (by rfl) ?_
    refine f_bind (x := (bs (inner (infoK b) 5), ())) (by rw [nd_eta2]; exact hI b (by simp) 5 (by omega)) ?_
    refine (f_false (decide_eq_false (by simp only [ByteArray.size_append, size_mk, bs_sz, List.length_cons, List.length_nil, List.length_append]; omega))).trans ?_
    exact congrArg (fun z => some (z, ())) (by show (((bs (inner (infoK a) 5) ++ bs [32]) ++ bs [33, 61]) ++ bs [32]) ++ bs (inner (infoK b) 5) = _; simp only [bs_app]; rfl)
  · obtain ⟨a, b, rfl⟩ := kd2 (l := ks) (by rw [g3]; rfl)
    have la := K.inn (k := a) (by simp) 5
    have lb := K.inn (k := b) (by simp) 5
    refine f_bind (x := ((4 : Int), ())) (by rfl) ?_
    refine (f_false (by rfl)).trans ?_
    refine (f_false (by rfl)).trans ?_
    refine (f_false (by rfl)).trans ?_
    refine (f_false (by rfl)).trans ?_
    refine (f_false (by rfl)).trans ?_
    refine (f_false (by rfl)).trans ?_
    refine (f_false (by rfl)).trans ?_
    refine (f_true (by rfl)).trans ?_
    refine (f_true (by rfl)).trans ?_
    refine f_bind (x := a) (by rfl) ?_
    refine f_bind (x := (bs (inner (infoK a) 5), ())) (by rw [nd_eta2]; exact hI a (by simp) 5 (by omega)) ?_
    refine (f_false (decide_eq_false (by simp only [ByteArray.size_append, size_mk, bs_sz, List.length_cons, List.length_nil, List.length_append]; omega))).trans ?_
    refine f_bind (x := (marksL, ())) (by rfl) ?_
    refine (f_true (by rfl)).trans ?_
    refine f_bind (x := bs [60]) (by rfl) ?_
    refine (f_false (decide_eq_false (by simp only [ByteArray.size_append, size_mk, bs_sz, List.length_cons, List.length_nil, List.length_append]; omega))).trans ?_
    refine (f_false (decide_eq_false (by simp only [ByteArray.size_append, size_mk, bs_sz, List.length_cons, List.length_nil, List.length_append]; omega))).trans ?_
    refine (f_true (by rfl)).trans ?_
    refine f_bind (x := b) (by rfl) ?_
    refine f_bind (x := (bs (inner (infoK b) 5), ())) (by rw [nd_eta2]; exact hI b (by simp) 5 (by omega)) ?_
    refine (f_false (decide_eq_false (by simp only [ByteArray.size_append, size_mk, bs_sz, List.length_cons, List.length_nil, List.length_append]; omega))).trans ?_
    exact congrArg (fun z => some (z, ())) (by show (((bs (inner (infoK a) 5) ++ bs [32]) ++ bs [60]) ++ bs [32]) ++ bs (inner (infoK b) 5) = _; simp only [bs_app]; rfl)
  · obtain ⟨a, b, rfl⟩ := kd2 (l := ks) (by rw [g3]; rfl)
    have la := K.inn (k := a) (by simp) 5
    have lb := K.inn (k := b) (by simp) 5
    refine f_bind (x := ((4 : Int), ())) (by rfl) ?_
    refine (f_false (by rfl)).trans ?_
    refine (f_false (by rfl)).trans ?_
    refine (f_false (by rfl)).trans ?_
    refine (f_false (by rfl)).trans ?_
    refine (f_false (by rfl)).trans ?_
    refine (f_false (by rfl)).trans ?_
    refine (f_false (by rfl)).trans ?_
    refine (f_true (by rfl)).trans ?_
    refine (f_true (by rfl)).trans ?_
    refine f_bind (x := a) (by rfl) ?_
    refine f_bind (x := (bs (inner (infoK a) 5), ())) (by rw [nd_eta2]; exact hI a (by simp) 5 (by omega)) ?_
    refine (f_false (decide_eq_false (by simp only [ByteArray.size_append, size_mk, bs_sz, List.length_cons, List.length_nil, List.length_append]; omega))).trans ?_
    refine f_bind (x := (marksL, ())) (by rfl) ?_
    refine (f_true (by rfl)).trans ?_
    refine f_bind (x := bs [60, 61]) (by rfl) ?_
    refine (f_false (decide_eq_false (by simp only [ByteArray.size_append, size_mk, bs_sz, List.length_cons, List.length_nil, List.length_append]; omega))).trans ?_
    refine (f_false (decide_eq_false (by simp only [ByteArray.size_append, size_mk, bs_sz, List.length_cons, List.length_nil, List.length_append]; omega))).trans ?_
    refine (f_true (by rfl)).trans ?_
    refine f_bind (x := b) (by rfl) ?_
    refine f_bind (x := (bs (inner (infoK b) 5), ())) (by rw [nd_eta2]; exact hI b (by simp) 5 (by omega)) ?_
    refine (f_false (decide_eq_false (by simp only [ByteArray.size_append, size_mk, bs_sz, List.length_cons, List.length_nil, List.length_append]; omega))).trans ?_
    exact congrArg (fun z => some (z, ())) (by show (((bs (inner (infoK a) 5) ++ bs [32]) ++ bs [60, 61]) ++ bs [32]) ++ bs (inner (infoK b) 5) = _; simp only [bs_app]; rfl)
  · obtain ⟨a, b, rfl⟩ := kd2 (l := ks) (by rw [g3]; rfl)
    have la := K.inn (k := a) (by simp) 5
    have lb := K.inn (k := b) (by simp) 5
    refine f_bind (x := ((4 : Int), ())) (by rfl) ?_
    refine (f_false (by rfl)).trans ?_
    refine (f_false (by rfl)).trans ?_
    refine (f_false (by rfl)).trans ?_
    refine (f_false (by rfl)).trans ?_
    refine (f_false (by rfl)).trans ?_
    refine (f_false (by rfl)).trans ?_
    refine (f_false (by rfl)).trans ?_
    refine (f_true (by rfl)).trans ?_
    refine (f_true (by rfl)).trans ?_
    refine f_bind (x := a) (by rfl) ?_
    refine f_bind (x := (bs (inner (infoK a) 5), ())) (by rw [nd_eta2]; exact hI a (by simp) 5 (by omega)) ?_
    refine (f_false (decide_eq_false (by simp only [ByteArray.size_append, size_mk, bs_sz, List.length_cons, List.length_nil, List.length_append]; omega))).trans ?_
    refine f_bind (x := (marksL, ())) (by rfl) ?_
    refine (f_true (by rfl)).trans ?_
    refine f_bind (x := bs [62]) (by rfl) ?_
    refine (f_false (decide_eq_false (by simp only [ByteArray.size_append, size_mk, bs_sz, List.length_cons, List.length_nil, List.length_append]; omega))).trans ?_
    refine (f_false (decide_eq_false (by simp only [ByteArray.size_append, size_mk, bs_sz, List.length_cons, List.length_nil, List.length_append]; omega))).trans ?_
    refine (f_true (by rfl)).trans ?_
    refine f_bind (x := b) (by rfl) ?_
    refine f_bind (x := (bs (inner (infoK b) 5), ())) (by rw [nd_eta2]; exact hI b (by simp) 5 (by omega)) ?_
    refine (f_false (decide_eq_false (by simp only [ByteArray.size_append, size_mk, bs_sz, List.length_cons, List.length_nil, List.length_append]; omega))).trans ?_
    exact congrArg (fun z => some (z, ())) (by show (((bs (inner (infoK a) 5) ++ bs [32]) ++ bs [62]) ++ bs [32]) ++ bs (inner (infoK b) 5) = _; simp only [bs_app]; rfl)
  · obtain ⟨a, b, rfl⟩ := kd2 (l := ks) (by rw [g3]; rfl)
    have la := K.inn (k := a) (by simp) 5
    have lb := K.inn (k := b) (by simp) 5
    refine f_bind (x := ((4 : Int), ())) (by rfl) ?_
    refine (f_false (by rfl)).trans ?_
    refine (f_false (by rfl)).trans ?_
    refine (f_false (by rfl)).trans ?_
    refine (f_false (by rfl)).trans ?_
    refine (f_false (by rfl)).trans ?_
    refine (f_false (by rfl)).trans ?_
    refine (f_false (by rfl)).trans ?_
    refine (f_true (by rfl)).trans ?_
    refine (f_true (by rfl)).trans ?_
    refine f_bind (x := a) (by rfl) ?_
    refine f_bind (x := (bs (inner (infoK a) 5), ())) (by rw [nd_eta2]; exact hI a (by simp) 5 (by omega)) ?_
    refine (f_false (decide_eq_false (by simp only [ByteArray.size_append, size_mk, bs_sz, List.length_cons, List.length_nil, List.length_append]; omega))).trans ?_
    refine f_bind (x := (marksL, ())) (by rfl) ?_
    refine (f_true (by rfl)).trans ?_
    refine f_bind (x := bs [62, 61]) (by rfl) ?_
    refine (f_false (decide_eq_false (by simp only [ByteArray.size_append, size_mk, bs_sz, List.length_cons, List.length_nil, List.length_append]; omega))).trans ?_
    refine (f_false (decide_eq_false (by simp only [ByteArray.size_append, size_mk, bs_sz, List.length_cons, List.length_nil, List.length_append]; omega))).trans ?_
    refine (f_true (by rfl)).trans ?_
    refine f_bind (x := b) (by rfl) ?_
    refine f_bind (x := (bs (inner (infoK b) 5), ())) (by rw [nd_eta2]; exact hI b (by simp) 5 (by omega)) ?_
    refine (f_false (decide_eq_false (by simp only [ByteArray.size_append, size_mk, bs_sz, List.length_cons, List.length_nil, List.length_append]; omega))).trans ?_
    exact congrArg (fun z => some (z, ())) (by show (((bs (inner (infoK a) 5) ++ bs [32]) ++ bs [62, 61]) ++ bs [32]) ++ bs (inner (infoK b) 5) = _; simp only [bs_app]; rfl)
  · obtain ⟨a, b, rfl⟩ := kd2 (l := ks) (by rw [g3]; rfl)
    have la := K.inn (k := a) (by simp) 5
    have lb := K.inn (k := b) (by simp) 6
    refine f_bind (x := ((5 : Int), ())) (by rfl) ?_
    refine (f_false (by rfl)).trans ?_
    refine (f_false (by rfl)).trans ?_
    refine (f_false (by rfl)).trans ?_
    refine (f_false (by rfl)).trans ?_
    refine (f_false (by rfl)).trans ?_
    refine (f_false (by rfl)).trans ?_
    refine (f_false (by rfl)).trans ?_
    refine (f_false (by rfl)).trans ?_
    refine (f_true (by rfl)).trans ?_
    refine f_bind (x := a) (by rfl) ?_
    refine f_bind (x := (bs (inner (infoK a) 5), ())) (by rw [nd_eta2]; exact hI a (by simp) 5 (by omega)) ?_
    refine (f_false (decide_eq_false (by simp only [ByteArray.size_append, size_mk, bs_sz, List.length_cons, List.length_nil, List.length_append]; omega))).trans ?_
    refine f_bind (x := (marksL, ())) (by rfl) ?_
    refine (f_true (by rfl)).trans ?_
    refine f_bind (x := bs [43]) (by rfl) ?_
    refine (f_false (decide_eq_false (by simp only [ByteArray.size_append, size_mk, bs_sz, List.length_cons, List.length_nil, List.length_append]; omega))).trans ?_
    refine (f_false (decide_eq_false (by simp only [ByteArray.size_append, size_mk, bs_sz, List.length_cons, List.length_nil, List.length_append]; omega))).trans ?_
    refine (f_true (by rfl)).trans ?_
    refine f_bind (x := b) (by rfl) ?_
    refine f_bind (x := (bs (inner (infoK b) 6), ())) (by rw [nd_eta2]; exact hI b (by simp) 6 (by omega)) ?_
    refine (f_false (decide_eq_false (by simp only [ByteArray.size_append, size_mk, bs_sz, List.length_cons, List.length_nil, List.length_append]; omega))).trans ?_
    exact congrArg (fun z => some (z, ())) (by show (((bs (inner (infoK a) 5) ++ bs [32]) ++ bs [43]) ++ bs [32]) ++ bs (inner (infoK b) 6) = _; simp only [bs_app]; rfl)
  · obtain ⟨a, b, rfl⟩ := kd2 (l := ks) (by rw [g3]; rfl)
    have la := K.inn (k := a) (by simp) 5
    have lb := K.inn (k := b) (by simp) 6
    refine f_bind (x := ((5 : Int), ())) (by rfl) ?_
    refine (f_false (by rfl)).trans ?_
    refine (f_false (by rfl)).trans ?_
    refine (f_false (by rfl)).trans ?_
    refine (f_false (by rfl)).trans ?_
    refine (f_false (by rfl)).trans ?_
    refine (f_false (by rfl)).trans ?_
    refine (f_false (by rfl)).trans ?_
    refine (f_false (by rfl)).trans ?_
    refine (f_true (by rfl)).trans ?_
    refine f_bind (x := a) (by rfl) ?_
    refine f_bind (x := (bs (inner (infoK a) 5), ())) (by rw [nd_eta2]; exact hI a (by simp) 5 (by omega)) ?_
    refine (f_false (decide_eq_false (by simp only [ByteArray.size_append, size_mk, bs_sz, List.length_cons, List.length_nil, List.length_append]; omega))).trans ?_
    refine f_bind (x := (marksL, ())) (by rfl) ?_
    refine (f_true (by rfl)).trans ?_
    refine f_bind (x := bs [45]) (by rfl) ?_
    refine (f_false (decide_eq_false (by simp only [ByteArray.size_append, size_mk, bs_sz, List.length_cons, List.length_nil, List.length_append]; omega))).trans ?_
    refine (f_false (decide_eq_false (by simp only [ByteArray.size_append, size_mk, bs_sz, List.length_cons, List.length_nil, List.length_append]; omega))).trans ?_
    refine (f_true (by rfl)).trans ?_
    refine f_bind (x := b) (by rfl) ?_
    refine f_bind (x := (bs (inner (infoK b) 6), ())) (by rw [nd_eta2]; exact hI b (by simp) 6 (by omega)) ?_
    refine (f_false (decide_eq_false (by simp only [ByteArray.size_append, size_mk, bs_sz, List.length_cons, List.length_nil, List.length_append]; omega))).trans ?_
    exact congrArg (fun z => some (z, ())) (by show (((bs (inner (infoK a) 5) ++ bs [32]) ++ bs [45]) ++ bs [32]) ++ bs (inner (infoK b) 6) = _; simp only [bs_app]; rfl)
  · obtain ⟨a, b, rfl⟩ := kd2 (l := ks) (by rw [g3]; rfl)
    have la := K.inn (k := a) (by simp) 6
    have lb := K.inn (k := b) (by simp) 7
    refine f_bind (x := ((6 : Int), ())) (by rfl) ?_
    refine (f_false (by rfl)).trans ?_
    refine (f_false (by rfl)).trans ?_
    refine (f_false (by rfl)).trans ?_
    refine (f_false (by rfl)).trans ?_
    refine (f_false (by rfl)).trans ?_
    refine (f_false (by rfl)).trans ?_
    refine (f_false (by rfl)).trans ?_
    refine (f_false (by rfl)).trans ?_
    refine (f_true (by rfl)).trans ?_
    refine f_bind (x := a) (by rfl) ?_
    refine f_bind (x := (bs (inner (infoK a) 6), ())) (by rw [nd_eta2]; exact hI a (by simp) 6 (by omega)) ?_
    refine (f_false (decide_eq_false (by simp only [ByteArray.size_append, size_mk, bs_sz, List.length_cons, List.length_nil, List.length_append]; omega))).trans ?_
    refine f_bind (x := (marksL, ())) (by rfl) ?_
    refine (f_true (by rfl)).trans ?_
    refine f_bind (x := bs [42]) (by rfl) ?_
    refine (f_false (decide_eq_false (by simp only [ByteArray.size_append, size_mk, bs_sz, List.length_cons, List.length_nil, List.length_append]; omega))).trans ?_
    refine (f_false (decide_eq_false (by simp only [ByteArray.size_append, size_mk, bs_sz, List.length_cons, List.length_nil, List.length_append]; omega))).trans ?_
    refine (f_true (by rfl)).trans ?_
    refine f_bind (x := b) (by rfl) ?_
    refine f_bind (x := (bs (inner (infoK b) 7), ())) (by rw [nd_eta2]; exact hI b (by simp) 7 (by omega)) ?_
    refine (f_false (decide_eq_false (by simp only [ByteArray.size_append, size_mk, bs_sz, List.length_cons, List.length_nil, List.length_append]; omega))).trans ?_
    exact congrArg (fun z => some (z, ())) (by show (((bs (inner (infoK a) 6) ++ bs [32]) ++ bs [42]) ++ bs [32]) ++ bs (inner (infoK b) 7) = _; simp only [bs_app]; rfl)
  · obtain ⟨a, b, rfl⟩ := kd2 (l := ks) (by rw [g3]; rfl)
    have la := K.inn (k := a) (by simp) 6
    have lb := K.inn (k := b) (by simp) 7
    refine f_bind (x := ((6 : Int), ())) (by rfl) ?_
    refine (f_false (by rfl)).trans ?_
    refine (f_false (by rfl)).trans ?_
    refine (f_false (by rfl)).trans ?_
    refine (f_false (by rfl)).trans ?_
    refine (f_false (by rfl)).trans ?_
    refine (f_false (by rfl)).trans ?_
    refine (f_false (by rfl)).trans ?_
    refine (f_false (by rfl)).trans ?_
    refine (f_true (by rfl)).trans ?_
    refine f_bind (x := a) (by rfl) ?_
    refine f_bind (x := (bs (inner (infoK a) 6), ())) (by rw [nd_eta2]; exact hI a (by simp) 6 (by omega)) ?_
    refine (f_false (decide_eq_false (by simp only [ByteArray.size_append, size_mk, bs_sz, List.length_cons, List.length_nil, List.length_append]; omega))).trans ?_
    refine f_bind (x := (marksL, ())) (by rfl) ?_
    refine (f_true (by rfl)).trans ?_
    refine f_bind (x := bs [47]) (by rfl) ?_
    refine (f_false (decide_eq_false (by simp only [ByteArray.size_append, size_mk, bs_sz, List.length_cons, List.length_nil, List.length_append]; omega))).trans ?_
    refine (f_false (decide_eq_false (by simp only [ByteArray.size_append, size_mk, bs_sz, List.length_cons, List.length_nil, List.length_append]; omega))).trans ?_
    refine (f_true (by rfl)).trans ?_
    refine f_bind (x := b) (by rfl) ?_
    refine f_bind (x := (bs (inner (infoK b) 7), ())) (by rw [nd_eta2]; exact hI b (by simp) 7 (by omega)) ?_
    refine (f_false (decide_eq_false (by simp only [ByteArray.size_append, size_mk, bs_sz, List.length_cons, List.length_nil, List.length_append]; omega))).trans ?_
    exact congrArg (fun z => some (z, ())) (by show (((bs (inner (infoK a) 6) ++ bs [32]) ++ bs [47]) ++ bs [32]) ++ bs (inner (infoK b) 7) = _; simp only [bs_app]; rfl)
  · obtain ⟨a, b, rfl⟩ := kd2 (l := ks) (by rw [g3]; rfl)
    have la := K.inn (k := a) (by simp) 6
    have lb := K.inn (k := b) (by simp) 7
    refine f_bind (x := ((6 : Int), ())) (by rfl) ?_
    refine (f_false (by rfl)).trans ?_
    refine (f_false (by rfl)).trans ?_
    refine (f_false (by rfl)).trans ?_
    refine (f_false (by rfl)).trans ?_
    refine (f_false (by rfl)).trans ?_
    refine (f_false (by rfl)).trans ?_
    refine (f_false (by rfl)).trans ?_
    refine (f_false (by rfl)).trans ?_
    refine (f_true (by rfl)).trans ?_
    refine f_bind (x := a) (by rfl) ?_
    refine f_bind (x := (bs (inner (infoK a) 6), ())) (by rw [nd_eta2]; exact hI a (by simp) 6 (by omega)) ?_
    refine (f_false (decide_eq_false (by simp only [ByteArray.size_append, size_mk, bs_sz, List.length_cons, List.length_nil, List.length_append]; omega))).trans ?_
    refine f_bind (x := (marksL, ())) (by rfl) ?_
    refine (f_true (by rfl)).trans ?_
    refine f_bind (x := bs [37]) (by rfl) ?_
    refine (f_false (decide_eq_false (by simp only [ByteArray.size_append, size_mk, bs_sz, List.length_cons, List.length_nil, List.length_append]; omega))).trans ?_
    refine (f_false (decide_eq_false (by simp only [ByteArray.size_append, size_mk, bs_sz, List.length_cons, List.length_nil, List.length_append]; omega))).trans ?_
    refine (f_true (by rfl)).trans ?_
    refine f_bind (x := b) (by rfl) ?_
    refine f_bind (x := (bs (inner (infoK b) 7), ())) (by rw [nd_eta2]; exact hI b (by simp) 7 (by omega)) ?_
    refine (f_false (decide_eq_false (by simp only [ByteArray.size_append, size_mk, bs_sz, List.length_cons, List.length_nil, List.length_append]; omega))).trans ?_
    exact congrArg (fun z => some (z, ())) (by show (((bs (inner (infoK a) 6) ++ bs [32]) ++ bs [37]) ++ bs [32]) ++ bs (inner (infoK b) 7) = _; simp only [bs_app]; rfl)
  · obtain ⟨a, rfl⟩ := kd1 (l := ks) (by rw [g3]; rfl)
    have la := K.inn (k := a) (by simp) 7
    have lt := K.len a (by simp)
    refine f_bind (x := ((7 : Int), ())) (by rfl) ?_
    refine (f_false (by rfl)).trans ?_
    refine (f_false (by rfl)).trans ?_
    refine (f_false (by rfl)).trans ?_
    refine (f_false (by rfl)).trans ?_
    refine (f_true (by rfl)).trans ?_
    refine (f_true (by rfl)).trans ?_
    refine f_bind (x := a) (by rfl) ?_
    have hneg : some ((bs [45]) ++ bs (inner (infoK a) 7), ()) = some (bs ([45] ++ inner (infoK a) 7), ()) := by rw [bs_app]
    by_cases q0 : (Tree.val a).1 = 0
    · refine (f_true (decide_eq_true q0)).trans ?_
      refine (f_true (by rfl)).trans ?_
      refine f_bind (x := a) (by rfl) ?_
      by_cases q1 : (Tree.val a).2.1.1 = 1
      · refine (f_true (decide_eq_true q1)).trans ?_
        refine (f_true (by rfl)).trans ?_
        refine f_bind (x := a) (by rfl) ?_
        refine f_bind (x := (bs (txt a), ())) (by rw [nd_eta2]; exact hT a (by simp)) ?_
        refine (f_false (decide_eq_false (by simp only [ByteArray.size_append, size_mk, bs_sz, List.length_cons, List.length_nil, List.length_append]; omega))).trans ?_
        refine (f_false (decide_eq_false (by simp only [ByteArray.size_append, size_mk, bs_sz, List.length_cons, List.length_nil, List.length_append]; omega))).trans ?_
        have hi : isNumN (Tree.val a) = true := by unfold isNumN; rw [decide_eq_true q0, decide_eq_true q1]; rfl
        have e : txt1 (17, (v, (nm, ()))) (kidTs [a]) = [45, 40] ++ txt a ++ [41] := by
          show (if isNumN (Tree.val a) = true then [45, 40] ++ txt a ++ [41] else [45] ++ inner (infoK a) 7) = _
          rw [if_pos hi]
        rw [e]
        exact congrArg (fun z => some (z, ())) (by show (bs [45, 40] ++ bs (txt a)) ++ bs [41] = _; rw [bs_app, bs_app])
      · refine (f_false (decide_eq_false q1)).trans ?_
        have hi : ¬ isNumN (Tree.val a) = true := by unfold isNumN; rw [decide_eq_false q1]; simp
        have e : txt1 (17, (v, (nm, ()))) (kidTs [a]) = [45] ++ inner (infoK a) 7 := by
          show (if isNumN (Tree.val a) = true then [45, 40] ++ txt a ++ [41] else [45] ++ inner (infoK a) 7) = _
          rw [if_neg hi]
        rw [e]
        refine (f_true (by rfl)).trans ?_
        refine (f_true (by rfl)).trans ?_
        refine f_bind (x := a) (by rfl) ?_
        refine f_bind (x := (bs (inner (infoK a) 7), ())) (by rw [nd_eta2]; exact hI a (by simp) 7 (by omega)) ?_
        refine (f_false (decide_eq_false (by simp only [ByteArray.size_append, size_mk, bs_sz, List.length_cons, List.length_nil, List.length_append]; omega))).trans ?_
        exact hneg
    · refine (f_false (decide_eq_false q0)).trans ?_
      have hi : ¬ isNumN (Tree.val a) = true := by unfold isNumN; rw [decide_eq_false q0]; simp
      have e : txt1 (17, (v, (nm, ()))) (kidTs [a]) = [45] ++ inner (infoK a) 7 := by
        show (if isNumN (Tree.val a) = true then [45, 40] ++ txt a ++ [41] else [45] ++ inner (infoK a) 7) = _
        rw [if_neg hi]
      rw [e]
      refine (f_true (by rfl)).trans ?_
      refine (f_true (by rfl)).trans ?_
      refine f_bind (x := a) (by rfl) ?_
      refine f_bind (x := (bs (inner (infoK a) 7), ())) (by rw [nd_eta2]; exact hI a (by simp) 7 (by omega)) ?_
      refine (f_false (decide_eq_false (by simp only [ByteArray.size_append, size_mk, bs_sz, List.length_cons, List.length_nil, List.length_append]; omega))).trans ?_
      exact hneg
  · refine f_bind (x := ((9 : Int), ())) (by rfl) ?_
    refine (f_false (by rfl)).trans ?_
    refine (f_false (by rfl)).trans ?_
    refine (f_false (by rfl)).trans ?_
    refine (f_false (by rfl)).trans ?_
    refine (f_false (by rfl)).trans ?_
    refine (f_false (by rfl)).trans ?_
    refine (f_true (by rfl)).trans ?_
    have hj := kids_join ks K.ve K.sz
    refine f_bind (texts_loop (r10 n) ks hT K.n _ (by intros; rfl)) ?_
    rw [sumE_inl]
    refine f_bind (x := (marksL, ())) (by rfl) ?_
    refine (f_true (by rfl)).trans ?_
    refine f_bind (x := bs (fnT 18)) (by rfl) ?_
    have lf := fn_len 18
    refine (f_false (decide_eq_false (by simp only [ByteArray.size_append, size_mk, bs_sz, List.length_cons, List.length_nil, List.length_append]; omega))).trans ?_
    refine f_bind (join_txt ks K.n hj) ?_
    refine (f_false (decide_eq_false (by simp only [ByteArray.size_append, size_mk, bs_sz, List.length_cons, List.length_nil, List.length_append]; omega))).trans ?_
    refine (f_false (decide_eq_false (by simp only [ByteArray.size_append, size_mk, bs_sz, List.length_cons, List.length_nil, List.length_append]; omega))).trans ?_
    have e : txt1 (18, (v, (nm, ()))) (kidTs ks) = fnT 18 ++ [40] ++ Lib.join (ks.map txt) [44, 32] ++ [41] := by rw [← kidTs_txt]; rfl
    rw [e]
    exact congrArg (fun z => some (z, ())) (by show ((bs (fnT 18) ++ bs [40]) ++ bs (Lib.join (ks.map txt) [44, 32])) ++ bs [41] = _; rw [bs_app, bs_app, bs_app])
  · refine f_bind (x := ((9 : Int), ())) (by rfl) ?_
    refine (f_false (by rfl)).trans ?_
    refine (f_false (by rfl)).trans ?_
    refine (f_false (by rfl)).trans ?_
    refine (f_false (by rfl)).trans ?_
    refine (f_false (by rfl)).trans ?_
    refine (f_false (by rfl)).trans ?_
    refine (f_true (by rfl)).trans ?_
    have hj := kids_join ks K.ve K.sz
    refine f_bind (texts_loop (r10 n) ks hT K.n _ (by intros; rfl)) ?_
    rw [sumE_inl]
    refine f_bind (x := (marksL, ())) (by rfl) ?_
    refine (f_true (by rfl)).trans ?_
    refine f_bind (x := bs (fnT 19)) (by rfl) ?_
    have lf := fn_len 19
    refine (f_false (decide_eq_false (by simp only [ByteArray.size_append, size_mk, bs_sz, List.length_cons, List.length_nil, List.length_append]; omega))).trans ?_
    refine f_bind (join_txt ks K.n hj) ?_
    refine (f_false (decide_eq_false (by simp only [ByteArray.size_append, size_mk, bs_sz, List.length_cons, List.length_nil, List.length_append]; omega))).trans ?_
    refine (f_false (decide_eq_false (by simp only [ByteArray.size_append, size_mk, bs_sz, List.length_cons, List.length_nil, List.length_append]; omega))).trans ?_
    have e : txt1 (19, (v, (nm, ()))) (kidTs ks) = fnT 19 ++ [40] ++ Lib.join (ks.map txt) [44, 32] ++ [41] := by rw [← kidTs_txt]; rfl
    rw [e]
    exact congrArg (fun z => some (z, ())) (by show ((bs (fnT 19) ++ bs [40]) ++ bs (Lib.join (ks.map txt) [44, 32])) ++ bs [41] = _; rw [bs_app, bs_app, bs_app])
  · refine f_bind (x := ((9 : Int), ())) (by rfl) ?_
    refine (f_false (by rfl)).trans ?_
    refine (f_false (by rfl)).trans ?_
    refine (f_false (by rfl)).trans ?_
    refine (f_false (by rfl)).trans ?_
    refine (f_false (by rfl)).trans ?_
    refine (f_false (by rfl)).trans ?_
    refine (f_true (by rfl)).trans ?_
    have hj := kids_join ks K.ve K.sz
    refine f_bind (texts_loop (r10 n) ks hT K.n _ (by intros; rfl)) ?_
    rw [sumE_inl]
    refine f_bind (x := (marksL, ())) (by rfl) ?_
    refine (f_true (by rfl)).trans ?_
    refine f_bind (x := bs (fnT 20)) (by rfl) ?_
    have lf := fn_len 20
    refine (f_false (decide_eq_false (by simp only [ByteArray.size_append, size_mk, bs_sz, List.length_cons, List.length_nil, List.length_append]; omega))).trans ?_
    refine f_bind (join_txt ks K.n hj) ?_
    refine (f_false (decide_eq_false (by simp only [ByteArray.size_append, size_mk, bs_sz, List.length_cons, List.length_nil, List.length_append]; omega))).trans ?_
    refine (f_false (decide_eq_false (by simp only [ByteArray.size_append, size_mk, bs_sz, List.length_cons, List.length_nil, List.length_append]; omega))).trans ?_
    have e : txt1 (20, (v, (nm, ()))) (kidTs ks) = fnT 20 ++ [40] ++ Lib.join (ks.map txt) [44, 32] ++ [41] := by rw [← kidTs_txt]; rfl
    rw [e]
    exact congrArg (fun z => some (z, ())) (by show ((bs (fnT 20) ++ bs [40]) ++ bs (Lib.join (ks.map txt) [44, 32])) ++ bs [41] = _; rw [bs_app, bs_app, bs_app])
  · refine f_bind (x := ((9 : Int), ())) (by rfl) ?_
    refine (f_false (by rfl)).trans ?_
    refine (f_false (by rfl)).trans ?_
    refine (f_false (by rfl)).trans ?_
    refine (f_false (by rfl)).trans ?_
    refine (f_false (by rfl)).trans ?_
    refine (f_false (by rfl)).trans ?_
    refine (f_true (by rfl)).trans ?_
    have hj := kids_join ks K.ve K.sz
    refine f_bind (texts_loop (r10 n) ks hT K.n _ (by intros; rfl)) ?_
    rw [sumE_inl]
    refine f_bind (x := (marksL, ())) (by rfl) ?_
    refine (f_true (by rfl)).trans ?_
    refine f_bind (x := bs (fnT 21)) (by rfl) ?_
    have lf := fn_len 21
    refine (f_false (decide_eq_false (by simp only [ByteArray.size_append, size_mk, bs_sz, List.length_cons, List.length_nil, List.length_append]; omega))).trans ?_
    refine f_bind (join_txt ks K.n hj) ?_
    refine (f_false (decide_eq_false (by simp only [ByteArray.size_append, size_mk, bs_sz, List.length_cons, List.length_nil, List.length_append]; omega))).trans ?_
    refine (f_false (decide_eq_false (by simp only [ByteArray.size_append, size_mk, bs_sz, List.length_cons, List.length_nil, List.length_append]; omega))).trans ?_
    have e : txt1 (21, (v, (nm, ()))) (kidTs ks) = fnT 21 ++ [40] ++ Lib.join (ks.map txt) [44, 32] ++ [41] := by rw [← kidTs_txt]; rfl
    rw [e]
    exact congrArg (fun z => some (z, ())) (by show ((bs (fnT 21) ++ bs [40]) ++ bs (Lib.join (ks.map txt) [44, 32])) ++ bs [41] = _; rw [bs_app, bs_app, bs_app])
theorem both_text : ∀ (n : Nat) (t : DExp), 2 * sz t ≤ n → VE t → sz t ≤ 1000 → r29 n (t, ()) = some (bs (txt t), ()) ∧ r10 n (t, ()) = some (bs (txt t), ()) := by
  intro n
  induction n using Nat.strongRecOn with
  | _ n IH =>
    intro t hn hv hz
    obtain ⟨h1, h2⟩ := (VE_node t).1 hv
    have hsz := sz_node t
    obtain ⟨m, rfl⟩ : ∃ m, n = m + 1 := ⟨n - 1, by omega⟩
    obtain ⟨_, _, g3⟩ := oneE_kids h1
    have hlk : (Tree.kids t).length ≤ 3 := by
      have : kidsN (Tree.val t).1 ≤ 3 := by unfold kidsN; repeat' split
                                            all_goals omega
      omega
    have hm := fun k (hk : k ∈ Tree.kids t) => szL_mem hk
    have kid : ∀ k ∈ Tree.kids t, 0 ≤ (Tree.val k).1 ∧ (Tree.val k).1 ≤ 21 ∧ (txt k).length ≤ 100000 := fun k hk => by
      obtain ⟨c1, c2, _⟩ := oneE_kids ((VE_node k).1 (h2 k hk)).1
      have := txt_len k (h2 k hk)
      have := hm k hk
      exact ⟨c1, c2, by omega⟩
    have hpos : ∀ k ∈ Tree.kids t, ∃ j, m = j + 1 ∧ 2 * sz k ≤ j := fun k hk => by
      have := hm k hk
      exact ⟨m - 1, by omega, by omega⟩
    have K1 : KidsOk (r29 m) (r53 m) (Tree.kids t) := ⟨fun k hk => (IH m (by omega) k (by have := hm k hk; omega) (h2 k hk) (by have := hm k hk; omega)).1, fun k hk least _ => by
      obtain ⟨j, rfl, hj⟩ := hpos k hk
      obtain ⟨c1, c2, c3⟩ := kid k hk
      exact inner_eq j k least c1 c2 (by omega) (IH j (by omega) k hj (h2 k hk) (by have := hm k hk; omega)).1, fun k hk => (kid k hk).2.2, h2, by omega, by omega⟩
    have K2 : KidsOk (r10 m) (r30 m) (Tree.kids t) := ⟨fun k hk => (IH m (by omega) k (by have := hm k hk; omega) (h2 k hk) (by have := hm k hk; omega)).2, fun k hk least _ => by
      obtain ⟨j, rfl, hj⟩ := hpos k hk
      obtain ⟨c1, c2, c3⟩ := kid k hk
      exact closed_eq j k least c1 c2 (by omega) (IH j (by omega) k hj (h2 k hk) (by have := hm k hk; omega)).2, fun k hk => (kid k hk).2.2, h2, by omega, by omega⟩
    cases t with
    | node nd ks =>
      obtain ⟨op, v, nm, ⟨⟩⟩ := nd
      exact ⟨text_node m v nm ks op h1 K1, printed_node m v nm ks op h1 K2⟩
end Go.Proofs.YtdfgfjnpllncdaaGreatDoor.I

namespace Go.Proofs.YtdfgfjnpllncdaaGreatDoor.I
set_option linter.unusedVariables false
structure Le {α : Type} (a b : Option α) : Prop where
  h : ∀ y, a = some y → b = some y
theorem le_refl {α : Type} (a : Option α) : Le a a := ⟨fun _ h => h⟩
theorem le_none {α : Type} (a : Option α) : Le none a := ⟨fun _ h => by cases h⟩
theorem le_cond {α : Type} (b : Bool) {x y x' y' : Option α} (h : Le x x') (k : Le y y') : Le (cond b x y) (cond b x' y') := by
  cases b <;> assumption
theorem le_bind {α β : Type} {o o' : Option α} {f f' : α → Option β} (h : Le o o') (k : ∀ x, Le (f x) (f' x)) : Le (Option.bind o f) (Option.bind o' f') := ⟨fun y e => by
  cases o with
  | none => cases e
  | some x =>
    rw [h.h x rfl]
    exact (k x).h y e⟩
theorem le_sumE {α β γ : Type} {f f' : α → Option γ} {g g' : β → Option γ} (h : ∀ x, Le (f x) (f' x)) (k : ∀ x, Le (g x) (g' x)) (o : α ⊕ β) : Le (sumE f g o) (sumE f' g' o) := by
  cases o with
  | inl x => exact h x
  | inr x => exact k x
theorem le_iter {D O : Type} {s s' : D → Option (D ⊕ O)} (h : ∀ d, Le (s d) (s' d)) : ∀ (m : Nat) (d : D), Le (iter s m d) (iter s' m d)
  | 0, d => ⟨fun _ e => by cases e⟩
  | m + 1, d => ⟨fun y e => by
    simp only [iter] at e ⊢
    cases hs : s d with
    | none => rw [hs] at e; cases e
    | some r =>
      rw [hs] at e
      rw [(h d).h r hs]
      cases r with
      | inl d' => exact (le_iter h m d').h y e
      | inr o => exact e⟩
def loopF (m : Nat) {D O : Type} (step : D → Option (D ⊕ O)) (d : D) : Option O := iter step m d
theorem le_loop {D O : Type} {s s' : D → Option (D ⊕ O)} (m : Nat) (h : ∀ d, Le (s d) (s' d)) (d : D) : Le (loopF m s d) (loop s' d) := ⟨fun y e => loop_of_iter ((le_iter h m d).h y e)⟩
end Go.Proofs.YtdfgfjnpllncdaaGreatDoor.I
