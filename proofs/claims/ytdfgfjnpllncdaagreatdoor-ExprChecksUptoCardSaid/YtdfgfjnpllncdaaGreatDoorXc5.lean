import Derived.Test.YtdfgfjnpllncdaaGreatDoorXc4
import Derived.Lib.ItoaLen
import Derived.OpenShut
import Derived.Lib.Small
import Derived.Lib.Join
import Derived.Below
import Derived.IntWalk
import Derived.Laws.BitsAllLaws
import Derived.Laws.BitsLemmas
set_option linter.unusedSimpArgs false
set_option linter.unusedVariables false
namespace Go.Proofs.YtdfgfjnpllncdaaGreatDoor.I
open Go.RowKit
set_option linter.unusedVariables false
/-- A loop over a list, told by recursion. -/
def foldL {α S O : Type} (body : Nat → α → S → Option (S ⊕ O)) (out : S → O) : Nat → List α → S → Option O
  | _, [], s => some (out s)
  | i, a :: l, s => match body i a s with
    | none => none
    | some (.inl s') => foldL body out (i + 1) l s'
    | some (.inr o) => some o
def stepTo {D S O : Type} (emb : Int → S → D) (i : Nat) : Option (S ⊕ O) → Option (D ⊕ O)
  | none => none
  | some (.inl s') => some (.inl (emb ((i : Int) + 1) s'))
  | some (.inr o) => some (.inr o)
theorem loop_from {α S D O : Type} {step : D → Option (D ⊕ O)} (emb : Int → S → D) (xs : List α) (body : Nat → α → S → Option (S ⊕ O)) (out : S → O)
    (hin : ∀ (i : Nat) a s, xs[i]? = some a → step (emb i s) = stepTo emb i (body i a s))
    (hend : ∀ s, step (emb (xs.length : Int) s) = some (.inr (out s))) : ∀ (l : List α) (i : Nat) (s : S), i ≤ xs.length → xs.drop i = l → loop step (emb i s) = foldL body out i l s
  | [], i, s, hi, hl => by
    have : i = xs.length := by
      have := congrArg List.length hl
      simp at this; omega
    subst this
    rw [loop_eq, hend]
    rfl
  | a :: l, i, s, hi, hl => by
    have ha : xs[i]? = some a := by
      have := congrArg (fun l => l[0]?) hl
      simpa using this
    have hlt : i < xs.length := (List.getElem?_eq_some_iff.1 ha).1
    have hd : xs.drop (i + 1) = l := by rw [← List.drop_drop, hl]; rfl
    rw [loop_eq, hin i a s ha]
    simp only [foldL]
    cases hb : body i a s with
    | none => rfl
    | some r =>
      cases r with
      | inr o => rfl
      | inl s' =>
        simp only [stepTo]
        exact loop_from emb xs body out hin hend l (i + 1) s' hlt hd
theorem loop_list {α S D O : Type} {step : D → Option (D ⊕ O)} (emb : Int → S → D) (xs : List α) (body : Nat → α → S → Option (S ⊕ O)) (out : S → O)
    (hin : ∀ (i : Nat) a s, xs[i]? = some a → step (emb i s) = stepTo emb i (body i a s))
    (hend : ∀ s, step (emb (xs.length : Int) s) = some (.inr (out s))) (s : S) : loop step (emb 0 s) = foldL body out 0 xs s :=
  loop_from emb xs body out hin hend xs 0 s (Nat.zero_le _) rfl
theorem wrap64 {n : Int} (h1 : -9223372036854775808 ≤ n) (h2 : n ≤ 9223372036854775807) : IntKind.wrap .i64 n = n := by
  unfold IntKind.wrap
  simp only [IntKind.signed, IntKind.bits]
  simp
  omega
theorem lt_of_get {α : Type} {xs : List α} {i : Nat} {a : α} (h : xs[i]? = some a) : i < xs.length := (List.getElem?_eq_some_iff.1 h).1
theorem dec_lt {i n : Nat} (h : i < n) : decide ((i : Int) < (n : Int)) = true := by simp; omega
theorem dec_nlt {i : Nat} : decide ((i : Int) < (i : Int)) = false := by simp
theorem inB_lt {i n : Nat} (h : i < n) : inB (i : Int) n = true := by unfold inB; simp; omega
theorem wrapS {i n : Nat} (h : i < n) (hn : n ≤ 9223372036854775807) : IntKind.wrap .i64 ((i : Int) + 1) = (i : Int) + 1 := wrap64 (by omega) (by omega)
theorem bytes_get {s : ByteArray} {i : Nat} : strAt s (i : Int) = s.data.toList[i]? := by
  unfold strAt
  rw [if_pos (by omega)]
  simp only [Int.toNat_natCast]
  show s[i]? = _
  cases h : s.data.toList[i]? with
  | none =>
    have := List.getElem?_eq_none_iff.1 h
    rw [Array.length_toList] at this
    exact getElem?_neg s i (by show ¬ i < s.data.size; omega)
  | some b =>
    have h2 := (List.getElem?_eq_some_iff.1 h)
    obtain ⟨h3, h4⟩ := h2
    rw [Array.length_toList] at h3
    rw [getElem?_pos s i h3]
    congr 1
theorem bytes_len {s : ByteArray} : s.size = s.data.toList.length := by rw [Array.length_toList]; rfl
end Go.Proofs.YtdfgfjnpllncdaaGreatDoor.I

namespace Go.Proofs.YtdfgfjnpllncdaaGreatDoor.I
open Go.RowKit
set_option linter.unusedVariables false

abbrev DVal := Int × Int × ByteArray × Bool × Unit
def found {O : Type} : Option O → Option (Unit ⊕ O)
  | some o => some (.inr o)
  | none => some (.inl ())
theorem foldL_find {α O : Type} {body : Nat → α → Unit → Option (Unit ⊕ O)} {out : Unit → O} (g : α → Option O) : ∀ (xs : List α) (i : Nat), (∀ (j : Nat) a, xs[j]? = some a → body (i + j) a () = found (g a)) →
    foldL body out i xs () = some ((xs.findSome? g).getD (out ()))
  | [], i, _ => rfl
  | a :: l, i, h => by
    have h0 := h 0 a rfl
    simp only [Nat.add_zero] at h0
    simp only [foldL, h0, List.findSome?_cons]
    cases hg : g a with
    | some o => rfl
    | none =>
      simp only [found]
      exact foldL_find g l (i + 1) (fun j b hb => by
        have := h (j + 1) b (by simpa using hb)
        rwa [show i + 1 + j = i + (j + 1) by omega])

def okB (b : UInt8) : Bool := !(decide ((b.toNat : Int) < 32)) && (!(decide (126 < (b.toNat : Int))) && !(decide ((b.toNat : Int) = 34)))
theorem find_all {α : Type} (p : α → Bool) {O : Type} (o : O) : ∀ (xs : List α), xs.findSome? (fun a => if p a then none else some o) = if xs.all p then none else some o
  | [] => rfl
  | a :: l => by
    rw [List.findSome?_cons, List.all_cons]
    cases h : p a with
    | true => simp [find_all p o l]
    | false => simp
theorem r38_eq (s : ByteArray) (hs : s.size ≤ 9223372036854775807) : r98 (s, ()) = some (s.data.toList.all okB, ()) := by
  unfold r98
  rw [loop_list (fun i _ => ((i, ()), ())) s.data.toList (fun i b _ => found (if okB b then none else some (Sum.inl ((false, ()), ())))) (fun _ => Sum.inr (Sum.inl ((), ()))) (fun i b _ h => ?_) (fun _ => ?_) ()]
  · rw [foldL_find (fun b => if okB b then none else some (Sum.inl ((false, ()), ()))) s.data.toList 0 (fun j a _ => rfl), find_all]
    cases s.data.toList.all okB <;> rfl
  · have hl := lt_of_get h
    have hlen : s.size = s.data.toList.length := bytes_len
    simp only [hlen, dec_lt hl, bytes_get, h, cond_true, Option.bind_some]
    rw [wrapS hl (by omega)]
    unfold okB
    cases decide ((b.toNat : Int) < 32) <;> cases decide (126 < (b.toNat : Int)) <;> cases decide ((b.toNat : Int) = 34) <;> rfl
  · simp only [← bytes_len, dec_nlt, cond_false]

def checkV (v : DVal) : Int :=
  if v.1 < 0 then 8 else if 3 < v.1 then 8 else if ¬ v.1 = 1 ∧ ¬ v.2.1 = 0 then 3 else if ¬ v.1 = 2 ∧ ¬ v.2.2.1 = ByteArray.mk (List.toArray []) then 3 else if ¬ v.1 = 3 ∧ v.2.2.2.1 = true then 3
  else if v.2.1 < -1000000000000 then 2 else if 1000000000000 < v.2.1 then 2 else if 40 < (v.2.2.1.size : Int) then 2 else if v.2.2.1.data.toList.all okB = true then 0 else 3
theorem r10_eq (v : DVal) (hs : v.2.2.1.size ≤ 9223372036854775807) : r61 (v, ()) = some (checkV v, ()) := by
  obtain ⟨k, n, s, b, ⟨⟩⟩ := v
  have h38 := r38_eq s hs
  unfold r61 checkV
  simp only [h38, Option.bind_some]
  generalize s.data.toList.all okB = a
  clear h38 hs
  generalize s.size = z
  by_cases h1 : k < 0
  · simp [h1]
  by_cases h2 : 3 < k
  · simp [h1, h2]
  have hk : k = 0 ∨ k = 1 ∨ k = 2 ∨ k = 3 := by omega
  by_cases h3 : n = 0 <;> by_cases h4 : s = ByteArray.mk (List.toArray []) <;> by_cases h5 : n < -1000000000000 <;> by_cases h6 : 1000000000000 < n <;> by_cases h7 : 40 < (z : Int) <;> rcases hk with rfl | rfl | rfl | rfl <;> cases b <;> cases a <;> simp [h3, h4, h5, h6, h7]
def okI (b : Int) : Bool := !(decide (b < 32)) && (!(decide (126 < b)) && !(decide (b = 34)))
theorem okI_all (s : ByteArray) : (bytesOf s).all okI = s.data.toList.all okB := by
  unfold bytesOf
  rw [List.all_map]
  rfl
theorem r29_eq (v : DVal) (hs : v.2.2.1.size ≤ 9223372036854775807) : r24 (v, ()) = some (checkV v, ()) := by
  obtain ⟨k, n, s, b, ⟨⟩⟩ := v
  unfold r24 checkV
  have hb : (bytesOf s).length = s.size := by unfold bytesOf; rw [List.length_map, ← bytes_len]
  rw [loop_list (fun i _ => ((i, ()), ())) (bytesOf s) (fun i b _ => found (if okI b then none else some (Sum.inl ((3, ()), ())))) (fun _ => Sum.inr (Sum.inl ((), ()))) (fun i b _ h => ?_) (fun _ => ?_) ()]
  · rw [foldL_find (fun b => if okI b then none else some (Sum.inl ((3, ()), ()))) (bytesOf s) 0 (fun j a _ => rfl), find_all, okI_all]
    generalize s.data.toList.all okB = a
    clear hb hs
    generalize s.size = z
    by_cases h1 : k < 0
    · simp [h1]
    by_cases h2 : 3 < k
    · simp [h1, h2]
    have hk : k = 0 ∨ k = 1 ∨ k = 2 ∨ k = 3 := by omega
    have hn : ((0 : Int) = n) = (n = 0) := propext eq_comm
    have hc : ((ByteArray.mk #[]) = s) = (s = ByteArray.mk #[]) := propext eq_comm
    by_cases h3 : n = 0 <;> by_cases h4 : s = ByteArray.mk (List.toArray []) <;> by_cases h5 : n < -1000000000000 <;> by_cases h6 : 1000000000000 < n <;> by_cases h7 : 40 < (z : Int) <;> rcases hk with rfl | rfl | rfl | rfl <;> cases b <;> cases a <;> simp [h3, h4, h5, h6, h7, inB, sumE, hc, hn]
  · have hl := lt_of_get h
    simp only [dec_lt hl, inB_lt hl, Int.toNat_natCast, h, cond_true, Option.bind_some]
    rw [wrapS hl (by rw [hb]; exact hs)]
    unfold okI
    cases decide (b < 32) <;> cases decide (126 < b) <;> cases decide (b = 34) <;> rfl
  · simp only [dec_nlt, cond_false]
end Go.Proofs.YtdfgfjnpllncdaaGreatDoor.I

namespace Go.Proofs.YtdfgfjnpllncdaaGreatDoor.I
open Go.RowKit
set_option linter.unusedVariables false
theorem loop_up {S D O : Type} {step : D → Option (D ⊕ O)} (emb : Int → S → D) (n : Nat) (Inv : Nat → S → Prop) (Post : O → Prop)
    (hin : ∀ (i : Nat) (s : S), i < n → Inv i s → (∃ s', step (emb (i : Int) s) = some (.inl (emb ((i : Int) + 1) s')) ∧ Inv (i + 1) s') ∨ ∃ o, step (emb (i : Int) s) = some (.inr o) ∧ Post o)
    (hend : ∀ s, Inv n s → ∃ o, step (emb (n : Int) s) = some (.inr o) ∧ Post o) : ∀ (k : Nat) (s : S), k ≤ n → Inv k s → ∃ o, loop step (emb (k : Int) s) = some o ∧ Post o := by
  have key : ∀ (m k : Nat) (s : S), n - k = m → k ≤ n → Inv k s → ∃ o, loop step (emb (k : Int) s) = some o ∧ Post o := by
    intro m
    induction m with
    | zero =>
      intro k s hm hk hI
      have : k = n := by omega
      subst this
      obtain ⟨o, h1, h2⟩ := hend s hI
      rw [loop_eq, h1]
      exact ⟨o, rfl, h2⟩
    | succ m ih =>
      intro k s hm hk hI
      rcases hin k s (by omega) hI with ⟨s', h1, h2⟩ | ⟨o, h1, h2⟩
      · rw [loop_eq, h1]
        exact ih (k + 1) s' (by omega) (by omega) h2
      · rw [loop_eq, h1]
        exact ⟨o, rfl, h2⟩
  exact fun k s => key _ k s rfl
theorem bind_loop {D O R : Type} {step : D → Option (D ⊕ O)} {d : D} {f : O → Option R} {Post : O → Prop} {y : R} (h : ∃ o, loop step d = some o ∧ Post o) (k : ∀ o, Post o → f o = some y) : Option.bind (loop step d) f = some y := by
  obtain ⟨o, h1, h2⟩ := h
  rw [h1]
  exact k o h2
theorem bind_loopQ {D O R : Type} {step : D → Option (D ⊕ O)} {d : D} {f : O → Option R} {Post : O → Prop} (Q : Option R → Prop) (h : ∃ o, loop step d = some o ∧ Post o) (k : ∀ o, Post o → Q (f o)) : Q (Option.bind (loop step d) f) := by
  obtain ⟨o, h1, h2⟩ := h
  rw [h1]
  exact k o h2
/-- From the first element on; only one way out. -/
theorem loop_all {S D O R : Type} {step : D → Option (D ⊕ O)} {f : O → Option R} {y : R} (emb : Int → S → D) (n : Nat) (Inv : Nat → S → Prop) (out : S → O)
    (hin : ∀ (i : Nat) (s : S), i < n → Inv i s → ∃ s', step (emb (i : Int) s) = some (.inl (emb ((i : Int) + 1) s')) ∧ Inv (i + 1) s')
    (hend : ∀ s, Inv n s → step (emb (n : Int) s) = some (.inr (out s))) (s0 : S) (h0 : Inv 0 s0) (k : ∀ s, Inv n s → f (out s) = some y) : Option.bind (loop step (emb 0 s0)) f = some y := by
  have h := loop_up (step := step) emb n Inv (fun o => ∃ s, Inv n s ∧ o = out s) (fun i s hi hs => .inl (hin i s hi hs)) (fun s hs => ⟨_, hend s hs, s, hs, rfl⟩) 0 s0 (Nat.zero_le _) h0
  refine bind_loop h ?_
  rintro o ⟨s, hs, rfl⟩
  exact k s hs
/-- The state after each round is told. -/
theorem loop_is {S D O R : Type} {step : D → Option (D ⊕ O)} {f : O → Option R} {y : R} (emb : Int → S → D) (n : Nat) (st : Nat → S) (out : S → O)
    (hin : ∀ (i : Nat), i < n → step (emb (i : Int) (st i)) = some (.inl (emb ((i : Int) + 1) (st (i + 1)))))
    (hend : step (emb (n : Int) (st n)) = some (.inr (out (st n)))) (k : f (out (st n)) = some y) (s0 : S) (h0 : s0 = st 0) : Option.bind (loop step (emb 0 s0)) f = some y :=
  loop_all emb n (fun i s => s = st i) out (fun i s hi hs => ⟨_, by subst hs; exact hin i hi, rfl⟩) (fun s hs => by subst hs; exact hend) s0 h0 (fun s hs => by subst hs; exact k)
theorem take_succ {α : Type} {l : List α} {i : Nat} {a : α} (h : l[i]? = some a) : l.take (i + 1) = l.take i ++ [a] := by
  rw [List.take_add_one, h]; rfl
theorem get_lt {α : Type} {l : List α} {i : Nat} (h : i < l.length) : ∃ a, l[i]? = some a := ⟨_, List.getElem?_eq_getElem h⟩
theorem bind_of {α β : Type} {o : Option α} {x : α} {f : α → Option β} {y : β} (h : o = some x) (k : f x = some y) : Option.bind o f = some y := by
  rw [h]; exact k
end Go.Proofs.YtdfgfjnpllncdaaGreatDoor.I

namespace Go.Proofs.YtdfgfjnpllncdaaGreatDoor.I
open Go.RowKit
set_option linter.unusedVariables false
set_option linter.constructorNameAsVariable false
theorem name_eq (s : ByteArray) (h : s.size ≤ 9223372036854775807) : r62 (s, ()) = some (nameOk s, ()) := by
  unfold r62
  have : decide (s.size ≤ 9223372036854775807) = true := decide_eq_true h
  simp only [this, cond_true]
end Go.Proofs.YtdfgfjnpllncdaaGreatDoor.I

namespace Go.Proofs.YtdfgfjnpllncdaaGreatDoor.I
open Go.RowKit
set_option linter.unusedVariables false
set_option linter.constructorNameAsVariable false

abbrev O3 := ((Int × Unit) × Unit) ⊕ (Unit × Unit) ⊕ Empty
def w3 (e : Int) : O3 := Sum.inl ((e, ()), ())
def w0 : O3 := Sum.inr (Sum.inl ((), ()))
end Go.Proofs.YtdfgfjnpllncdaaGreatDoor.I

namespace Go.Proofs.YtdfgfjnpllncdaaGreatDoor.I
open Go.RowKit
set_option linter.unusedVariables false
set_option linter.constructorNameAsVariable false
def Tot {α : Type} (o : Option α) : Prop := ∃ y, o = some y
theorem tot_some {α : Type} (y : α) : Tot (some y) := ⟨y, rfl⟩
theorem tot_bind {α β : Type} {o : Option α} {f : α → Option β} (h : Tot o) (k : ∀ y, Tot (f y)) : Tot (o.bind f) := by
  obtain ⟨y, rfl⟩ := h
  exact k y
/-- A loop that counts. -/
theorem tot_count {S D O : Type} {step : D → Option (D ⊕ O)} (emb : Int → S → D) (Inv : Nat → S → Prop) (n : Nat)
    (hin : ∀ (i : Nat) s, i < n → Inv i s → ∃ r, step (emb i s) = some r ∧ ((∃ s', r = .inl (emb ((i : Int) + 1) s') ∧ Inv (i + 1) s') ∨ ∃ o, r = .inr o))
    (hend : ∀ s, ∃ o, step (emb (n : Int) s) = some (.inr o)) (s : S) (h0 : Inv 0 s) : Tot (loop step (emb 0 s)) := by
  have key : ∀ (m i : Nat) (s : S), n - i = m → i ≤ n → Inv i s → Tot (loop step (emb (i : Int) s)) := by
    intro m
    induction m with
    | zero =>
      intro i s hm hi hI
      have : i = n := by omega
      subst this
      obtain ⟨o, ho⟩ := hend s
      exact ⟨o, by rw [loop_eq, ho]⟩
    | succ m ih =>
      intro i s hm hi hI
      obtain ⟨r, hr, h⟩ := hin i s (by omega) hI
      rw [loop_eq, hr]
      rcases h with ⟨s', rfl, hI'⟩ | ⟨o, rfl⟩
      · exact ih (i + 1) s' (by omega) (by omega) hI'
      · exact ⟨o, rfl⟩
  exact key n 0 s (by omega) (Nat.zero_le _) h0
theorem tot_sumE {α β γ : Type} {f : α → Option γ} {g : β → Option γ} (h : ∀ a, Tot (f a)) (k : ∀ b, Tot (g b)) (o : α ⊕ β) : Tot (sumE f g o) := by
  cases o
  · exact h _
  · exact k _
theorem tot_emptyE {γ : Type} (o : Empty) : Tot (emptyE (γ := Option γ) o) := nomatch o
/-- What a round may come to. -/
def Good {S D O : Type} (emb : Int → S → D) (Inv : Nat → S → Prop) (i : Nat) (x : Option (D ⊕ O)) : Prop := (∃ s', x = some (.inl (emb ((i : Int) + 1) s')) ∧ Inv (i + 1) s') ∨ ∃ o, x = some (.inr o)
section
variable {S D O : Type} {emb : Int → S → D} {Inv : Nat → S → Prop} {i : Nat}
theorem good_cond {b : Bool} {x y : Option (D ⊕ O)} (h : Good emb Inv i x) (k : Good emb Inv i y) : Good emb Inv i (cond b x y) := by
  cases b
  · exact k
  · exact h
theorem good_out (o : O) : Good emb Inv i (some (.inr o) : Option (D ⊕ O)) := .inr ⟨o, rfl⟩
theorem good_next (s' : S) (h : Inv (i + 1) s') : Good emb Inv i (some (.inl (emb ((i : Int) + 1) s')) : Option (D ⊕ O)) := .inl ⟨s', rfl, h⟩
theorem tot_loop {step : D → Option (D ⊕ O)} (emb : Int → S → D) (Inv : Nat → S → Prop) (n : Nat) (hin : ∀ (i : Nat) s, i < n → Inv i s → Good emb Inv i (step (emb i s))) (hend : ∀ s, ∃ o, step (emb (n : Int) s) = some (.inr o)) (s : S) (h0 : Inv 0 s) : Tot (loop step (emb 0 s)) :=
  tot_count emb Inv n (fun i s hi hI => by
    rcases hin i s hi hI with ⟨s', h1, h2⟩ | ⟨o, h1⟩
    · exact ⟨_, h1, .inl ⟨s', rfl, h2⟩⟩
    · exact ⟨_, h1, .inr ⟨o, rfl⟩⟩) hend s h0
end
abbrev IU : Type := (Int × Unit) × Unit
@[reducible] def embI (i : Int) (_ : Unit) : IU := ((i, ()), ())
theorem t145 (l : List Int) (n : Int) (hl : l.length ≤ 9223372036854775807) : Tot (r64 (l, (n, ()))) := by
  unfold r64
  refine tot_bind (tot_loop embI (fun _ _ => True) l.length (fun i _ hi _ => ?_) (fun _ => ?_) () trivial) (tot_sumE (fun _ => tot_some _) (tot_sumE (fun _ => tot_some _) tot_emptyE))
  · obtain ⟨a, ha⟩ : ∃ a, l[i]? = some a := ⟨_, List.getElem?_eq_getElem hi⟩
    dsimp only [embI]
    simp only [dec_lt hi, inB_lt hi, Int.toNat_natCast, ha, cond_true, Option.bind_some]
    rw [wrapS hi hl]
    exact good_cond (good_out _) (good_next () trivial)
  · dsimp only [embI]
    simp only [dec_nlt, cond_false]
    exact ⟨_, rfl⟩
end Go.Proofs.YtdfgfjnpllncdaaGreatDoor.I

namespace Go.Proofs.YtdfgfjnpllncdaaGreatDoor.I
open Go.RowKit
set_option linter.unusedVariables false
set_option linter.constructorNameAsVariable false
abbrev kVal : Kd := .pair (.int .i64) (.pair (.int .i64) (.pair .str (.pair .bool .unit)))
end Go.Proofs.YtdfgfjnpllncdaaGreatDoor.I

namespace Go.Proofs.YtdfgfjnpllncdaaGreatDoor.I
open Go.RowKit
set_option linter.unusedVariables false
set_option linter.unusedSimpArgs false
set_option linter.constructorNameAsVariable false
abbrev DNode := Int × DVal × ByteArray × Unit
abbrev DExp := Tree DNode
abbrev kNode : Kd := .pair (.int .i64) (.pair kVal (.pair .str .unit))
abbrev kExp : Kd := .tree kNode
theorem t_eta (a : DExp) : Tree.node ((Tree.val a).1, (((Tree.val a).2.1.1, ((Tree.val a).2.1.2.1, ((Tree.val a).2.1.2.2.1, ((Tree.val a).2.1.2.2.2.1, Unit.unit)))), ((Tree.val a).2.2.1, Unit.unit))) (Tree.kids a) = a := by
  cases a
  rfl
theorem exp_small {t : DExp} (h : small kExp t) : small (.int .i64) (Tree.val t).1 ∧ small kVal (Tree.val t).2.1 ∧ (Tree.val t).2.2.1.size ≤ 9223372036854775807 ∧ (Tree.kids t).length ≤ 9223372036854775807 ∧ ∀ k ∈ Tree.kids t, small kExp k := by
  cases t with
  | node v ks =>
    obtain ⟨h1, h2, h3⟩ := h
    exact ⟨h1.1, h1.2.1, h1.2.2.1, h2, smallTs_iff.1 h3⟩
def emptyS : ByteArray := ByteArray.mk (List.toArray [])
/-- How many operands. -/
def kidsN (op : Int) : Int := if 0 ≤ op ∧ op ≤ 2 then 0 else if op = 5 ∨ op = 17 ∨ op = 19 then 1 else if op = 18 then 3 else if 3 ≤ op ∧ op ≤ 21 then 2 else -1
theorem kids_eq (op : Int) : r60 (op, ()) = some (kidsN op, ()) := by
  by_cases h : 0 ≤ op ∧ op ≤ 21
  · have key : ∀ n : Fin 22, r60 (((n : Nat) : Int), ()) = some (kidsN ((n : Nat) : Int), ()) := by decide +kernel
    have := key ⟨op.toNat, by omega⟩
    simp only at this
    rwa [show ((op.toNat : Nat) : Int) = op by omega] at this
  · have e5 : decide (op = 5) = false := decide_eq_false (by omega)
    have e17 : decide (op = 17) = false := decide_eq_false (by omega)
    have e19 : decide (op = 19) = false := decide_eq_false (by omega)
    have e18 : decide (op = 18) = false := decide_eq_false (by omega)
    unfold r60 kidsN
    rw [if_neg (by omega), if_neg (by omega), if_neg (by omega), if_neg (by omega)]
    simp only [e5, e17, e19, e18, cond_false]
    by_cases h0 : 0 ≤ op
    · simp only [decide_eq_true h0, decide_eq_false (show ¬ op ≤ 2 by omega), decide_eq_true (show 3 ≤ op by omega), decide_eq_false (show ¬ op ≤ 21 by omega), cond_true, cond_false]
    · simp only [decide_eq_false h0, decide_eq_false (show ¬ 3 ≤ op by omega), cond_false]
noncomputable def wordsL : List ByteArray := ((r13 ()).getD ([], ())).1
noncomputable def fieldsL : List ByteArray := ((r12 ()).getD ([], ())).1
theorem words_eq : r13 () = some (wordsL, ()) := rfl
theorem fields_eq : r12 () = some (fieldsL, ()) := rfl
theorem index_str (l : List ByteArray) (s : ByteArray) (hl : l.length ≤ 1000000) : ∃ i : Int, r49 (l, (s, ())) = some (i, ()) ∧ (0 ≤ i ↔ s ∈ l) := by
  unfold r49
  refine bind_loopQ (fun r => ∃ i : Int, r = some (i, ()) ∧ (0 ≤ i ↔ s ∈ l)) (loop_up embI l.length (fun i _ => s ∉ l.take i) (fun o => (∃ k : Nat, o = Sum.inl (((k : Int), ()), ()) ∧ s ∈ l) ∨ (o = Sum.inr (Sum.inl ((), ())) ∧ s ∉ l)) (fun i u hi hI => ?_) (fun u hI => ?_) 0 () (Nat.zero_le _) (by simp)) (fun o ho => ?_)
  · obtain ⟨a, ha⟩ := get_lt hi
    simp only [embI, dec_lt hi, inB_lt hi, Int.toNat_natCast, ha, cond_true, Option.bind_some]
    by_cases he : s = a
    · refine .inr ⟨_, by rw [decide_eq_true he]; rfl, .inl ⟨i, rfl, ?_⟩⟩
      rw [he]
      exact List.mem_of_getElem? ha
    · refine .inl ⟨(), by rw [decide_eq_false he, cond_false, wrapS hi (by omega)], ?_⟩
      rw [take_succ ha]
      simp only [List.mem_append, List.mem_singleton]
      exact fun h => h.elim hI he
  · rw [List.take_length] at hI
    refine ⟨_, by simp only [embI, dec_nlt, cond_false], .inr ⟨rfl, hI⟩⟩
  · rcases ho with ⟨k, rfl, h⟩ | ⟨rfl, h⟩
    · exact ⟨_, rfl, fun _ => h, fun _ => by simp⟩
    · refine ⟨_, rfl, fun hc => ?_, fun hc => absurd hc h⟩
      simp at hc
def inL (s : ByteArray) (l : List ByteArray) : Bool := l.any fun a => decide (s = a)
theorem inL_iff {s : ByteArray} {l : List ByteArray} : inL s l = true ↔ s ∈ l := by simp [inL]
theorem contains_str (l : List ByteArray) (s : ByteArray) (hl : l.length ≤ 1000000) : r26 (l, (s, ())) = some (inL s l, ()) := by
  unfold r26
  obtain ⟨i, h1, h2⟩ := index_str l s hl
  rw [h1]
  simp only [Option.bind_some]
  have : decide (0 ≤ i) = inL s l := by
    rw [Bool.eq_iff_iff, inL_iff, decide_eq_true_eq]
    exact h2
  rw [this]
/-- What a node's own fault is. -/
noncomputable def oneE (nd : DNode) (k : Nat) : Int :=
  if kidsN nd.1 < 0 then 8
  else if ¬ ((k : Int) = kidsN nd.1) ∨ (nd.1 ≠ 0 ∧ nd.2.1 ≠ (0, (0, (emptyS, (false, ()))))) ∨ (nd.1 ≠ 1 ∧ nd.1 ≠ 2 ∧ nd.2.2.1 ≠ emptyS) then 3
  else if nd.1 = 0 then checkV nd.2.1
  else if (nd.1 = 1 ∧ (nameOk nd.2.2.1 = false ∨ inL nd.2.2.1 wordsL = true)) ∨ (nd.1 = 2 ∧ inL nd.2.2.1 fieldsL = false) then 16 else 0
theorem words_len : wordsL.length = 10 := rfl
theorem fields_len : fieldsL.length = 10 := rfl
theorem val_nil (v : DVal) : (Bool.and (decide (v.1 = (0 : Int))) (Bool.and (decide (v.2.1 = (0 : Int))) (Bool.and (decide (v.2.2.1 = (ByteArray.mk (List.toArray (List.nil))))) (decide (v.2.2.2.1 = Bool.false))))) = decide (v = (0, (0, (emptyS, (false, ()))))) := by
  obtain ⟨a, b, c, d, ⟨⟩⟩ := v
  rw [Bool.eq_iff_iff]
  simp [emptyS]
set_option maxHeartbeats 4000000 in
theorem one_eq (t : DExp) (h : small kExp t) : r36 (t, ()) = some (oneE (Tree.val t) (Tree.kids t).length, ()) := by
  obtain ⟨h1, h2, h3, h4, h5⟩ := exp_small h
  generalize hk : (Tree.kids t).length = k
  have hv := r10_eq (Tree.val t).2.1 h2.2.2.1
  have hn := name_eq (Tree.val t).2.2.1 h3
  have hw := contains_str wordsL (Tree.val t).2.2.1 (by rw [words_len]; omega)
  have hf := contains_str fieldsL (Tree.val t).2.2.1 (by rw [fields_len]; omega)
  have hv' : r61 (((Tree.val t).2.1.1, ((Tree.val t).2.1.2.1, ((Tree.val t).2.1.2.2.1, ((Tree.val t).2.1.2.2.2.1, Unit.unit)))), Unit.unit) = some (checkV (Tree.val t).2.1, ()) := hv
  have hkk : r60 ((Tree.val t).1, Unit.unit) = some (kidsN (Tree.val t).1, ()) := kids_eq _
  unfold r36 oneE
  simp only [hkk, hk, hv', hn, hw, hf, words_eq, fields_eq, Option.bind_some, val_nil]
  generalize hop : (Tree.val t).1 = op
  generalize (Tree.val t).2.1 = v
  generalize (Tree.val t).2.2.1 = s
  by_cases k0 : kidsN op < 0
  · rw [if_pos k0, decide_eq_true k0]
    rfl
  rw [if_neg k0, decide_eq_false k0, cond_false]
  by_cases k1 : (k : Int) = kidsN op
  rotate_left
  · rw [if_pos (.inl k1), decide_eq_false k1]
    rfl
  rw [decide_eq_true k1]
  simp only [k1, Bool.not_true, cond_false, not_true_eq_false, false_or]
  by_cases b0 : op = 0
  · subst b0
    by_cases be : s = emptyS
    · subst be
      simp [emptyS]
    · have : ¬ s = ByteArray.mk (List.toArray []) := be
      simp [be, this]
  · by_cases bv : v = (0, (0, (emptyS, (false, ()))))
    · by_cases b1 : op = 1
      · subst b1
        cases hnm : nameOk s <;> cases hmw : inL s wordsL <;> simp [bv]
      · by_cases b2 : op = 2
        · subst b2
          cases hmf : inL s fieldsL <;> simp [bv]
        · by_cases be : s = emptyS
          · have : s = ByteArray.mk (List.toArray []) := be
            simp [b0, b1, b2, bv, be, emptyS]
          · have : ¬ s = ByteArray.mk (List.toArray []) := be
            simp [b0, b1, b2, bv, be, this]
    · simp [b0, bv]
end Go.Proofs.YtdfgfjnpllncdaaGreatDoor.I

namespace Go.Proofs.YtdfgfjnpllncdaaGreatDoor.I
open Go.RowKit
set_option linter.unusedVariables false
set_option linter.constructorNameAsVariable false
def toI (l : List UInt8) : List Int := l.map fun b => (b.toNat : Int)
theorem mkStr_toI (l : List UInt8) : mkStr (toI l) = ⟨l.toArray⟩ := by
  unfold mkStr toI
  congr 2
  rw [List.map_map]
  conv => rhs; rw [← List.map_id l]
  refine List.map_congr_left (fun b _ => ?_)
  simp
theorem size_mk (l : List UInt8) : (ByteArray.mk l.toArray).size = l.length := by rw [bytes_len]
def ofS (s : ByteArray) : List UInt8 := s.data.toList
theorem ofS_len (s : ByteArray) : (ofS s).length = s.size := bytes_len.symm
theorem mk_ofS (s : ByteArray) : (⟨(ofS s).toArray⟩ : ByteArray) = s := rfl
theorem ba_app (a b : List UInt8) : (⟨a.toArray⟩ : ByteArray) ++ (⟨b.toArray⟩ : ByteArray) = ⟨(a ++ b).toArray⟩ := by
  apply ByteArray.ext
  rw [ByteArray.data_append]
  exact List.append_toArray a b
theorem wf_in {x : Int} (h : (Lit.int .i64 x).wf = true) : -9223372036854775808 ≤ x ∧ x ≤ 9223372036854775807 := bounds_i64 h
def In64 (x : Int) : Prop := -9223372036854775808 ≤ x ∧ x ≤ 9223372036854775807
end Go.Proofs.YtdfgfjnpllncdaaGreatDoor.I

namespace Go.Proofs.YtdfgfjnpllncdaaGreatDoor.I
open Go.RowKit
set_option linter.unusedVariables false
set_option linter.unusedSimpArgs false
set_option linter.constructorNameAsVariable false
mutual
def sz : DExp → Nat
  | .node v ks => szL ks + 1
def szL : List DExp → Nat
  | [] => 0
  | t :: ts => sz t + szL ts
end
theorem sz_node (t : DExp) : sz t = szL (Tree.kids t) + 1 := by
  cases t
  simp only [sz, Tree.kids]
theorem szL_mem : ∀ {ks : List DExp} {t : DExp}, t ∈ ks → sz t ≤ szL ks
  | k :: ks, t, h => by
    simp only [szL]
    rcases List.mem_cons.1 h with rfl | h
    · omega
    · have := szL_mem h
      omega
mutual
/-- The nodes with their depths, in the order of a walk; behind a depth of 20 none. -/
def pre (d : Nat) : DExp → List (DExp × Nat)
  | .node v ks => (.node v ks, d) :: (if 20 < d then [] else preL (d + 1) ks)
def preL (d : Nat) : List DExp → List (DExp × Nat)
  | [] => []
  | t :: ts => pre d t ++ preL d ts
end
theorem pre_node (d : Nat) (t : DExp) : pre d t = (t, d) :: (if 20 < d then [] else preL (d + 1) (Tree.kids t)) := by
  cases t
  simp only [pre, Tree.kids]
theorem preL_app (d : Nat) : ∀ (a b : List DExp), preL d (a ++ b) = preL d a ++ preL d b
  | [], b => rfl
  | t :: a, b => by simp only [List.cons_append, preL, preL_app d a b, List.append_assoc]
theorem preL_one (d : Nat) (t : DExp) : preL d [t] = pre d t := by simp only [preL, List.append_nil]
noncomputable def nodeE (i : Nat) (p : DExp × Nat) : Int := if 100 ≤ i ∨ 20 < p.2 then 2 else oneE (Tree.val p.1) (Tree.kids p.1).length
noncomputable def firstE : Nat → List (DExp × Nat) → Int
  | _, [] => 0
  | i, p :: l => if nodeE i p ≠ 0 then nodeE i p else firstE (i + 1) l
theorem firstE_app : ∀ (a b : List (DExp × Nat)) (i : Nat), firstE i (a ++ b) = if firstE i a ≠ 0 then firstE i a else firstE (i + a.length) b
  | [], b, i => by simp [firstE]
  | p :: a, b, i => by
    simp only [List.cons_append, firstE, firstE_app a b (i + 1), List.length_cons]
    by_cases h : nodeE i p = 0
    · simp only [h, ne_eq, not_true_eq_false, if_false]
      rw [show i + (a.length + 1) = i + 1 + a.length by omega]
    · simp only [h, ne_eq, not_false_eq_true, if_true]
@[reducible] def embCW (i : Int) (s : Int) : (Int × Int × Unit) × Unit := ((i, (s, ())), ())
set_option maxHeartbeats 2000000 in
theorem walk_eq : ∀ (n : Nat) (t : DExp) (d i : Nat), sz t ≤ n → i ≤ 100 → small kExp t → ∃ c' : Int, r35 n (t, ((d : Int), ())) ((i : Int), ()) = some ((firstE i (pre d t), ()), (c', ())) ∧ (firstE i (pre d t) = 0 → c' = ((i + (pre d t).length : Nat) : Int) ∧ i + (pre d t).length ≤ 100)
  | 0, t, d, i, hn, _, _ => by rw [sz_node] at hn; omega
  | n + 1, t, d, i, hn, hi, hs => by
    have w1 : IntKind.wrap .i64 ((i : Int) + 1) = ((i + 1 : Nat) : Int) := by rw [wrap64 (by omega) (by omega)]; omega
    rw [r35_succ]
    unfold r35B
    simp only [w1]
    rw [pre_node]
    simp only [firstE]
    by_cases h100 : i = 100
    · have e1 : decide ((100 : Int) < ((i + 1 : Nat) : Int)) = true := decide_eq_true (by omega)
      have e2 : nodeE i (t, d) = 2 := by unfold nodeE; rw [if_pos (.inl (by omega))]
      rw [e1, cond_true, e2]
      exact ⟨_, rfl, fun h => by simp at h⟩
    have e1 : decide ((100 : Int) < ((i + 1 : Nat) : Int)) = false := decide_eq_false (by omega)
    rw [e1, cond_false]
    by_cases hd : 20 < d
    · have e2 : nodeE i (t, d) = 2 := by unfold nodeE; rw [if_pos (.inr hd)]
      have e3 : decide ((20 : Int) < (d : Int)) = true := decide_eq_true (by omega)
      rw [e3, cond_true, e2]
      exact ⟨_, rfl, fun h => by simp at h⟩
    have e3 : decide ((20 : Int) < (d : Int)) = false := decide_eq_false (by omega)
    have e2 : nodeE i (t, d) = oneE (Tree.val t) (Tree.kids t).length := by unfold nodeE; rw [if_neg (by simp; omega)]
    rw [e3, cond_false, t_eta, one_eq t hs, e2, if_neg hd]
    simp only [Option.bind_some]
    by_cases he : oneE (Tree.val t) (Tree.kids t).length = 0
    rotate_left
    · rw [decide_eq_false he]
      simp only [Bool.not_false, cond_true]
      exact ⟨_, by rw [if_pos he], fun h => by rw [if_pos he] at h; exact absurd h he⟩
    rw [decide_eq_true he]
    simp only [Bool.not_true, cond_false, he, ne_eq, not_true_eq_false, if_false]
    have hsk := (exp_small hs).2.2.2.2
    have hlk := (exp_small hs).2.2.2.1
    have hszk : ∀ k ∈ Tree.kids t, sz k ≤ n := fun k hk => by
      have := szL_mem hk
      rw [sz_node] at hn
      omega
    have hd1 : IntKind.wrap .i64 ((d : Int) + 1) = ((d + 1 : Nat) : Int) := by rw [wrap64 (by omega) (by omega)]; omega
    generalize Tree.kids t = ks at hsk hlk hszk
    refine bind_loopQ (fun r => ∃ c' : Int, r = some ((firstE (i + 1) (preL (d + 1) ks), ()), (c', ())) ∧ (firstE (i + 1) (preL (d + 1) ks) = 0 → c' = ((i + ((t, d) :: preL (d + 1) ks).length : Nat) : Int) ∧ i + ((t, d) :: preL (d + 1) ks).length ≤ 100))
      (loop_up embCW ks.length (fun j s => s = ((i + 1 + (preL (d + 1) (ks.take j)).length : Nat) : Int) ∧ firstE (i + 1) (preL (d + 1) (ks.take j)) = 0 ∧ i + 1 + (preL (d + 1) (ks.take j)).length ≤ 100)
        (fun o => (∃ e c' : Int, o = Sum.inl ((e, (c', ())), ()) ∧ e ≠ 0 ∧ firstE (i + 1) (preL (d + 1) ks) = e) ∨ (∃ c' : Int, o = Sum.inr (Sum.inl ((c', ()), ())) ∧ firstE (i + 1) (preL (d + 1) ks) = 0 ∧ c' = ((i + 1 + (preL (d + 1) ks).length : Nat) : Int) ∧ i + 1 + (preL (d + 1) ks).length ≤ 100))
        (fun j s hj hI => ?_) (fun s hI => ?_) 0 _ (Nat.zero_le _) ⟨by simp [preL], by simp [preL, firstE], by simp [preL]; omega⟩) (fun o ho => ?_)
    · obtain ⟨rfl, h1, h2⟩ := hI
      obtain ⟨k, hk⟩ := get_lt hj
      have hkm := List.mem_of_getElem? hk
      obtain ⟨c', g1, g2⟩ := walk_eq n k (d + 1) (i + 1 + (preL (d + 1) (ks.take j)).length) (hszk k hkm) h2 (hsk k hkm)
      simp only [embCW, dec_lt hj, inB_lt hj, Int.toNat_natCast, hk, cond_true, Option.bind_some, t_eta, hd1, g1]
      have hsplit : preL (d + 1) (ks.take (j + 1)) = preL (d + 1) (ks.take j) ++ pre (d + 1) k := by rw [take_succ hk, preL_app, preL_one]
      have hall : ks = ks.take (j + 1) ++ ks.drop (j + 1) := (List.take_append_drop _ _).symm
      by_cases hz : firstE (i + 1 + (preL (d + 1) (ks.take j)).length) (pre (d + 1) k) = 0
      · obtain ⟨rfl, g3⟩ := g2 hz
        refine .inl ⟨_, by rw [decide_eq_true hz]; simp only [Bool.not_true, cond_false]; rw [wrapS hj (by omega)], ?_, ?_, ?_⟩
        · rw [hsplit, List.length_append]; congr 1; omega
        · rw [hsplit, firstE_app, h1]
          simpa using hz
        · rw [hsplit, List.length_append]; omega
      · refine .inr ⟨_, by rw [decide_eq_false hz]; simp only [Bool.not_false, cond_true], .inl ⟨_, c', rfl, hz, ?_⟩⟩
        have e5 : firstE (i + 1) (preL (d + 1) (ks.take (j + 1))) = firstE (i + 1 + (preL (d + 1) (ks.take j)).length) (pre (d + 1) k) := by
          rw [hsplit, firstE_app, h1]
          simp
        have hf := congrArg (fun l => firstE (i + 1) (preL (d + 1) l)) hall
        rw [show firstE (i + 1) (preL (d + 1) ks) = firstE (i + 1) (preL (d + 1) (ks.take (j + 1) ++ ks.drop (j + 1))) from hf, preL_app, firstE_app, e5, if_pos hz]
    · obtain ⟨rfl, h1, h2⟩ := hI
      rw [List.take_length] at h1 h2 ⊢
      exact ⟨_, by simp only [embCW, dec_nlt, cond_false], .inr ⟨_, rfl, h1, rfl, h2⟩⟩
    · rcases ho with ⟨e, c', rfl, h1, h2⟩ | ⟨c', rfl, h1, rfl, h2⟩
      · exact ⟨c', by rw [h2]; rfl, fun h => absurd (h2 ▸ h) h1⟩
      · refine ⟨((i + 1 + (preL (d + 1) ks).length : Nat) : Int), by rw [h1]; rfl, fun _ => ⟨?_, ?_⟩⟩
        · rw [List.length_cons]; congr 1; omega
        · rw [List.length_cons]; omega
/-- What an expression's fault is. -/
noncomputable def expE (t : DExp) : Int := firstE 0 (pre 1 t)
theorem check_eq (n : Nat) (t : DExp) (hn : sz t ≤ n) (hs : small kExp t) : r14 n (t, ()) = some (expE t, ()) := by
  obtain ⟨c', h1, _⟩ := walk_eq n t 1 0 hn (by omega) hs
  have h1 : r35 n (t, ((1 : Int), Unit.unit)) ((0 : Int), Unit.unit) = some ((expE t, ()), (c', ())) := h1
  unfold r14
  rw [t_eta, h1]
  rfl
end Go.Proofs.YtdfgfjnpllncdaaGreatDoor.I

namespace Go.Proofs.YtdfgfjnpllncdaaGreatDoor.I
open Go.RowKit
set_option linter.unusedVariables false
set_option linter.unusedSimpArgs false
set_option linter.constructorNameAsVariable false
theorem take_app_take {α : Type} (X Y : List α) (m : Nat) : (X.take m ++ Y).take m = (X ++ Y).take m := by
  rcases Nat.le_total m X.length with h | h
  · rw [List.take_append_of_le_length (by rw [List.length_take]; omega), List.take_append_of_le_length h, List.take_take, Nat.min_self]
  · rw [List.take_of_length_le h]
def rows (B : List (DExp × Nat)) : List DExp × List Int × Unit := (B.map (·.1), (B.map (fun p => ((p.2 : Nat) : Int)), ()))
@[reducible] def embFl (i : Int) (s : List DExp × List Int × Unit) : (List DExp × List Int × Int × Unit) × Unit := ((s.1, (s.2.1, (i, ()))), ())
theorem rows_app (A : List (DExp × Nat)) (t : DExp) (d : Nat) : (A.map (·.1) ++ [t], (A.map (fun p => ((p.2 : Nat) : Int)) ++ [(d : Int)], ())) = rows (A ++ [(t, d)]) := by
  unfold rows
  simp
set_option maxHeartbeats 2000000 in
theorem flat_eq : ∀ (n : Nat) (t : DExp) (d : Nat) (A : List (DExp × Nat)), sz t ≤ n → A.length ≤ 101 → d ≤ 21 → small kExp t → r22 n (t, ((d : Int), ((101 : Int), ()))) (rows A) = some (rows ((A ++ pre d t).take 101))
  | 0, t, d, A, hn, _, _, _ => by rw [sz_node] at hn; omega
  | n + 1, t, d, A, hn, hA, hd, hs => by
    rw [r22_succ]
    unfold r22B
    simp only [t_eta]
    have hl1 : (rows A).1.length = A.length := by simp [rows]
    have hl2 : (rows A).2.1.length = A.length := by simp [rows]
    rw [hl1, hl2]
    by_cases h101 : A.length = 101
    · have e1 : decide ((101 : Int) ≤ ((A.length : Nat) : Int)) = true := decide_eq_true (by omega)
      rw [e1, cond_true, List.take_append_of_le_length (by omega), List.take_of_length_le (by omega)]
    have e1 : decide ((101 : Int) ≤ ((A.length : Nat) : Int)) = false := decide_eq_false (by omega)
    have e2 : fits (A.length + [t].length) 88 = true := by unfold fits; simp; omega
    have e3 : fits (A.length + [(d : Int)].length) 8 = true := by unfold fits; simp; omega
    rw [e1, cond_false, e2, cond_true, e3, cond_true]
    by_cases hd2 : 20 < d
    · have e4 : decide ((20 : Int) < (d : Int)) = true := decide_eq_true (by omega)
      rw [e4, cond_true, pre_node, if_pos hd2, List.take_of_length_le (by simp; omega)]
      exact congrArg some (rows_app A t d)
    have e4 : decide ((20 : Int) < (d : Int)) = false := decide_eq_false (by omega)
    rw [e4, cond_false, pre_node, if_neg hd2]
    have hsk := (exp_small hs).2.2.2.2
    have hlk := (exp_small hs).2.2.2.1
    have hszk : ∀ k ∈ Tree.kids t, sz k ≤ n := fun k hk => by
      have := szL_mem hk
      rw [sz_node] at hn
      omega
    have hd1 : IntKind.wrap .i64 ((d : Int) + 1) = ((d + 1 : Nat) : Int) := by rw [wrap64 (by omega) (by omega)]; omega
    generalize Tree.kids t = ks at hsk hlk hszk
    rw [show (((rows A).1 ++ [t]), ((rows A).2.1 ++ [(d : Int)], ((0 : Int), Unit.unit))) = (((rows (A ++ [(t, d)])).1), ((rows (A ++ [(t, d)])).2.1, ((0 : Int), Unit.unit))) by unfold rows; simp]
    refine loop_is (y := rows ((A ++ (t, d) :: preL (d + 1) ks).take 101)) embFl ks.length (fun j => rows ((A ++ (t, d) :: preL (d + 1) (ks.take j)).take 101)) (fun s => Sum.inl ((s.1, (s.2.1, ())), ())) (fun j hj => ?_) ?_ ?_ _ ?_
    · obtain ⟨k, hk⟩ := get_lt hj
      have hkm := List.mem_of_getElem? hk
      have ih := flat_eq n k (d + 1) ((A ++ (t, d) :: preL (d + 1) (ks.take j)).take 101) (hszk k hkm) (by rw [List.length_take]; omega) (by omega) (hsk k hkm)
      have hsplit : preL (d + 1) (ks.take (j + 1)) = preL (d + 1) (ks.take j) ++ pre (d + 1) k := by rw [take_succ hk, preL_app, preL_one]
      have ih : r22 n (k, (((d + 1 : Nat) : Int), ((101 : Int), Unit.unit))) ((rows ((A ++ (t, d) :: preL (d + 1) (ks.take j)).take 101)).1, ((rows ((A ++ (t, d) :: preL (d + 1) (ks.take j)).take 101)).2.1, Unit.unit)) = _ := ih
      simp only [embFl, dec_lt hj, inB_lt hj, Int.toNat_natCast, hk, cond_true, Option.bind_some, t_eta, hd1, ih]
      rw [wrapS hj (by omega), take_app_take, hsplit]
      simp only [List.append_assoc, List.cons_append]
    · simp only [embFl, dec_nlt, cond_false]
    · rw [List.take_length]
      rfl
    · rw [List.take_zero, preL, List.take_of_length_le (by simp; omega)]
mutual
theorem pre_small : ∀ (t : DExp) (d : Nat), small kExp t → ∀ p ∈ pre d t, small kExp p.1
  | .node v ks, d, h, p, hp => by
    simp only [pre] at hp
    rcases List.mem_cons.1 hp with rfl | hp
    · exact h
    · split at hp
      · cases hp
      · exact preL_small ks (d + 1) (smallTs_iff.1 h.2.2) p hp
theorem preL_small : ∀ (ks : List DExp) (d : Nat), (∀ k ∈ ks, small kExp k) → ∀ p ∈ preL d ks, small kExp p.1
  | [], _, _, p, hp => by cases hp
  | k :: ks, d, h, p, hp => by
    simp only [preL] at hp
    rcases List.mem_append.1 hp with hp | hp
    · exact pre_small k d (h k (by simp)) p hp
    · exact preL_small ks d (fun x hx => h x (by simp [hx])) p hp
end
theorem firstE_take : ∀ (l : List (DExp × Nat)) (i : Nat), i ≤ 100 → firstE i (l.take (101 - i)) = firstE i l
  | [], i, _ => by simp
  | p :: l, i, hi => by
    rw [show 101 - i = (101 - (i + 1)) + 1 by omega, List.take_succ_cons]
    simp only [firstE]
    by_cases h : nodeE i p = 0
    · simp only [h, ne_eq, not_true_eq_false, if_false]
      have : i < 100 := by
        rcases Nat.lt_or_ge i 100 with h1 | h1
        · exact h1
        · unfold nodeE at h
          rw [if_pos (.inl h1)] at h
          cases h
      exact firstE_take l (i + 1) (by omega)
    · simp only [h, ne_eq, not_false_eq_true, if_true]
noncomputable def operL : List Int := ((r23 ()).getD ([], ())).1
theorem oper_eq : r23 () = some (operL, ()) := rfl
theorem oper_at (op : Int) (h0 : 0 ≤ op) (h1 : op ≤ 21) : inB op operL.length = true ∧ operL[op.toNat]? = some (kidsN op) := by
  have key : ∀ n : Fin 22, inB ((n : Nat) : Int) operL.length = true ∧ operL[(n : Nat)]? = some (kidsN ((n : Nat) : Int)) := by decide +kernel
  have := key ⟨op.toNat, by omega⟩
  simp only at this
  rwa [show ((op.toNat : Nat) : Int) = op by omega] at this
theorem kids_in {op : Int} (h0 : 0 ≤ op) (h1 : op ≤ 21) : ¬ kidsN op < 0 := by
  have key : ∀ n : Fin 22, ¬ kidsN ((n : Nat) : Int) < 0 := by decide
  have := key ⟨op.toNat, by omega⟩
  simp only at this
  rwa [show ((op.toNat : Nat) : Int) = op by omega] at this
theorem kids_out {op : Int} (h : op < 0 ∨ 21 < op) : kidsN op < 0 := by
  unfold kidsN
  rw [if_neg (by omega), if_neg (by omega), if_neg (by omega), if_neg (by omega)]
  omega
theorem reserved_eq : r27 () = some (wordsL, ()) := by kernel_rfl
theorem rfields_eq : r28 () = some (fieldsL, ()) := by kernel_rfl
end Go.Proofs.YtdfgfjnpllncdaaGreatDoor.I

namespace Go.Proofs.YtdfgfjnpllncdaaGreatDoor.I
open Go.RowKit
set_option linter.unusedVariables false
set_option linter.unusedSimpArgs false
set_option linter.constructorNameAsVariable false
theorem rname_eq (s : ByteArray) (h : s.size ≤ 9223372036854775807) : r25 (s, ()) = some (nameOk s, ()) := by
  unfold r25
  have : decide (s.size ≤ 9223372036854775807) = true := decide_eq_true h
  simp only [this, cond_true]
@[reducible] def exX (e : Int) : (IU) ⊕ (((Int × Unit) × Unit) ⊕ ((Unit × Unit) ⊕ Empty)) := Sum.inr (Sum.inl ((e, ()), ()))
set_option maxHeartbeats 8000000 in
theorem exprErr_eq (n : Nat) (t : DExp) (hn : sz t ≤ n) (hs : small kExp t) : r8 n (t, ()) = some (expE t, ()) := by
  unfold r8
  have h1 := flat_eq n t 1 [] hn (by simp) (by omega) hs
  have h1 : r22 n (t, ((1 : Int), ((101 : Int), Unit.unit))) (List.nil, (List.nil, Unit.unit)) = some (rows ((pre 1 t).take 101)) := h1
  rw [t_eta, h1]
  simp only [Option.bind_some]
  have hsm : ∀ p ∈ (pre 1 t).take 101, small kExp p.1 := fun p hp => pre_small t 1 hs p (List.mem_of_mem_take hp)
  have hl : ((pre 1 t).take 101).length ≤ 101 := by rw [List.length_take]; omega
  have hfin : firstE 0 ((pre 1 t).take 101) = expE t := firstE_take (pre 1 t) 0 (by omega)
  rw [← hfin]
  generalize (pre 1 t).take 101 = B at hsm hl
  have hl1 : (rows B).1.length = B.length := by simp [rows]
  have hl2 : (rows B).2.1.length = B.length := by simp [rows]
  refine bind_loop (Post := fun o => (∃ e : Int, o = Sum.inl ((e, ()), ()) ∧ firstE 0 B = e) ∨ (o = Sum.inr (Sum.inl ((), ())) ∧ firstE 0 B = 0)) (loop_up embI B.length (fun j _ => firstE 0 (B.take j) = 0) _ (fun j u hj hI => ?_) (fun u hI => ?_) 0 () (Nat.zero_le _) (by simp [firstE])) (fun o ho => ?_)
  · obtain ⟨p, hp⟩ := get_lt hj
    have hps := hsm p (List.mem_of_getElem? hp)
    have ea : (rows B).1[j]? = some p.1 := by simp [rows, hp]
    have eb : (rows B).2.1[j]? = some ((p.2 : Nat) : Int) := by simp [rows, hp]
    have hsplit : B.take (j + 1) = B.take j ++ [p] := take_succ hp
    have hj2 : (B.take j).length = j := by rw [List.length_take]; omega
    have hone : firstE 0 (B.take (j + 1)) = nodeE j p := by
      rw [hsplit, firstE_app, hI, hj2, if_neg (by simp), Nat.zero_add]
      simp only [firstE]
      by_cases hz : nodeE j p = 0
      · rw [hz]; simp
      · rw [if_pos hz]
    have hall : B = B.take (j + 1) ++ B.drop (j + 1) := (List.take_append_drop _ _).symm
    have hbad : nodeE j p ≠ 0 → firstE 0 B = nodeE j p := fun hne => by
      have hf := congrArg (fun l => firstE 0 l) hall
      rw [show firstE 0 B = firstE 0 (B.take (j + 1) ++ B.drop (j + 1)) from hf, firstE_app, hone, if_pos hne]
    simp only [embI, hl1, hl2, dec_lt hj, inB_lt hj, Int.toNat_natCast, ea, eb, cond_true, Option.bind_some]
    suffices hstep : ∀ r : Option (IU ⊕ (((Int × Unit) × Unit) ⊕ ((Unit × Unit) ⊕ Empty))), r = (if nodeE j p = 0 then some (Sum.inl ((((j : Int) + 1, ()), ()))) else some (exX (nodeE j p))) → ((∃ s' : Unit, r = some (Sum.inl (((((j : Int) + 1), ()), ()))) ∧ firstE 0 (B.take (j + 1)) = 0) ∨ ∃ o, r = some (Sum.inr o) ∧ ((∃ e : Int, o = Sum.inl ((e, ()), ()) ∧ firstE 0 B = e) ∨ (o = Sum.inr (Sum.inl ((), ())) ∧ firstE 0 B = 0))) by
      refine hstep _ ?_
      obtain ⟨t', d'⟩ := p
      obtain ⟨k1, k2, k3, k4, k5⟩ := exp_small hps
      simp only
      have hv := r29_eq (Tree.val t').2.1 k2.2.2.1
      have hv' : r24 (((Tree.val t').2.1.1, ((Tree.val t').2.1.2.1, ((Tree.val t').2.1.2.2.1, ((Tree.val t').2.1.2.2.2.1, Unit.unit)))), Unit.unit) = some (checkV (Tree.val t').2.1, ()) := hv
      have hnm := rname_eq (Tree.val t').2.2.1 k3
      have hw := contains_str wordsL (Tree.val t').2.2.1 (by rw [words_len]; omega)
      have hf := contains_str fieldsL (Tree.val t').2.2.1 (by rw [fields_len]; omega)
      rw [wrapS hj (by omega)]
      have hNE : nodeE j (t', d') = if 100 ≤ j ∨ 20 < d' then 2 else oneE (Tree.val t') (Tree.kids t').length := rfl
      rw [hNE]
      by_cases h100 : j = 100
      · have e1 : decide ((j : Int) = 100) = true := decide_eq_true (by omega)
        rw [e1, cond_true, if_pos (show 100 ≤ j ∨ 20 < d' from .inl (by omega))]
        rfl
      have e1 : decide ((j : Int) = 100) = false := decide_eq_false (by omega)
      rw [e1, cond_false]
      by_cases hd : 20 < d'
      · have e2 : decide ((20 : Int) < (d' : Int)) = true := decide_eq_true (by omega)
        rw [e2, cond_true, if_pos (show 100 ≤ j ∨ 20 < d' from .inr hd)]
        rfl
      have e2 : decide ((20 : Int) < (d' : Int)) = false := decide_eq_false (by omega)
      rw [e2, cond_false, if_neg (show ¬ (100 ≤ j ∨ 20 < d') by omega)]
      by_cases ho1 : (Tree.val t').1 < 0
      · rw [decide_eq_true ho1, cond_true]
        have : oneE (Tree.val t') (Tree.kids t').length = 8 := by unfold oneE; rw [if_pos (kids_out (.inl ho1))]
        rw [this]
        rfl
      rw [decide_eq_false ho1, cond_false]
      by_cases ho2 : 21 < (Tree.val t').1
      · rw [decide_eq_true ho2, cond_true]
        have : oneE (Tree.val t') (Tree.kids t').length = 8 := by unfold oneE; rw [if_pos (kids_out (.inr ho2))]
        rw [this]
        rfl
      rw [decide_eq_false ho2, cond_false]
      obtain ⟨q1, q2⟩ := oper_at (Tree.val t').1 (by omega) (by omega)
      have q3 := kids_in (op := (Tree.val t').1) (by omega) (by omega)
      simp only [oper_eq, q1, q2, cond_true, Option.bind_some, hv', hnm, hw, hf, reserved_eq, rfields_eq, val_nil]
      unfold oneE
      rw [if_neg q3]
      generalize (Tree.kids t').length = k
      generalize (Tree.val t').2.1 = v
      generalize (Tree.val t').2.2.1 = s
      generalize (Tree.val t').1 = op at *
      clear hv hv' hnm hw hf q1 q2
      by_cases z1 : (k : Int) = kidsN op
      rotate_left
      · rw [if_pos (Or.inl z1 : ¬ (k : Int) = kidsN op ∨ _), decide_eq_false z1]
        rfl
      rw [decide_eq_true z1]
      simp only [z1, Bool.not_true, cond_false, not_true_eq_false, false_or]
      by_cases b0 : op = 0
      · subst b0
        by_cases be : s = emptyS
        · subst be
          by_cases hc : checkV v = 0 <;> simp [emptyS, hc]
        · have : ¬ s = ByteArray.mk (List.toArray []) := be
          simp [be, this]
      · by_cases bv : v = (0, (0, (emptyS, (false, ()))))
        · by_cases b1 : op = 1
          · subst b1
            cases hnm : nameOk s <;> cases hmw : inL s wordsL <;> simp [bv]
          · by_cases b2 : op = 2
            · subst b2
              cases hmf : inL s fieldsL <;> simp [bv]
            · by_cases be : s = emptyS
              · have : s = ByteArray.mk (List.toArray []) := be
                simp [b0, b1, b2, bv, be, emptyS]
              · have : ¬ s = ByteArray.mk (List.toArray []) := be
                simp [b0, b1, b2, bv, be, this]
        · simp [b0, bv]
    intro r hr
    by_cases hz : nodeE j p = 0
    · rw [if_pos hz] at hr
      exact .inl ⟨(), hr, by rw [hone, hz]⟩
    · rw [if_neg hz] at hr
      exact .inr ⟨_, hr, .inl ⟨_, rfl, hbad hz⟩⟩
  · rw [List.take_length] at hI
    exact ⟨_, by simp only [embI, hl1, dec_nlt, cond_false], .inr ⟨rfl, hI⟩⟩
  · rcases ho with ⟨e, rfl, h⟩ | ⟨rfl, h⟩
    · rw [h]; rfl
    · rw [h]; rfl
end Go.Proofs.YtdfgfjnpllncdaaGreatDoor.I

namespace Go.Proofs.YtdfgfjnpllncdaaGreatDoor
open Go.RowKit

/-- An integer's number as it is written: 7 bits a byte, the lowest first. -/
def varint (u : Nat) : List UInt8 := if h : u < 128 then [UInt8.ofNat u] else UInt8.ofNat (u % 128 + 128) :: varint (u / 128)
termination_by u
decreasing_by omega

theorem varint_lt {u : Nat} (h : u < 128) : varint u = [UInt8.ofNat u] := by rw [varint, dif_pos h]
theorem varint_ge {u : Nat} (h : 128 ≤ u) : varint u = UInt8.ofNat (u % 128 + 128) :: varint (u / 128) := by rw [varint, dif_neg (by omega)]
theorem varint_len (k u : Nat) (h : u < 128 ^ (k + 1)) : (varint u).length ≤ k + 1 := by
  induction k generalizing u with
  | zero => rw [varint_lt (by omega)]; simp
  | succ k ih =>
    by_cases hu : u < 128
    · rw [varint_lt hu]; simp
    · rw [varint_ge (by omega)]
      have := ih (u / 128) (by rw [Nat.div_lt_iff_lt_mul (by omega)]; rw [Nat.pow_succ] at h; exact h)
      simp; omega

/-- Signed numbers alternate: 0, -1, 1, -2, 2 .. -/
def zig (n : Int) : Nat := if n < 0 then (-2 * n - 1).toNat else (2 * n).toNat
theorem zig_lt {n : Int} (h0 : -9223372036854775808 ≤ n) (h1 : n ≤ 9223372036854775807) : zig n < 18446744073709551616 := by
  unfold zig; split <;> omega
theorem zig_len {n : Int} (h0 : -9223372036854775808 ≤ n) (h1 : n ≤ 9223372036854775807) : (varint (zig n)).length ≤ 10 :=
  varint_len 9 _ (by have := zig_lt h0 h1; omega)

theorem u64_xor_all (a : Nat) (ha : a < 18446744073709551616) : a ^^^ 18446744073709551615 = 18446744073709551615 - a := by
  have h := congrArg BitVec.toNat (BitVec.xor_allOnes (x := BitVec.ofNat 64 a))
  simp only [BitVec.toNat_xor, BitVec.toNat_not, BitVec.toNat_ofNat, BitVec.toNat_allOnes] at h
  rw [Nat.mod_eq_of_lt (by omega)] at h
  omega
theorem zig_not {n : Int} (h0 : -9223372036854775808 ≤ n) (h : n < 0) :
    bits BinOp.xor IntKind.u64 IntKind.u64.max (IntKind.u64.wrap (IntKind.u64.wrap n * 2)) = (zig n : Int) := by
  have e1 : ∀ x : Int, IntKind.u64.wrap x = x % 18446744073709551616 := fun x => by simp [IntKind.wrap, IntKind.bits, IntKind.signed]
  have e2 : IntKind.u64.max = 18446744073709551615 := by decide +kernel
  simp only [e1, e2]
  rw [u64_xor _ _ (by omega) (by omega) (by omega) (by omega), Nat.xor_comm]
  unfold zig
  rw [if_pos h, show (18446744073709551615 : Int).toNat = 18446744073709551615 from rfl, u64_xor_all _ (by omega)]
  omega
theorem zig_pos {n : Int} (h : ¬ n < 0) : n * 2 = (zig n : Int) := by unfold zig; rw [if_neg h]; omega
theorem ba_app (a b : List UInt8) : (⟨a.toArray⟩ : ByteArray) ++ (⟨b.toArray⟩ : ByteArray) = ⟨(a ++ b).toArray⟩ := by
  apply ByteArray.ext
  simp [ByteArray.data_append]
/-- What is read: the number, how many bytes it has, an error's number. -/
def getU : Nat → Nat → List UInt8 → Nat × Nat × Nat
  | _, _, [] => (0, 0, 14)
  | i, u, c :: cs => if i = 9 ∧ 1 < c.toNat then (0, 0, 2) else if 128 ≤ c.toNat then getU (i + 1) (u + c.toNat % 128 * 2 ^ (7 * i)) cs
    else if 0 < i ∧ c.toNat = 0 then (0, 0, 3) else (u + c.toNat % 128 * 2 ^ (7 * i), i + 1, 0)
def unzig (u : Nat) : Int := if u % 2 = 1 then -((u / 2 : Nat) : Int) - 1 else ((u / 2 : Nat) : Int)

theorem getU_varint : ∀ (u i v : Nat) (rest : List UInt8), u * 2 ^ (7 * i) < 18446744073709551616 → i ≤ 9 → (0 < i → 0 < u) → getU i v (varint u ++ rest) = (v + u * 2 ^ (7 * i), i + (varint u).length, 0) := by
  intro u
  induction u using Nat.strongRecOn with
  | _ u ih =>
    intro i v rest hu hi h0
    have h9 : i = 9 → u < 2 := by
      rintro rfl
      simp only [Nat.reduceMul, Nat.reducePow] at hu
      omega
    by_cases h : u < 128
    · have e1 : (UInt8.ofNat u).toNat = u := by rw [UInt8.toNat_ofNat']; omega
      rw [varint_lt h]
      simp only [List.cons_append, List.nil_append, getU, e1]
      rw [if_neg (by omega), if_neg (by omega), if_neg (by omega), Nat.mod_eq_of_lt h]
      rfl
    · have e1 : (UInt8.ofNat (u % 128 + 128)).toNat = u % 128 + 128 := by rw [UInt8.toNat_ofNat']; omega
      rw [varint_ge (by omega)]
      simp only [List.cons_append, getU, e1]
      have e2 : (u % 128 + 128) % 128 = u % 128 := by omega
      have e3 : 2 ^ (7 * (i + 1)) = 2 ^ (7 * i) * 128 := by rw [Nat.mul_add, Nat.pow_add]
      have e4 : u * 2 ^ (7 * i) = u % 128 * 2 ^ (7 * i) + u / 128 * (2 ^ (7 * i) * 128) := by
        have hq : u = u % 128 + u / 128 * 128 := by omega
        have hz : (u % 128 + u / 128 * 128) * 2 ^ (7 * i) = u % 128 * 2 ^ (7 * i) + u / 128 * (2 ^ (7 * i) * 128) := by
          rw [Nat.add_mul, Nat.mul_assoc, Nat.mul_comm 128]
        rw [← hz, ← hq]
      rw [if_neg (by omega), if_pos (by omega), e2, ih (u / 128) (by omega) (i + 1) _ rest (by rw [e3]; omega) (by omega) (by omega), e3, e4]
      simp only [List.length_cons]
      congr 1
      · omega
      · congr 1
        omega
theorem unzig_zig {n : Int} : unzig (zig n) = n := by
  unfold unzig zig
  split <;> split <;> omega
theorem get_varint {n : Int} (h0 : -9223372036854775808 ≤ n) (h1 : n ≤ 9223372036854775807) (rest : List UInt8) : getU 0 0 (varint (zig n) ++ rest) = (zig n, (varint (zig n)).length, 0) := by
  have := getU_varint (zig n) 0 0 rest (by have := zig_lt h0 h1; omega) (by omega) (by omega)
  simpa using this
end Go.Proofs.YtdfgfjnpllncdaaGreatDoor

namespace Go.Proofs.YtdfgfjnpllncdaaGreatDoor.I
open Go.RowKit
set_option linter.unusedVariables false
set_option linter.unusedSimpArgs false
set_option linter.constructorNameAsVariable false
/-- A node's head. -/
def headT (nd : DNode) : List UInt8 := varint (zig nd.1) ++ (varint (zig nd.2.1.1) ++ (varint (zig nd.2.1.2.1) ++ (varint (zig ((nd.2.1.2.2.1.size : Nat) : Int)) ++ (ofS nd.2.1.2.2.1 ++ (varint (zig ((nd.2.2.1.size : Nat) : Int)) ++ (ofS nd.2.2.1 ++ (if nd.2.1.2.2.2.1 = true then [33] else [])))))))
mutual
def treeB : DExp → List UInt8
  | .node nd ks => 40 :: (headT nd ++ (treesB ks ++ [41]))
def treesB : List DExp → List UInt8
  | [] => []
  | k :: ks => treeB k ++ treesB ks
end
theorem treesB_snoc (a : List DExp) (k : DExp) : treesB (a ++ [k]) = treesB a ++ treeB k := by
  induction a with
  | nil => simp [treesB]
  | cons x a ih => simp only [List.cons_append, treesB, ih, List.append_assoc]
theorem treeB_node (t : DExp) : treeB t = 40 :: (headT (Tree.val t) ++ (treesB (Tree.kids t) ++ [41])) := by
  cases t
  simp only [treeB, Tree.val, Tree.kids]
theorem num_inj {m n : Int} (hm : In64 m) (hn : In64 n) {x y : List UInt8} (h : varint (zig m) ++ x = varint (zig n) ++ y) : m = n ∧ x = y := by
  have h1 := get_varint hm.1 hm.2 x
  rw [h, get_varint hn.1 hn.2 y] at h1
  have h2 : zig n = zig m := congrArg Prod.fst h1
  have h3 : m = n := by
    have := congrArg unzig h2
    rw [unzig_zig, unzig_zig] at this
    exact this.symm
  subst h3
  exact ⟨rfl, List.append_cancel_left h⟩
theorem str_inj {s t : ByteArray} (hs : s.size ≤ 9223372036854775807) (ht : t.size ≤ 9223372036854775807) {x y : List UInt8} (h : varint (zig ((s.size : Nat) : Int)) ++ (ofS s ++ x) = varint (zig ((t.size : Nat) : Int)) ++ (ofS t ++ y)) : s = t ∧ x = y := by
  obtain ⟨h1, h2⟩ := num_inj ⟨by omega, by omega⟩ ⟨by omega, by omega⟩ h
  have hl : (ofS s).length = (ofS t).length := by rw [ofS_len, ofS_len]; omega
  obtain ⟨h3, h4⟩ := List.append_inj h2 hl
  refine ⟨?_, h4⟩
  rw [← mk_ofS s, ← mk_ofS t, h3]
structure NdOk (nd : DNode) : Prop where
  op : In64 nd.1
  kind : In64 nd.2.1.1
  n : In64 nd.2.1.2.1
  s : nd.2.1.2.2.1.size ≤ 9223372036854775807
  name : nd.2.2.1.size ≤ 9223372036854775807
theorem ndOk {t : DExp} (h : small kExp t) : NdOk (Tree.val t) := by
  obtain ⟨h1, h2, h3, h4, h5⟩ := exp_small h
  exact ⟨wf_in h1, wf_in h2.1, wf_in h2.2.1, h2.2.2.1, h3⟩
theorem head_inj {a b : DNode} (ha : NdOk a) (hb : NdOk b) {x y : List UInt8} (hx : x.head? ≠ some 33) (hy : y.head? ≠ some 33) (h : headT a ++ x = headT b ++ y) : a = b ∧ x = y := by
  obtain ⟨a1, ⟨a2, a3, a4, a5, ⟨⟩⟩, a6, ⟨⟩⟩ := a
  obtain ⟨b1, ⟨b2, b3, b4, b5, ⟨⟩⟩, b6, ⟨⟩⟩ := b
  simp only [headT, List.append_assoc] at h
  obtain ⟨e1, h⟩ := num_inj ha.op hb.op h
  obtain ⟨e2, h⟩ := num_inj ha.kind hb.kind h
  obtain ⟨e3, h⟩ := num_inj ha.n hb.n h
  obtain ⟨e4, h⟩ := str_inj ha.s hb.s h
  obtain ⟨e5, h⟩ := str_inj ha.name hb.name h
  simp only at e1 e2 e3 e4 e5
  subst e1 e2 e3 e4 e5
  cases a5 <;> cases b5
  · exact ⟨rfl, by simpa using h⟩
  · exfalso
    have : x = 33 :: y := by simpa using h
    rw [this] at hx
    exact hx rfl
  · exfalso
    have : 33 :: x = y := by simpa using h
    rw [← this] at hy
    exact hy rfl
  · exact ⟨rfl, by simpa using h⟩
theorem kids_head (ks : List DExp) (x : List UInt8) : (treesB ks ++ (41 :: x)).head? ≠ some 33 := by
  cases ks with
  | nil => simp [treesB]
  | cons k ks => rw [treesB, treeB_node]; simp
mutual
theorem tree_inj : ∀ (a b : DExp) (x y : List UInt8), small kExp a → small kExp b → treeB a ++ x = treeB b ++ y → a = b ∧ x = y
  | .node nd ks, b, x, y, ha, hb, h => by
    have hna := ndOk ha
    have hnb := ndOk hb
    have hka := (exp_small ha).2.2.2.2
    have hkb := (exp_small hb).2.2.2.2
    cases b with
    | node md ls =>
      simp only [treeB, List.cons_append, List.cons.injEq, true_and, List.append_assoc, List.nil_append] at h
      obtain ⟨e1, h'⟩ := head_inj hna hnb (kids_head _ _) (kids_head _ _) h
      obtain ⟨e2, h2⟩ := trees_inj ks ls x y hka hkb h'
      simp only [Tree.val] at e1
      exact ⟨by rw [e1, e2], h2⟩
theorem trees_inj : ∀ (a b : List DExp) (x y : List UInt8), (∀ k ∈ a, small kExp k) → (∀ k ∈ b, small kExp k) → treesB a ++ (41 :: x) = treesB b ++ (41 :: y) → a = b ∧ x = y
  | [], [], x, y, _, _, h => by
    simp only [treesB, List.nil_append, List.cons.injEq, true_and] at h
    exact ⟨rfl, h⟩
  | [], b :: bs, x, y, _, _, h => by
    rw [treesB, treesB, treeB_node] at h
    simp at h
  | a :: as', [], x, y, _, _, h => by
    rw [treesB, treesB, treeB_node] at h
    simp at h
  | a :: as', b :: bs, x, y, ha, hb, h => by
    simp only [treesB, List.append_assoc] at h
    obtain ⟨e1, h'⟩ := tree_inj a b _ _ (ha a (by simp)) (hb b (by simp)) h
    obtain ⟨e2, h2⟩ := trees_inj as' bs x y (fun k hk => ha k (by simp [hk])) (fun k hk => hb k (by simp [hk])) h'
    exact ⟨by rw [e1, e2], h2⟩
end
theorem treeB_inj {a b : DExp} (ha : small kExp a) (hb : small kExp b) : treeB a = treeB b ↔ a = b := by
  refine ⟨fun h => (tree_inj a b [] [] ha hb (by rw [h])).1, fun h => by rw [h]⟩
theorem head_len' {nd : DNode} (h : NdOk nd) : (headT nd).length ≤ 51 + nd.2.1.2.2.1.size + nd.2.2.1.size := by
  have h1 := zig_len h.op.1 h.op.2
  have h2 := zig_len h.kind.1 h.kind.2
  have h3 := zig_len h.n.1 h.n.2
  have h4 := zig_len (n := ((nd.2.1.2.2.1.size : Nat) : Int)) (by omega) (by have := h.s; omega)
  have h5 := zig_len (n := ((nd.2.2.1.size : Nat) : Int)) (by omega) (by have := h.name; omega)
  have h6 : (if nd.2.1.2.2.2.1 = true then [33] else ([] : List UInt8)).length ≤ 1 := by split <;> simp
  unfold headT
  simp only [List.length_append, ofS_len]
  omega
mutual
theorem tree_len : ∀ (t : DExp), small kExp t → (treeB t).length ≤ 60 * bulkK kExp t
  | .node nd ks, h => by
    have h1 := head_len' (ndOk h)
    have h2 := trees_len ks (exp_small h).2.2.2.2
    simp only [Tree.val] at h1
    have e1 : bulkK kExp (.node nd ks) = (1 + ((1 + (1 + ((nd.2.1.2.2.1.size + 1) + (1 + 0)))) + ((nd.2.2.1.size + 1) + 0))) + (ks.map (bulkK kExp)).sum + 1 := by
      show bulkK.bulkT (bulkK kNode) (.node nd ks) = _
      rw [bulkK.bulkT, bulkTs_eq]
      rfl
    rw [e1]
    simp only [treeB, List.length_cons, List.length_append, List.length_nil]
    omega
theorem trees_len : ∀ (ks : List DExp), (∀ k ∈ ks, small kExp k) → (treesB ks).length ≤ 60 * (ks.map (bulkK kExp)).sum
  | [], _ => by simp [treesB]
  | k :: ks, h => by
    have h1 := tree_len k (h k (by simp))
    have h2 := trees_len ks (fun x hx => h x (by simp [hx]))
    simp only [treesB, List.length_append, List.map_cons, List.sum_cons]
    omega
end
end Go.Proofs.YtdfgfjnpllncdaaGreatDoor.I

namespace Go.Proofs.YtdfgfjnpllncdaaGreatDoor.I
open Go.RowKit
set_option linter.unusedVariables false
set_option linter.constructorNameAsVariable false
def vpre (u : Nat) : List UInt8 := if h : u < 128 then [] else UInt8.ofNat (u % 128 + 128) :: vpre (u / 128)
def vlast (u : Nat) : Nat := if h : u < 128 then u else vlast (u / 128)
theorem varint_split (u : Nat) : varint u = vpre u ++ [UInt8.ofNat (vlast u)] := by
  induction u using Nat.strongRecOn with
  | _ u ih =>
    by_cases h : u < 128
    · rw [varint_lt h, vpre, dif_pos h, vlast, dif_pos h]; rfl
    · rw [varint_ge (by omega), vpre, dif_neg h, vlast, dif_neg h, ih (u / 128) (by omega)]; rfl
theorem vlast_lt (u : Nat) : vlast u < 128 := by
  induction u using Nat.strongRecOn with
  | _ u ih =>
    rw [vlast]
    split
    · assumption
    · exact ih _ (by omega)
theorem loop_var {D O σ : Type} {step : D → Option (D ⊕ O)} (emb : Int → σ → D) (push : σ → UInt8 → σ) (ok : σ → Nat → Prop) (out : Int → σ → O)
    (hge : ∀ (m : Nat) s, 128 ≤ m → m < 18446744073709551616 → ok s m → step (emb m s) = some (.inl (emb ((m / 128 : Nat) : Int) (push s (UInt8.ofNat (m % 128 + 128))))) ∧ ok (push s (UInt8.ofNat (m % 128 + 128))) (m / 128))
    (hlt : ∀ (m : Nat) s, m < 128 → ok s m → step (emb m s) = some (.inr (out m s))) : ∀ (m : Nat) (s : σ), m < 18446744073709551616 → ok s m → loop step (emb m s) = some (out (vlast m : Int) ((vpre m).foldl push s)) := by
  intro m
  induction m using Nat.strongRecOn with
  | _ m ih =>
    intro s hm hok
    by_cases h : m < 128
    · rw [loop_eq, hlt m s h hok, vpre, dif_pos h, vlast, dif_pos h]; rfl
    · obtain ⟨h1, h2⟩ := hge m s (by omega) hm hok
      rw [loop_eq, h1, vpre, dif_neg h, vlast, dif_neg h]
      exact ih (m / 128) (by omega) _ (by omega) h2
theorem wu8 (x : Int) : IntKind.wrap .u8 x = x % 256 := by simp [IntKind.wrap, IntKind.bits, IntKind.signed]
theorem mkStr1_size (x : Int) : (mkStr [x]).size = 1 := rfl
theorem wu64 (x : Int) : IntKind.wrap .u64 x = x % 18446744073709551616 := by simp [IntKind.wrap, IntKind.bits, IntKind.signed]
theorem byteA (m : Nat) : IntKind.wrap .u8 (IntKind.wrap .u64 (Int.tmod (m : Int) 128 + 128)) = ((UInt8.ofNat (m % 128 + 128)).toNat : Int) := by
  rw [wu8, wu64, Int.tmod_eq_emod_of_nonneg (by omega), UInt8.toNat_ofNat']
  omega
theorem divA (m : Nat) (h : m < 18446744073709551616) : IntKind.wrap .u64 (Int.tdiv (m : Int) 128) = ((m / 128 : Nat) : Int) := by
  rw [wu64, Int.tdiv_eq_ediv_of_nonneg (by omega)]
  omega
theorem byteL (m : Nat) (h : m < 128) : IntKind.wrap .u8 (m : Int) = ((UInt8.ofNat m).toNat : Int) := by
  rw [wu8, UInt8.toNat_ofNat']
  omega
theorem str_push (p : List UInt8) (b : UInt8) : (ByteArray.mk p.toArray ++ mkStr [(b.toNat : Int)]) = ⟨(p ++ [b]).toArray⟩ := by
  rw [show mkStr [(b.toNat : Int)] = ⟨[b].toArray⟩ from mkStr_toI [b], ba_app]
set_option maxHeartbeats 1000000 in
/-- A number's bytes in the reference. -/
theorem r63_eq (n : Int) (h0 : -9223372036854775808 ≤ n) (h1 : n ≤ 9223372036854775807) : r38 (n, ()) = some (⟨(varint (zig n)).toArray⟩, ()) := by
  have hz := zig_lt h0 h1
  have hl := zig_len h0 h1
  unfold r38
  have hneg : n < 0 → IntKind.wrap IntKind.u64 ((((BitVec.ofInt 64 18446744073709551615) ^^^ (BitVec.ofInt 64 (IntKind.wrap IntKind.u64 (IntKind.wrap IntKind.u64 n * 2)))).toNat : Nat) : Int) = (zig n : Int) := fun h => by
    have := zig_not h0 h
    have e2 : IntKind.u64.max = 18446744073709551615 := by decide +kernel
    rw [e2] at this
    exact this
  have hpos : ¬ n < 0 → IntKind.wrap IntKind.u64 (IntKind.wrap IntKind.u64 n * 2) = (zig n : Int) := fun h => by
    rw [wu64, wu64]
    have := zig_pos h
    omega
  have H : ∀ (step : (ByteArray × Int × Unit) × Unit → Option (((ByteArray × Int × Unit) × Unit) ⊕ (((ByteArray × Int × Unit) × Unit) ⊕ Empty))) (fin : (((ByteArray × Int × Unit) × Unit) ⊕ Empty) → Option (ByteArray × Unit)),
      (∀ s (u : Int), step ((s, (u, ())), ()) = cond (decide (127 < u)) (cond (decide (9223372036854775807 < s.size + (mkStr [IntKind.wrap .u8 (IntKind.wrap .u64 (Int.tmod u 128 + 128))]).size)) none (some (Sum.inl ((s ++ mkStr [IntKind.wrap .u8 (IntKind.wrap .u64 (Int.tmod u 128 + 128))], (IntKind.wrap .u64 (Int.tdiv u 128), ())), ())))) (some (Sum.inr (Sum.inl ((s, (u, ())), ()))))) →
      (∀ s (u : Int), fin (Sum.inl ((s, (u, ())), ())) = cond (decide (9223372036854775807 < s.size + (mkStr [IntKind.wrap .u8 u]).size)) none (some (s ++ mkStr [IntKind.wrap .u8 u], ()))) →
      Option.bind (loop step ((ByteArray.mk (List.toArray []), ((zig n : Int), ())), ())) fin = some (⟨(varint (zig n)).toArray⟩, ()) := by
    intro step fin hs hf
    have hloop := loop_var (step := step) (fun i (s : List UInt8) => ((ByteArray.mk s.toArray, (i, ())), ())) (fun s b => s ++ [b]) (fun s m => s.length + (varint m).length ≤ 100) (fun i s => Sum.inl ((ByteArray.mk s.toArray, (i, ())), ())) (fun m s hm hm2 hok => ?_) (fun m s hm hok => ?_) (zig n) [] hz (by simp; omega)
    · have hloop' : loop step ((ByteArray.mk (List.toArray []), ((zig n : Int), ())), ()) = _ := hloop
      rw [hloop', Option.bind_some, hf]
      have hfold : ∀ (l p : List UInt8), l.foldl (fun (s : List UInt8) b => s ++ [b]) p = p ++ l := by
        intro l
        induction l with
        | nil => intro p; simp
        | cons b l ih => intro p; simp [List.foldl_cons, ih]
      rw [hfold, List.nil_append, byteL _ (vlast_lt _), str_push, ← varint_split]
      have hsz : decide (9223372036854775807 < (ByteArray.mk (vpre (zig n)).toArray).size + (mkStr [((UInt8.ofNat (vlast (zig n))).toNat : Int)]).size) = false := by
        rw [size_mk, mkStr1_size]
        have := congrArg List.length (varint_split (zig n))
        simp at this
        simp; omega
      rw [hsz]
      rfl
    · have hd : decide ((127 : Int) < (m : Int)) = true := by simp; omega
      have hv := varint_ge hm
      rw [hs, hd, byteA, divA m hm2, str_push]
      have hsz : decide (9223372036854775807 < (ByteArray.mk s.toArray).size + (mkStr [((UInt8.ofNat (m % 128 + 128)).toNat : Int)]).size) = false := by
        rw [size_mk, mkStr1_size]
        simp; omega
      rw [hsz]
      refine ⟨rfl, ?_⟩
      rw [hv] at hok
      simp at hok ⊢
      omega
    · have hd : decide ((127 : Int) < (m : Int)) = false := by simp; omega
      rw [hs, hd]
      rfl
  by_cases h : n < 0
  · simp only [decide_eq_true h, cond_true, hneg h]
    exact H _ _ (fun s u => rfl) (fun s u => rfl)
  · simp only [decide_eq_false h, cond_false, hpos h]
    exact H _ _ (fun s u => rfl) (fun s u => rfl)
end Go.Proofs.YtdfgfjnpllncdaaGreatDoor.I

namespace Go.Proofs.YtdfgfjnpllncdaaGreatDoor.I
open Go.RowKit
set_option linter.unusedVariables false
set_option linter.unusedSimpArgs false
set_option linter.constructorNameAsVariable false
def bs (l : List UInt8) : ByteArray := ⟨l.toArray⟩
theorem nd_eta2 (e : DExp) : Tree.node (Tree.val e) (Tree.kids e) = e := by cases e; rfl
end Go.Proofs.YtdfgfjnpllncdaaGreatDoor.I

namespace Go.Proofs.YtdfgfjnpllncdaaGreatDoor.I
open Go.RowKit
set_option linter.unusedVariables false
set_option linter.unusedSimpArgs false
set_option linter.constructorNameAsVariable false
/-- What of an operand is needed: how strongly it binds, whether it is a number, its text. -/
abbrev KidT := Nat × Bool × List UInt8
def paren (l : List UInt8) : List UInt8 := [40] ++ l ++ [41]
def inner (k : KidT) (least : Nat) : List UInt8 := if k.1 < least then paren k.2.2 else k.2.2
end Go.Proofs.YtdfgfjnpllncdaaGreatDoor.I

namespace Go.Proofs.YtdfgfjnpllncdaaGreatDoor.I
open Go.RowKit
set_option linter.unusedVariables false
set_option linter.unusedSimpArgs false
set_option linter.constructorNameAsVariable false
theorem f_true {α : Type} {b : Bool} {x y : Option α} (h : b = true) : cond b x y = x := by subst h; rfl
theorem f_false {α : Type} {b : Bool} {x y : Option α} (h : b = false) : cond b x y = y := by subst h; rfl
theorem f_bind {α β : Type} {o : Option α} {x : α} {f : α → Option β} {z : Option β} (h : o = some x) (k : f x = z) : Option.bind o f = z := by rw [h]; exact k
theorem num_raw (x : Int) (h : In64 x) : r38 (x, ()) = some (bs (varint (zig x)), ()) := r63_eq x h.1 h.2
theorem bs_app (a b : List UInt8) : bs a ++ bs b = bs (a ++ b) := ba_app a b
theorem bs_sz (l : List UInt8) : (bs l).size = l.length := by rw [bytes_len]; rfl
theorem cat_ok (a b : List UInt8) (h : a.length + b.length ≤ 1000000000) : decide (9223372036854775807 < (bs a).size + (bs b).size) = false := by
  rw [bs_sz, bs_sz]
  exact decide_eq_false (by omega)
@[reducible] def embTr (i : Int) (s : ByteArray) : (ByteArray × Int × Unit) × Unit := ((s, (i, ())), ())
theorem treesB_take (ks : List DExp) (j : Nat) : (treesB (ks.take j)).length ≤ (treesB ks).length := by
  have h : treesB ks = treesB (ks.take j) ++ treesB (ks.drop j) := by
    have : ∀ a b : List DExp, treesB (a ++ b) = treesB a ++ treesB b := by
      intro a
      induction a with
      | nil => intro b; simp [treesB]
      | cons x a ih => intro b; simp only [List.cons_append, treesB, ih, List.append_assoc]
    rw [← this, List.take_append_drop]
  rw [h, List.length_append]
  omega
theorem treesB_mem {ks : List DExp} {k : DExp} (h : k ∈ ks) : (treeB k).length ≤ (treesB ks).length := by
  induction ks with
  | nil => cases h
  | cons x ks ih =>
    simp only [treesB, List.length_append]
    rcases List.mem_cons.1 h with rfl | h
    · omega
    · have := ih h; omega
/-- The loop over the operands. -/
theorem tree_kids (n : Nat) (ks : List DExp) (IH : ∀ k ∈ ks, r16 n (k, ()) = some (bs (treeB k), ())) (hk : ks.length ≤ 9223372036854775807) (pre : List UInt8) (hp : pre.length + (treesB ks).length + 1 ≤ 1000000000) (A : ByteArray) (hA : A = bs pre)
    (step : (ByteArray × Int × Unit) × Unit → Option (((ByteArray × Int × Unit) × Unit) ⊕ (((ByteArray × Unit) × Unit) ⊕ Empty)))
    (hs : ∀ (s : ByteArray) (i : Int), step ((s, (i, ())), ()) = cond (decide (i < (ks.length : Int))) (cond (inB i ks.length) (Option.bind (ks[Int.toNat i]?) fun x6 => Option.bind (r16 n (Tree.node (Tree.val x6) (Tree.kids x6), ())) fun x7 => cond (decide (9223372036854775807 < s.size + x7.1.size)) none (some (Sum.inl ((s ++ x7.1, (IntKind.wrap .i64 (i + 1), ())), ())))) none) (some (Sum.inr (Sum.inl ((s, ()), ()))))) :
    loop step ((A, ((0 : Int), ())), ()) = some (.inl ((bs (pre ++ treesB ks), ()), ())) := by
  subst hA
  have H : ∃ o, loop step (embTr ((0 : Nat) : Int) (bs pre)) = some o ∧ o = .inl ((bs (pre ++ treesB ks), ()), ()) := by
    refine loop_up (step := step) embTr ks.length (fun j s => s = bs (pre ++ treesB (ks.take j))) (fun o => o = .inl ((bs (pre ++ treesB ks), ()), ())) (fun j s hj hI => ?_) (fun s hI => ?_) 0 _ (Nat.zero_le _) (by simp [treesB])
    · subst hI
      obtain ⟨k, hkj⟩ := get_lt hj
      have hm := List.mem_of_getElem? hkj
      have h1 := treesB_take ks (j + 1)
      rw [take_succ hkj, treesB_snoc, List.length_append] at h1
      refine .inl ⟨bs (pre ++ treesB (ks.take (j + 1))), ?_, rfl⟩
      rw [hs]
      refine (f_true (dec_lt hj)).trans ((f_true (inB_lt hj)).trans ?_)
      refine f_bind (x := k) (by rw [Int.toNat_natCast]; exact hkj) ?_
      refine f_bind (by rw [nd_eta2]; exact IH k hm) ?_
      refine (f_false (cat_ok _ _ (by rw [List.length_append]; omega))).trans ?_
      rw [wrapS hj hk, bs_app, take_succ hkj, treesB_snoc, List.append_assoc]
    · subst hI
      rw [List.take_length]
      refine ⟨_, ?_, rfl⟩
      rw [hs]
      exact f_false dec_nlt
  obtain ⟨o, h1, rfl⟩ := H
  exact h1
set_option maxHeartbeats 4000000 in
theorem tree_raw : ∀ (n : Nat) (t : DExp), sz t ≤ n → small kExp t → (treeB t).length ≤ 1000000000 → r16 n (t, ()) = some (bs (treeB t), ())
  | 0, t, hn, _, _ => by rw [sz_node] at hn; omega
  | n + 1, t, hn, hs, hlen => by
    have hnd := ndOk hs
    have hsk := (exp_small hs).2.2.2.2
    have hlk := (exp_small hs).2.2.2.1
    have hszk : ∀ k ∈ Tree.kids t, sz k ≤ n := fun k hk => by
      have := szL_mem hk
      rw [sz_node] at hn
      omega
    rw [treeB_node] at hlen ⊢
    have IH : ∀ k ∈ Tree.kids t, r16 n (k, ()) = some (bs (treeB k), ()) := fun k hk => tree_raw n k (hszk k hk) (hsk k hk) (by
      have := treesB_mem hk
      simp only [List.length_cons, List.length_append] at hlen
      omega)
    rw [r16_succ]
    unfold r16B
    generalize Tree.kids t = ks at *
    generalize Tree.val t = nd at *
    obtain ⟨op, ⟨kd, num, str, fl, ⟨⟩⟩, nm, ⟨⟩⟩ := nd
    have a1 := num_raw op hnd.op
    have a2 := num_raw kd hnd.kind
    have a3 := num_raw num hnd.n
    have a4 := num_raw ((str.size : Nat) : Int) ⟨by omega, by have := hnd.s; simp only at this; omega⟩
    have a5 := num_raw ((nm.size : Nat) : Int) ⟨by omega, by have := hnd.name; simp only at this; omega⟩
    simp only [headT, List.length_cons, List.length_append, List.length_nil] at hlen
    have es : str = bs (ofS str) := rfl
    have en : nm = bs (ofS nm) := rfl
    have q40 : (ByteArray.mk (List.toArray (List.cons (40 : UInt8) List.nil))).size = 1 := rfl
    have q33 : (ByteArray.mk (List.toArray (List.cons (33 : UInt8) List.nil))).size = 1 := rfl
    have hacc : ((((((bs [40] ++ bs (varint (zig op))) ++ bs (varint (zig kd))) ++ bs (varint (zig num))) ++ bs (varint (zig ((str.size : Nat) : Int)))) ++ str) ++ bs (varint (zig ((nm.size : Nat) : Int)))) ++ nm = bs ([40] ++ (varint (zig op) ++ (varint (zig kd) ++ (varint (zig num) ++ (varint (zig ((str.size : Nat) : Int)) ++ (ofS str ++ (varint (zig ((nm.size : Nat) : Int)) ++ ofS nm))))))) := by
      conv => lhs; rw [es, en]
      simp only [bs_app, List.append_assoc]
      rfl
    have fin : ∀ q : List UInt8, q.length + 1 ≤ 1000000000 → cond (decide (9223372036854775807 < (bs q).size + (bs [41]).size)) none (some (bs q ++ bs [41], ())) = some (bs (q ++ [41]), ()) := fun q hq => by
      rw [f_false (cat_ok q [41] (by simpa using hq)), bs_app]
    refine f_bind a1 ?_
    refine (f_false (decide_eq_false ?_)).trans ?_
    · simp only [ByteArray.size_append, bs_sz, q40, q33]
      simp only [ofS_len] at hlen
      omega
    refine f_bind a2 ?_
    refine (f_false (decide_eq_false ?_)).trans ?_
    · simp only [ByteArray.size_append, bs_sz, q40, q33]
      simp only [ofS_len] at hlen
      omega
    refine f_bind a3 ?_
    refine (f_false (decide_eq_false ?_)).trans ?_
    · simp only [ByteArray.size_append, bs_sz, q40, q33]
      simp only [ofS_len] at hlen
      omega
    refine f_bind a4 ?_
    refine (f_false (decide_eq_false ?_)).trans ?_
    · simp only [ByteArray.size_append, bs_sz, q40, q33]
      simp only [ofS_len] at hlen
      omega
    refine (f_false (decide_eq_false ?_)).trans ?_
    · simp only [ByteArray.size_append, bs_sz, q40, q33]
      simp only [ofS_len] at hlen
      omega
    refine f_bind a5 ?_
    refine (f_false (decide_eq_false ?_)).trans ?_
    · simp only [ByteArray.size_append, bs_sz, q40, q33]
      simp only [ofS_len] at hlen
      omega
    refine (f_false (decide_eq_false ?_)).trans ?_
    · simp only [ByteArray.size_append, bs_sz, q40, q33]
      simp only [ofS_len] at hlen
      omega
    cases fl
    · refine (f_false (by rfl)).trans ?_
      simp only [if_neg (show ¬ (false = true) by decide), List.length_nil] at hlen
      refine f_bind (x := .inl ((bs (([40] ++ (varint (zig op) ++ (varint (zig kd) ++ (varint (zig num) ++ (varint (zig ((str.size : Nat) : Int)) ++ (ofS str ++ (varint (zig ((nm.size : Nat) : Int)) ++ ofS nm))))))) ++ treesB ks), ()), ())) ?_ ?_
      · exact tree_kids n ks IH hlk _ (by simp only [List.length_cons, List.length_nil, List.length_append]; omega) _ hacc _ (by intros; rfl)
      · refine (fin _ (by simp only [List.length_cons, List.length_nil, List.length_append]; omega)).trans ?_
        congr 2
        simp [headT]
    · refine (f_true (by rfl)).trans ?_
      rw [if_pos (show true = true from rfl)] at hlen
      simp only [List.length_cons, List.length_nil] at hlen
      refine (f_false (decide_eq_false ?_)).trans ?_
      · simp only [ByteArray.size_append, bs_sz, q40, q33]
        simp only [ofS_len] at hlen
        omega
      refine f_bind (x := .inl ((bs ((([40] ++ (varint (zig op) ++ (varint (zig kd) ++ (varint (zig num) ++ (varint (zig ((str.size : Nat) : Int)) ++ (ofS str ++ (varint (zig ((nm.size : Nat) : Int)) ++ ofS nm))))))) ++ [33]) ++ treesB ks), ()), ())) ?_ ?_
      · have hacc2 : (((((((bs [40] ++ bs (varint (zig op))) ++ bs (varint (zig kd))) ++ bs (varint (zig num))) ++ bs (varint (zig ((str.size : Nat) : Int)))) ++ str) ++ bs (varint (zig ((nm.size : Nat) : Int)))) ++ nm) ++ bs [33] = bs (([40] ++ (varint (zig op) ++ (varint (zig kd) ++ (varint (zig num) ++ (varint (zig ((str.size : Nat) : Int)) ++ (ofS str ++ (varint (zig ((nm.size : Nat) : Int)) ++ ofS nm))))))) ++ [33]) := by rw [hacc, bs_app]
        exact tree_kids n ks IH hlk _ (by simp only [List.length_cons, List.length_nil, List.length_append]; omega) _ hacc2 _ (by intros; rfl)
      · refine (fin _ (by simp only [List.length_cons, List.length_nil, List.length_append]; omega)).trans ?_
        congr 2
        simp [headT]
end Go.Proofs.YtdfgfjnpllncdaaGreatDoor.I

namespace Go.Proofs.YtdfgfjnpllncdaaGreatDoor.I
open Go.RowKit
set_option linter.unusedVariables false
set_option linter.unusedSimpArgs false
set_option linter.constructorNameAsVariable false
theorem d_true {α : Type} {b : Bool} {x y : Option α} (h : b = true) : cond b x y = x := by subst h; rfl
theorem d_false {α : Type} {b : Bool} {x y : Option α} (h : b = false) : cond b x y = y := by subst h; rfl
theorem one {l : List Int} (h : l.length = 1) : ∃ a, l = [a] := by
  match l, h with
  | [a], _ => exact ⟨a, rfl⟩
end Go.Proofs.YtdfgfjnpllncdaaGreatDoor.I

namespace Go.Proofs.YtdfgfjnpllncdaaGreatDoor.I
open Go.RowKit
set_option linter.unusedVariables false
set_option linter.unusedSimpArgs false
set_option linter.constructorNameAsVariable false
noncomputable instance decExp : DecidableEq DExp := fun a b => Classical.propDecidable (a = b)
theorem eqStr_same (a : List ByteArray) (hl : a.length ≤ 1000000) : r11 (a, (a, ())) = some (true, ()) := by
  unfold r11
  refine (d_false (by rw [decide_eq_true rfl]; rfl)).trans ?_
  refine bind_loop (Post := fun o => o = Sum.inr (Sum.inl ((), ()))) (loop_up embI a.length (fun j _ => True) _ (fun j u hj hI => ?_) (fun u hI => ?_) 0 () (Nat.zero_le _) trivial) (fun o ho => ?_)
  · obtain ⟨t, ht⟩ := get_lt hj
    refine .inl ⟨(), ?_, trivial⟩
    simp only [embI, dec_lt hj, inB_lt hj, Int.toNat_natCast, ht, cond_true, Option.bind_some, wrapS hj (show a.length ≤ 9223372036854775807 by omega), decide_true, Bool.not_true, cond_false]
  · exact ⟨_, by simp only [embI, dec_nlt, cond_false], rfl⟩
  · rw [ho]; rfl
theorem node_eq (a b : DExp) : a = b ↔ Tree.val a = Tree.val b ∧ Tree.kids a = Tree.kids b := by
  cases a; cases b
  simp [Tree.val, Tree.kids]
theorem sz_pos (t : DExp) : 1 ≤ sz t := by rw [sz_node]; omega
/-- Two lists of operands. -/
theorem same_kids (n : Nat) (ks ls : List DExp) (IH : ∀ k ∈ ks, ∀ l ∈ ls, r15 n (k, (l, ())) = some (decide (k = l), ())) (hk : ks.length ≤ 9223372036854775807) :
    r37_15B n r37_15 r15 (ks, (ls, ((), ()))) = some (decide (ks = ls), ()) := by
  unfold r37_15B
  simp only [nd_eta2]
  by_cases hl : ks.length = ls.length
  · refine (d_false (by rw [decide_eq_true (by exact_mod_cast hl)]; rfl)).trans ?_
    refine bind_loop (Post := fun o => (o = Sum.inl ((false, ()), ()) ∧ ks ≠ ls) ∨ (o = Sum.inr (Sum.inl ((), ())) ∧ ks = ls)) (loop_up embI ks.length (fun j _ => ks.take j = ls.take j) _ (fun j u hj hI => ?_) (fun u hI => ?_) 0 () (Nat.zero_le _) rfl) (fun o ho => ?_)
    · obtain ⟨k, hkj⟩ := get_lt hj
      have hj2 : j < ls.length := by omega
      obtain ⟨l, hlj⟩ := get_lt hj2
      have e := IH k (List.mem_of_getElem? hkj) l (List.mem_of_getElem? hlj)
      have e : r15 n (k, (l, Unit.unit)) = _ := e
      simp only [embI, dec_lt hj, inB_lt hj, inB_lt hj2, Int.toNat_natCast, hkj, hlj, cond_true, Option.bind_some, wrapS hj hk, nd_eta2, e]
      by_cases h : k = l
      · refine .inl ⟨(), by rw [d_false (by rw [decide_eq_true h]; rfl)], ?_⟩
        rw [take_succ hkj, take_succ hlj, hI, h]
      · refine .inr ⟨_, by rw [d_true (by rw [decide_eq_false h]; rfl)], .inl ⟨rfl, fun hc => h ?_⟩⟩
        rw [hc, hlj] at hkj
        exact (Option.some.inj hkj).symm
    · refine ⟨_, by simp only [embI, dec_nlt, cond_false], .inr ⟨rfl, ?_⟩⟩
      rw [List.take_length, hl, List.take_length] at hI
      exact hI
    · rcases ho with ⟨rfl, h⟩ | ⟨rfl, h⟩
      · rw [decide_eq_false h]; rfl
      · rw [decide_eq_true h]; rfl
  · refine (d_true (by rw [decide_eq_false (by exact_mod_cast hl)]; rfl)).trans ?_
    rw [decide_eq_false (fun h => hl (by rw [h]))]
theorem same_eq : ∀ (n : Nat) (a b : DExp), 2 * sz a ≤ n → small kExp a → small kExp b → r15 n (a, (b, ())) = some (decide (a = b), ())
  | 0, a, b, hn, _, _ => by have := sz_pos a; omega
  | 1, a, b, hn, _, _ => by have := sz_pos a; omega
  | n + 2, a, b, hn, ha, hb => by
    have hka := (exp_small ha).2.2.2.2
    have hkb := (exp_small hb).2.2.2.2
    have hla := (exp_small ha).2.2.2.1
    have IH : ∀ k ∈ Tree.kids a, ∀ l ∈ Tree.kids b, r15 n (k, (l, ())) = some (decide (k = l), ()) := fun k hk l hl => same_eq n k l (by
      have := szL_mem hk
      rw [sz_node] at hn
      omega) (hka k hk) (hkb l hl)
    have hf := same_kids n (Tree.kids a) (Tree.kids b) IH hla
    rw [r15_succ]
    unfold r15B
    rw [r37_15_succ]
    rw [show decide (a = b) = (decide (Tree.val a = Tree.val b) && decide (Tree.kids a = Tree.kids b)) by rw [← Bool.decide_and]; exact decide_eq_decide.2 (node_eq a b)]
    have hf : r37_15B n r37_15 r15 (Tree.kids a, (Tree.kids b, (Unit.unit, Unit.unit))) = _ := hf
    simp only [hf, Option.bind_some]
    generalize decide (Tree.kids a = Tree.kids b) = q
    generalize Tree.val a = x
    generalize Tree.val b = y
    obtain ⟨x1, ⟨x2, x3, x4, x5, ⟨⟩⟩, x6, ⟨⟩⟩ := x
    obtain ⟨y1, ⟨y2, y3, y4, y5, ⟨⟩⟩, y6, ⟨⟩⟩ := y
    simp only
    by_cases h1 : x1 = y1
    · by_cases h2 : x2 = y2
      · by_cases h3 : x3 = y3
        · by_cases h4 : x4 = y4
          · by_cases h5 : x5 = y5
            · by_cases h6 : x6 = y6
              · subst h1 h2 h3 h4 h5 h6
                simp
              · simp [h1, h2, h3, h4, h5, h6]
            · simp [h1, h2, h3, h4, h5]
          · simp [h1, h2, h3, h4]
        · simp [h1, h2, h3]
      · simp [h1, h2]
    · simp [h1]
theorem fits88' {k : Nat} (h : k ≤ 1100000) : fits k 88 = true := by unfold fits; simp; omega
@[reducible] def embCp (i : Int) (s : List DExp) : (List DExp × Int × Unit) × Unit := ((s, (i, ())), ())
theorem szL_len : ∀ (ks : List DExp), ks.length ≤ szL ks
  | [] => by simp [szL]
  | k :: ks => by
    have := szL_len ks
    have := sz_pos k
    simp only [List.length_cons, szL]
    omega
theorem copy_eq : ∀ (n : Nat) (t : DExp), sz t ≤ n → sz t ≤ 1048576 → r17 n (t, ()) = some (t, ())
  | 0, t, hn, _ => by have := sz_pos t; omega
  | n + 1, t, hn, hm => by
    have IH : ∀ k ∈ Tree.kids t, r17 n (k, ()) = some (k, ()) := fun k hk => by
      have := szL_mem hk
      rw [sz_node] at hn hm
      exact copy_eq n k (by omega) (by omega)
    have hl : (Tree.kids t).length ≤ 1048576 := by
      have := szL_len (Tree.kids t)
      rw [sz_node] at hm
      omega
    rw [r17_succ]
    unfold r17B
    simp only [nd_eta2]
    refine bind_loop (Post := fun o => o = Sum.inl ((Tree.kids t, ()), ())) (loop_up embCp (Tree.kids t).length (fun j s => s = (Tree.kids t).take j) _ (fun j s hj hI => ?_) (fun s hI => ?_) 0 [] (Nat.zero_le _) rfl) (fun o ho => ?_)
    · obtain ⟨k, hk⟩ := get_lt hj
      have e : r17 n (k, Unit.unit) = _ := IH k (List.mem_of_getElem? hk)
      refine .inl ⟨s ++ [k], ?_, by rw [hI, take_succ hk]⟩
      have hls : s.length ≤ 1048576 := by rw [hI, List.length_take]; omega
      simp only [embCp, dec_lt hj, inB_lt hj, Int.toNat_natCast, hk, cond_true, Option.bind_some, wrapS hj (show (Tree.kids t).length ≤ 9223372036854775807 by omega), nd_eta2, e]
      exact f_true (fits88' (by simp only [List.length_cons, List.length_nil]; omega))
    · rw [List.take_length] at hI
      subst hI
      exact ⟨_, by simp only [embCp, dec_nlt, cond_false], rfl⟩
    · subst ho
      show some (Tree.node (Tree.val t) (Tree.kids t), ()) = _
      rw [nd_eta2]
end Go.Proofs.YtdfgfjnpllncdaaGreatDoor.I

namespace Go.Proofs.YtdfgfjnpllncdaaGreatDoor.I
set_option linter.unusedVariables false
structure Le {α : Type} (a b : Option α) : Prop where
  h : ∀ y, a = some y → b = some y
theorem le_refl {α : Type} (a : Option α) : Le a a := ⟨fun _ h => h⟩
theorem le_none {α : Type} (a : Option α) : Le none a := ⟨fun _ h => by cases h⟩
theorem le_cond {α : Type} (b : Bool) {x y x' y' : Option α} (h : Le x x') (k : Le y y') : Le (cond b x y) (cond b x' y') := by
  cases b <;> assumption
theorem le_bind {α β : Type} {o o' : Option α} {f f' : α → Option β} (h : Le o o') (k : ∀ x, Le (f x) (f' x)) : Le (Option.bind o f) (Option.bind o' f') := ⟨fun y e => by
  cases o with
  | none => cases e
  | some x =>
    rw [h.h x rfl]
    exact (k x).h y e⟩
theorem le_sumE {α β γ : Type} {f f' : α → Option γ} {g g' : β → Option γ} (h : ∀ x, Le (f x) (f' x)) (k : ∀ x, Le (g x) (g' x)) (o : α ⊕ β) : Le (sumE f g o) (sumE f' g' o) := by
  cases o with
  | inl x => exact h x
  | inr x => exact k x
theorem le_iter {D O : Type} {s s' : D → Option (D ⊕ O)} (h : ∀ d, Le (s d) (s' d)) : ∀ (m : Nat) (d : D), Le (iter s m d) (iter s' m d)
  | 0, d => ⟨fun _ e => by cases e⟩
  | m + 1, d => ⟨fun y e => by
    simp only [iter] at e ⊢
    cases hs : s d with
    | none => rw [hs] at e; cases e
    | some r =>
      rw [hs] at e
      rw [(h d).h r hs]
      cases r with
      | inl d' => exact (le_iter h m d').h y e
      | inr o => exact e⟩
def loopF (m : Nat) {D O : Type} (step : D → Option (D ⊕ O)) (d : D) : Option O := iter step m d
theorem le_loop {D O : Type} {s s' : D → Option (D ⊕ O)} (m : Nat) (h : ∀ d, Le (s d) (s' d)) (d : D) : Le (loopF m s d) (loop s' d) := ⟨fun y e => loop_of_iter ((le_iter h m d).h y e)⟩
end Go.Proofs.YtdfgfjnpllncdaaGreatDoor.I
