import Derived.Test.YtdfgfjnpllncdaaGreatDoorXt4
namespace Go.Proofs.YtdfgfjnpllncdaaGreatDoor.I
open Go.RowKit
set_option linter.unusedVariables false
/-- A loop over a list, told by recursion. -/
def foldL {α S O : Type} (body : Nat → α → S → Option (S ⊕ O)) (out : S → O) : Nat → List α → S → Option O
  | _, [], s => some (out s)
  | i, a :: l, s => match body i a s with
    | none => none
    | some (.inl s') => foldL body out (i + 1) l s'
    | some (.inr o) => some o
def stepTo {D S O : Type} (emb : Int → S → D) (i : Nat) : Option (S ⊕ O) → Option (D ⊕ O)
  | none => none
  | some (.inl s') => some (.inl (emb ((i : Int) + 1) s'))
  | some (.inr o) => some (.inr o)
theorem loop_from {α S D O : Type} {step : D → Option (D ⊕ O)} (emb : Int → S → D) (xs : List α) (body : Nat → α → S → Option (S ⊕ O)) (out : S → O)
    (hin : ∀ (i : Nat) a s, xs[i]? = some a → step (emb i s) = stepTo emb i (body i a s))
    (hend : ∀ s, step (emb (xs.length : Int) s) = some (.inr (out s))) : ∀ (l : List α) (i : Nat) (s : S), i ≤ xs.length → xs.drop i = l → loop step (emb i s) = foldL body out i l s
  | [], i, s, hi, hl => by
    have : i = xs.length := by
      have := congrArg List.length hl
      simp at this; omega
    subst this
    rw [loop_eq, hend]
    rfl
  | a :: l, i, s, hi, hl => by
    have ha : xs[i]? = some a := by
      have := congrArg (fun l => l[0]?) hl
      simpa using this
    have hlt : i < xs.length := (List.getElem?_eq_some_iff.1 ha).1
    have hd : xs.drop (i + 1) = l := by rw [← List.drop_drop, hl]; rfl
    rw [loop_eq, hin i a s ha]
    simp only [foldL]
    cases hb : body i a s with
    | none => rfl
    | some r =>
      cases r with
      | inr o => rfl
      | inl s' =>
        simp only [stepTo]
        exact loop_from emb xs body out hin hend l (i + 1) s' hlt hd
theorem loop_list {α S D O : Type} {step : D → Option (D ⊕ O)} (emb : Int → S → D) (xs : List α) (body : Nat → α → S → Option (S ⊕ O)) (out : S → O)
    (hin : ∀ (i : Nat) a s, xs[i]? = some a → step (emb i s) = stepTo emb i (body i a s))
    (hend : ∀ s, step (emb (xs.length : Int) s) = some (.inr (out s))) (s : S) : loop step (emb 0 s) = foldL body out 0 xs s :=
  loop_from emb xs body out hin hend xs 0 s (Nat.zero_le _) rfl
theorem wrap64 {n : Int} (h1 : -9223372036854775808 ≤ n) (h2 : n ≤ 9223372036854775807) : IntKind.wrap .i64 n = n := by
  unfold IntKind.wrap
  simp only [IntKind.signed, IntKind.bits]
  simp
  omega
theorem lt_of_get {α : Type} {xs : List α} {i : Nat} {a : α} (h : xs[i]? = some a) : i < xs.length := (List.getElem?_eq_some_iff.1 h).1
theorem dec_lt {i n : Nat} (h : i < n) : decide ((i : Int) < (n : Int)) = true := by simp; omega
theorem dec_nlt {i : Nat} : decide ((i : Int) < (i : Int)) = false := by simp
theorem inB_lt {i n : Nat} (h : i < n) : inB (i : Int) n = true := by unfold inB; simp; omega
theorem wrapS {i n : Nat} (h : i < n) (hn : n ≤ 9223372036854775807) : IntKind.wrap .i64 ((i : Int) + 1) = (i : Int) + 1 := wrap64 (by omega) (by omega)
theorem bytes_get {s : ByteArray} {i : Nat} : strAt s (i : Int) = s.data.toList[i]? := by
  unfold strAt
  rw [if_pos (by omega)]
  simp only [Int.toNat_natCast]
  show s[i]? = _
  cases h : s.data.toList[i]? with
  | none =>
    have := List.getElem?_eq_none_iff.1 h
    rw [Array.length_toList] at this
    exact getElem?_neg s i (by show ¬ i < s.data.size; omega)
  | some b =>
    have h2 := (List.getElem?_eq_some_iff.1 h)
    obtain ⟨h3, h4⟩ := h2
    rw [Array.length_toList] at h3
    rw [getElem?_pos s i h3]
    congr 1
theorem bytes_len {s : ByteArray} : s.size = s.data.toList.length := by rw [Array.length_toList]; rfl
end Go.Proofs.YtdfgfjnpllncdaaGreatDoor.I

namespace Go.Proofs.YtdfgfjnpllncdaaGreatDoor.I
open Go.RowKit
set_option linter.unusedVariables false

abbrev DVal := Int × Int × ByteArray × Bool × Unit
def found {O : Type} : Option O → Option (Unit ⊕ O)
  | some o => some (.inr o)
  | none => some (.inl ())
theorem foldL_find {α O : Type} {body : Nat → α → Unit → Option (Unit ⊕ O)} {out : Unit → O} (g : α → Option O) : ∀ (xs : List α) (i : Nat), (∀ (j : Nat) a, xs[j]? = some a → body (i + j) a () = found (g a)) →
    foldL body out i xs () = some ((xs.findSome? g).getD (out ()))
  | [], i, _ => rfl
  | a :: l, i, h => by
    have h0 := h 0 a rfl
    simp only [Nat.add_zero] at h0
    simp only [foldL, h0, List.findSome?_cons]
    cases hg : g a with
    | some o => rfl
    | none =>
      simp only [found]
      exact foldL_find g l (i + 1) (fun j b hb => by
        have := h (j + 1) b (by simpa using hb)
        rwa [show i + 1 + j = i + (j + 1) by omega])

def okB (b : UInt8) : Bool := !(decide ((b.toNat : Int) < 32)) && (!(decide (126 < (b.toNat : Int))) && !(decide ((b.toNat : Int) = 34)))
theorem find_all {α : Type} (p : α → Bool) {O : Type} (o : O) : ∀ (xs : List α), xs.findSome? (fun a => if p a then none else some o) = if xs.all p then none else some o
  | [] => rfl
  | a :: l => by
    rw [List.findSome?_cons, List.all_cons]
    cases h : p a with
    | true => simp [find_all p o l]
    | false => simp
theorem r38_eq (s : ByteArray) (hs : s.size ≤ 9223372036854775807) : r98 (s, ()) = some (s.data.toList.all okB, ()) := by
  unfold r98
  rw [loop_list (fun i _ => ((i, ()), ())) s.data.toList (fun i b _ => found (if okB b then none else some (Sum.inl ((false, ()), ())))) (fun _ => Sum.inr (Sum.inl ((), ()))) (fun i b _ h => ?_) (fun _ => ?_) ()]
  · rw [foldL_find (fun b => if okB b then none else some (Sum.inl ((false, ()), ()))) s.data.toList 0 (fun j a _ => rfl), find_all]
    cases s.data.toList.all okB <;> rfl
  · have hl := lt_of_get h
    have hlen : s.size = s.data.toList.length := bytes_len
    simp only [hlen, dec_lt hl, bytes_get, h, cond_true, Option.bind_some]
    rw [wrapS hl (by omega)]
    unfold okB
    cases decide ((b.toNat : Int) < 32) <;> cases decide (126 < (b.toNat : Int)) <;> cases decide ((b.toNat : Int) = 34) <;> rfl
  · simp only [← bytes_len, dec_nlt, cond_false]

def checkV (v : DVal) : Int :=
  if v.1 < 0 then 8 else if 3 < v.1 then 8 else if ¬ v.1 = 1 ∧ ¬ v.2.1 = 0 then 3 else if ¬ v.1 = 2 ∧ ¬ v.2.2.1 = ByteArray.mk (List.toArray []) then 3 else if ¬ v.1 = 3 ∧ v.2.2.2.1 = true then 3
  else if v.2.1 < -1000000000000 then 2 else if 1000000000000 < v.2.1 then 2 else if 40 < (v.2.2.1.size : Int) then 2 else if v.2.2.1.data.toList.all okB = true then 0 else 3
theorem r10_eq (v : DVal) (hs : v.2.2.1.size ≤ 9223372036854775807) : r61 (v, ()) = some (checkV v, ()) := by
  obtain ⟨k, n, s, b, ⟨⟩⟩ := v
  have h38 := r38_eq s hs
  unfold r61 checkV
  simp only [h38, Option.bind_some]
  generalize s.data.toList.all okB = a
  clear h38 hs
  generalize s.size = z
  by_cases h1 : k < 0
  · simp [h1]
  by_cases h2 : 3 < k
  · simp [h1, h2]
  have hk : k = 0 ∨ k = 1 ∨ k = 2 ∨ k = 3 := by omega
  by_cases h3 : n = 0 <;> by_cases h4 : s = ByteArray.mk (List.toArray []) <;> by_cases h5 : n < -1000000000000 <;> by_cases h6 : 1000000000000 < n <;> by_cases h7 : 40 < (z : Int) <;> rcases hk with rfl | rfl | rfl | rfl <;> cases b <;> cases a <;> simp [h3, h4, h5, h6, h7]
def okI (b : Int) : Bool := !(decide (b < 32)) && (!(decide (126 < b)) && !(decide (b = 34)))
theorem okI_all (s : ByteArray) : (bytesOf s).all okI = s.data.toList.all okB := by
  unfold bytesOf
  rw [List.all_map]
  rfl
theorem r29_eq (v : DVal) (hs : v.2.2.1.size ≤ 9223372036854775807) : r24 (v, ()) = some (checkV v, ()) := by
  obtain ⟨k, n, s, b, ⟨⟩⟩ := v
  unfold r24 checkV
  have hb : (bytesOf s).length = s.size := by unfold bytesOf; rw [List.length_map, ← bytes_len]
  rw [loop_list (fun i _ => ((i, ()), ())) (bytesOf s) (fun i b _ => found (if okI b then none else some (Sum.inl ((3, ()), ())))) (fun _ => Sum.inr (Sum.inl ((), ()))) (fun i b _ h => ?_) (fun _ => ?_) ()]
  · rw [foldL_find (fun b => if okI b then none else some (Sum.inl ((3, ()), ()))) (bytesOf s) 0 (fun j a _ => rfl), find_all, okI_all]
    generalize s.data.toList.all okB = a
    clear hb hs
    generalize s.size = z
    by_cases h1 : k < 0
    · simp [h1]
    by_cases h2 : 3 < k
    · simp [h1, h2]
    have hk : k = 0 ∨ k = 1 ∨ k = 2 ∨ k = 3 := by omega
    have hn : ((0 : Int) = n) = (n = 0) := propext eq_comm
    have hc : ((ByteArray.mk #[]) = s) = (s = ByteArray.mk #[]) := propext eq_comm
    by_cases h3 : n = 0 <;> by_cases h4 : s = ByteArray.mk (List.toArray []) <;> by_cases h5 : n < -1000000000000 <;> by_cases h6 : 1000000000000 < n <;> by_cases h7 : 40 < (z : Int) <;> rcases hk with rfl | rfl | rfl | rfl <;> cases b <;> cases a <;> simp [h3, h4, h5, h6, h7, inB, sumE, hc, hn]
  · have hl := lt_of_get h
    simp only [dec_lt hl, inB_lt hl, Int.toNat_natCast, h, cond_true, Option.bind_some]
    rw [wrapS hl (by rw [hb]; exact hs)]
    unfold okI
    cases decide (b < 32) <;> cases decide (126 < b) <;> cases decide (b = 34) <;> rfl
  · simp only [dec_nlt, cond_false]
end Go.Proofs.YtdfgfjnpllncdaaGreatDoor.I

namespace Go.Proofs.YtdfgfjnpllncdaaGreatDoor.I
open Go.RowKit
set_option linter.unusedVariables false
theorem loop_up {S D O : Type} {step : D → Option (D ⊕ O)} (emb : Int → S → D) (n : Nat) (Inv : Nat → S → Prop) (Post : O → Prop)
    (hin : ∀ (i : Nat) (s : S), i < n → Inv i s → (∃ s', step (emb (i : Int) s) = some (.inl (emb ((i : Int) + 1) s')) ∧ Inv (i + 1) s') ∨ ∃ o, step (emb (i : Int) s) = some (.inr o) ∧ Post o)
    (hend : ∀ s, Inv n s → ∃ o, step (emb (n : Int) s) = some (.inr o) ∧ Post o) : ∀ (k : Nat) (s : S), k ≤ n → Inv k s → ∃ o, loop step (emb (k : Int) s) = some o ∧ Post o := by
  have key : ∀ (m k : Nat) (s : S), n - k = m → k ≤ n → Inv k s → ∃ o, loop step (emb (k : Int) s) = some o ∧ Post o := by
    intro m
    induction m with
    | zero =>
      intro k s hm hk hI
      have : k = n := by omega
      subst this
      obtain ⟨o, h1, h2⟩ := hend s hI
      rw [loop_eq, h1]
      exact ⟨o, rfl, h2⟩
    | succ m ih =>
      intro k s hm hk hI
      rcases hin k s (by omega) hI with ⟨s', h1, h2⟩ | ⟨o, h1, h2⟩
      · rw [loop_eq, h1]
        exact ih (k + 1) s' (by omega) (by omega) h2
      · rw [loop_eq, h1]
        exact ⟨o, rfl, h2⟩
  exact fun k s => key _ k s rfl
theorem bind_loop {D O R : Type} {step : D → Option (D ⊕ O)} {d : D} {f : O → Option R} {Post : O → Prop} {y : R} (h : ∃ o, loop step d = some o ∧ Post o) (k : ∀ o, Post o → f o = some y) : Option.bind (loop step d) f = some y := by
  obtain ⟨o, h1, h2⟩ := h
  rw [h1]
  exact k o h2
theorem bind_loopQ {D O R : Type} {step : D → Option (D ⊕ O)} {d : D} {f : O → Option R} {Post : O → Prop} (Q : Option R → Prop) (h : ∃ o, loop step d = some o ∧ Post o) (k : ∀ o, Post o → Q (f o)) : Q (Option.bind (loop step d) f) := by
  obtain ⟨o, h1, h2⟩ := h
  rw [h1]
  exact k o h2
/-- From the first element on; only one way out. -/
theorem loop_all {S D O R : Type} {step : D → Option (D ⊕ O)} {f : O → Option R} {y : R} (emb : Int → S → D) (n : Nat) (Inv : Nat → S → Prop) (out : S → O)
    (hin : ∀ (i : Nat) (s : S), i < n → Inv i s → ∃ s', step (emb (i : Int) s) = some (.inl (emb ((i : Int) + 1) s')) ∧ Inv (i + 1) s')
    (hend : ∀ s, Inv n s → step (emb (n : Int) s) = some (.inr (out s))) (s0 : S) (h0 : Inv 0 s0) (k : ∀ s, Inv n s → f (out s) = some y) : Option.bind (loop step (emb 0 s0)) f = some y := by
  have h := loop_up (step := step) emb n Inv (fun o => ∃ s, Inv n s ∧ o = out s) (fun i s hi hs => .inl (hin i s hi hs)) (fun s hs => ⟨_, hend s hs, s, hs, rfl⟩) 0 s0 (Nat.zero_le _) h0
  refine bind_loop h ?_
  rintro o ⟨s, hs, rfl⟩
  exact k s hs
/-- The state after each round is told. -/
theorem loop_is {S D O R : Type} {step : D → Option (D ⊕ O)} {f : O → Option R} {y : R} (emb : Int → S → D) (n : Nat) (st : Nat → S) (out : S → O)
    (hin : ∀ (i : Nat), i < n → step (emb (i : Int) (st i)) = some (.inl (emb ((i : Int) + 1) (st (i + 1)))))
    (hend : step (emb (n : Int) (st n)) = some (.inr (out (st n)))) (k : f (out (st n)) = some y) (s0 : S) (h0 : s0 = st 0) : Option.bind (loop step (emb 0 s0)) f = some y :=
  loop_all emb n (fun i s => s = st i) out (fun i s hi hs => ⟨_, by subst hs; exact hin i hi, rfl⟩) (fun s hs => by subst hs; exact hend) s0 h0 (fun s hs => by subst hs; exact k)
theorem take_succ {α : Type} {l : List α} {i : Nat} {a : α} (h : l[i]? = some a) : l.take (i + 1) = l.take i ++ [a] := by
  rw [List.take_add_one, h]; rfl
theorem get_lt {α : Type} {l : List α} {i : Nat} (h : i < l.length) : ∃ a, l[i]? = some a := ⟨_, List.getElem?_eq_getElem h⟩
theorem bind_of {α β : Type} {o : Option α} {x : α} {f : α → Option β} {y : β} (h : o = some x) (k : f x = some y) : Option.bind o f = some y := by
  rw [h]; exact k
end Go.Proofs.YtdfgfjnpllncdaaGreatDoor.I

namespace Go.Proofs.YtdfgfjnpllncdaaGreatDoor.I
open Go.RowKit
set_option linter.unusedVariables false
set_option linter.constructorNameAsVariable false
theorem name_eq (s : ByteArray) (h : s.size ≤ 9223372036854775807) : r62 (s, ()) = some (nameOk s, ()) := by
  unfold r62
  have : decide (s.size ≤ 9223372036854775807) = true := decide_eq_true h
  simp only [this, cond_true]
end Go.Proofs.YtdfgfjnpllncdaaGreatDoor.I

namespace Go.Proofs.YtdfgfjnpllncdaaGreatDoor.I
open Go.RowKit
set_option linter.unusedVariables false
set_option linter.constructorNameAsVariable false

abbrev O3 := ((Int × Unit) × Unit) ⊕ (Unit × Unit) ⊕ Empty
def w3 (e : Int) : O3 := Sum.inl ((e, ()), ())
def w0 : O3 := Sum.inr (Sum.inl ((), ()))
end Go.Proofs.YtdfgfjnpllncdaaGreatDoor.I

namespace Go.Proofs.YtdfgfjnpllncdaaGreatDoor.I
open Go.RowKit
set_option linter.unusedVariables false
set_option linter.constructorNameAsVariable false
def Tot {α : Type} (o : Option α) : Prop := ∃ y, o = some y
theorem tot_some {α : Type} (y : α) : Tot (some y) := ⟨y, rfl⟩
theorem tot_bind {α β : Type} {o : Option α} {f : α → Option β} (h : Tot o) (k : ∀ y, Tot (f y)) : Tot (o.bind f) := by
  obtain ⟨y, rfl⟩ := h
  exact k y
/-- A loop that counts. -/
theorem tot_count {S D O : Type} {step : D → Option (D ⊕ O)} (emb : Int → S → D) (Inv : Nat → S → Prop) (n : Nat)
    (hin : ∀ (i : Nat) s, i < n → Inv i s → ∃ r, step (emb i s) = some r ∧ ((∃ s', r = .inl (emb ((i : Int) + 1) s') ∧ Inv (i + 1) s') ∨ ∃ o, r = .inr o))
    (hend : ∀ s, ∃ o, step (emb (n : Int) s) = some (.inr o)) (s : S) (h0 : Inv 0 s) : Tot (loop step (emb 0 s)) := by
  have key : ∀ (m i : Nat) (s : S), n - i = m → i ≤ n → Inv i s → Tot (loop step (emb (i : Int) s)) := by
    intro m
    induction m with
    | zero =>
      intro i s hm hi hI
      have : i = n := by omega
      subst this
      obtain ⟨o, ho⟩ := hend s
      exact ⟨o, by rw [loop_eq, ho]⟩
    | succ m ih =>
      intro i s hm hi hI
      obtain ⟨r, hr, h⟩ := hin i s (by omega) hI
      rw [loop_eq, hr]
      rcases h with ⟨s', rfl, hI'⟩ | ⟨o, rfl⟩
      · exact ih (i + 1) s' (by omega) (by omega) hI'
      · exact ⟨o, rfl⟩
  exact key n 0 s (by omega) (Nat.zero_le _) h0
theorem tot_sumE {α β γ : Type} {f : α → Option γ} {g : β → Option γ} (h : ∀ a, Tot (f a)) (k : ∀ b, Tot (g b)) (o : α ⊕ β) : Tot (sumE f g o) := by
  cases o
  · exact h _
  · exact k _
theorem tot_emptyE {γ : Type} (o : Empty) : Tot (emptyE (γ := Option γ) o) := nomatch o
/-- What a round may come to. -/
def Good {S D O : Type} (emb : Int → S → D) (Inv : Nat → S → Prop) (i : Nat) (x : Option (D ⊕ O)) : Prop := (∃ s', x = some (.inl (emb ((i : Int) + 1) s')) ∧ Inv (i + 1) s') ∨ ∃ o, x = some (.inr o)
section
variable {S D O : Type} {emb : Int → S → D} {Inv : Nat → S → Prop} {i : Nat}
theorem good_cond {b : Bool} {x y : Option (D ⊕ O)} (h : Good emb Inv i x) (k : Good emb Inv i y) : Good emb Inv i (cond b x y) := by
  cases b
  · exact k
  · exact h
theorem good_out (o : O) : Good emb Inv i (some (.inr o) : Option (D ⊕ O)) := .inr ⟨o, rfl⟩
theorem good_next (s' : S) (h : Inv (i + 1) s') : Good emb Inv i (some (.inl (emb ((i : Int) + 1) s')) : Option (D ⊕ O)) := .inl ⟨s', rfl, h⟩
theorem tot_loop {step : D → Option (D ⊕ O)} (emb : Int → S → D) (Inv : Nat → S → Prop) (n : Nat) (hin : ∀ (i : Nat) s, i < n → Inv i s → Good emb Inv i (step (emb i s))) (hend : ∀ s, ∃ o, step (emb (n : Int) s) = some (.inr o)) (s : S) (h0 : Inv 0 s) : Tot (loop step (emb 0 s)) :=
  tot_count emb Inv n (fun i s hi hI => by
    rcases hin i s hi hI with ⟨s', h1, h2⟩ | ⟨o, h1⟩
    · exact ⟨_, h1, .inl ⟨s', rfl, h2⟩⟩
    · exact ⟨_, h1, .inr ⟨o, rfl⟩⟩) hend s h0
end
abbrev IU : Type := (Int × Unit) × Unit
@[reducible] def embI (i : Int) (_ : Unit) : IU := ((i, ()), ())
theorem t145 (l : List Int) (n : Int) (hl : l.length ≤ 9223372036854775807) : Tot (r64 (l, (n, ()))) := by
  unfold r64
  refine tot_bind (tot_loop embI (fun _ _ => True) l.length (fun i _ hi _ => ?_) (fun _ => ?_) () trivial) (tot_sumE (fun _ => tot_some _) (tot_sumE (fun _ => tot_some _) tot_emptyE))
  · obtain ⟨a, ha⟩ : ∃ a, l[i]? = some a := ⟨_, List.getElem?_eq_getElem hi⟩
    dsimp only [embI]
    simp only [dec_lt hi, inB_lt hi, Int.toNat_natCast, ha, cond_true, Option.bind_some]
    rw [wrapS hi hl]
    exact good_cond (good_out _) (good_next () trivial)
  · dsimp only [embI]
    simp only [dec_nlt, cond_false]
    exact ⟨_, rfl⟩
end Go.Proofs.YtdfgfjnpllncdaaGreatDoor.I

namespace Go.Proofs.YtdfgfjnpllncdaaGreatDoor.I
open Go.RowKit
set_option linter.unusedVariables false
set_option linter.constructorNameAsVariable false
abbrev kVal : Kd := .pair (.int .i64) (.pair (.int .i64) (.pair .str (.pair .bool .unit)))
end Go.Proofs.YtdfgfjnpllncdaaGreatDoor.I

namespace Go.Proofs.YtdfgfjnpllncdaaGreatDoor.I
open Go.RowKit
set_option linter.unusedVariables false
set_option linter.unusedSimpArgs false
set_option linter.constructorNameAsVariable false
abbrev DNode := Int × DVal × ByteArray × Unit
abbrev DExp := Tree DNode
abbrev kNode : Kd := .pair (.int .i64) (.pair kVal (.pair .str .unit))
abbrev kExp : Kd := .tree kNode
theorem t_eta (a : DExp) : Tree.node ((Tree.val a).1, (((Tree.val a).2.1.1, ((Tree.val a).2.1.2.1, ((Tree.val a).2.1.2.2.1, ((Tree.val a).2.1.2.2.2.1, Unit.unit)))), ((Tree.val a).2.2.1, Unit.unit))) (Tree.kids a) = a := by
  cases a
  rfl
theorem exp_small {t : DExp} (h : small kExp t) : small (.int .i64) (Tree.val t).1 ∧ small kVal (Tree.val t).2.1 ∧ (Tree.val t).2.2.1.size ≤ 9223372036854775807 ∧ (Tree.kids t).length ≤ 9223372036854775807 ∧ ∀ k ∈ Tree.kids t, small kExp k := by
  cases t with
  | node v ks =>
    obtain ⟨h1, h2, h3⟩ := h
    exact ⟨h1.1, h1.2.1, h1.2.2.1, h2, smallTs_iff.1 h3⟩
def emptyS : ByteArray := ByteArray.mk (List.toArray [])
/-- How many operands. -/
def kidsN (op : Int) : Int := if 0 ≤ op ∧ op ≤ 2 then 0 else if op = 5 ∨ op = 17 ∨ op = 19 then 1 else if op = 18 then 3 else if 3 ≤ op ∧ op ≤ 21 then 2 else -1
theorem kids_eq (op : Int) : r60 (op, ()) = some (kidsN op, ()) := by
  by_cases h : 0 ≤ op ∧ op ≤ 21
  · have key : ∀ n : Fin 22, r60 (((n : Nat) : Int), ()) = some (kidsN ((n : Nat) : Int), ()) := by decide +kernel
    have := key ⟨op.toNat, by omega⟩
    simp only at this
    rwa [show ((op.toNat : Nat) : Int) = op by omega] at this
  · have e5 : decide (op = 5) = false := decide_eq_false (by omega)
    have e17 : decide (op = 17) = false := decide_eq_false (by omega)
    have e19 : decide (op = 19) = false := decide_eq_false (by omega)
    have e18 : decide (op = 18) = false := decide_eq_false (by omega)
    unfold r60 kidsN
    rw [if_neg (by omega), if_neg (by omega), if_neg (by omega), if_neg (by omega)]
    simp only [e5, e17, e19, e18, cond_false]
    by_cases h0 : 0 ≤ op
    · simp only [decide_eq_true h0, decide_eq_false (show ¬ op ≤ 2 by omega), decide_eq_true (show 3 ≤ op by omega), decide_eq_false (show ¬ op ≤ 21 by omega), cond_true, cond_false]
    · simp only [decide_eq_false h0, decide_eq_false (show ¬ 3 ≤ op by omega), cond_false]
noncomputable def wordsL : List ByteArray := ((r13 ()).getD ([], ())).1
noncomputable def fieldsL : List ByteArray := ((r12 ()).getD ([], ())).1
theorem words_eq : r13 () = some (wordsL, ()) := rfl
theorem fields_eq : r12 () = some (fieldsL, ()) := rfl
theorem index_str (l : List ByteArray) (s : ByteArray) (hl : l.length ≤ 1000000) : ∃ i : Int, r49 (l, (s, ())) = some (i, ()) ∧ (0 ≤ i ↔ s ∈ l) := by
  unfold r49
  refine bind_loopQ (fun r => ∃ i : Int, r = some (i, ()) ∧ (0 ≤ i ↔ s ∈ l)) (loop_up embI l.length (fun i _ => s ∉ l.take i) (fun o => (∃ k : Nat, o = Sum.inl (((k : Int), ()), ()) ∧ s ∈ l) ∨ (o = Sum.inr (Sum.inl ((), ())) ∧ s ∉ l)) (fun i u hi hI => ?_) (fun u hI => ?_) 0 () (Nat.zero_le _) (by simp)) (fun o ho => ?_)
  · obtain ⟨a, ha⟩ := get_lt hi
    simp only [embI, dec_lt hi, inB_lt hi, Int.toNat_natCast, ha, cond_true, Option.bind_some]
    by_cases he : s = a
    · refine .inr ⟨_, by rw [decide_eq_true he]; rfl, .inl ⟨i, rfl, ?_⟩⟩
      rw [he]
      exact List.mem_of_getElem? ha
    · refine .inl ⟨(), by rw [decide_eq_false he, cond_false, wrapS hi (by omega)], ?_⟩
      rw [take_succ ha]
      simp only [List.mem_append, List.mem_singleton]
      exact fun h => h.elim hI he
  · rw [List.take_length] at hI
    refine ⟨_, by simp only [embI, dec_nlt, cond_false], .inr ⟨rfl, hI⟩⟩
  · rcases ho with ⟨k, rfl, h⟩ | ⟨rfl, h⟩
    · exact ⟨_, rfl, fun _ => h, fun _ => by simp⟩
    · refine ⟨_, rfl, fun hc => ?_, fun hc => absurd hc h⟩
      simp at hc
def inL (s : ByteArray) (l : List ByteArray) : Bool := l.any fun a => decide (s = a)
theorem inL_iff {s : ByteArray} {l : List ByteArray} : inL s l = true ↔ s ∈ l := by simp [inL]
theorem contains_str (l : List ByteArray) (s : ByteArray) (hl : l.length ≤ 1000000) : r26 (l, (s, ())) = some (inL s l, ()) := by
  unfold r26
  obtain ⟨i, h1, h2⟩ := index_str l s hl
  rw [h1]
  simp only [Option.bind_some]
  have : decide (0 ≤ i) = inL s l := by
    rw [Bool.eq_iff_iff, inL_iff, decide_eq_true_eq]
    exact h2
  rw [this]
/-- What a node's own fault is. -/
noncomputable def oneE (nd : DNode) (k : Nat) : Int :=
  if kidsN nd.1 < 0 then 8
  else if ¬ ((k : Int) = kidsN nd.1) ∨ (nd.1 ≠ 0 ∧ nd.2.1 ≠ (0, (0, (emptyS, (false, ()))))) ∨ (nd.1 ≠ 1 ∧ nd.1 ≠ 2 ∧ nd.2.2.1 ≠ emptyS) then 3
  else if nd.1 = 0 then checkV nd.2.1
  else if (nd.1 = 1 ∧ (nameOk nd.2.2.1 = false ∨ inL nd.2.2.1 wordsL = true)) ∨ (nd.1 = 2 ∧ inL nd.2.2.1 fieldsL = false) then 16 else 0
theorem words_len : wordsL.length = 10 := rfl
theorem fields_len : fieldsL.length = 10 := rfl
theorem val_nil (v : DVal) : (Bool.and (decide (v.1 = (0 : Int))) (Bool.and (decide (v.2.1 = (0 : Int))) (Bool.and (decide (v.2.2.1 = (ByteArray.mk (List.toArray (List.nil))))) (decide (v.2.2.2.1 = Bool.false))))) = decide (v = (0, (0, (emptyS, (false, ()))))) := by
  obtain ⟨a, b, c, d, ⟨⟩⟩ := v
  rw [Bool.eq_iff_iff]
  simp [emptyS]
set_option maxHeartbeats 4000000 in
theorem one_eq (t : DExp) (h : small kExp t) : r36 (t, ()) = some (oneE (Tree.val t) (Tree.kids t).length, ()) := by
  obtain ⟨h1, h2, h3, h4, h5⟩ := exp_small h
  generalize hk : (Tree.kids t).length = k
  have hv := r10_eq (Tree.val t).2.1 h2.2.2.1
  have hn := name_eq (Tree.val t).2.2.1 h3
  have hw := contains_str wordsL (Tree.val t).2.2.1 (by rw [words_len]; omega)
  have hf := contains_str fieldsL (Tree.val t).2.2.1 (by rw [fields_len]; omega)
  have hv' : r61 (((Tree.val t).2.1.1, ((Tree.val t).2.1.2.1, ((Tree.val t).2.1.2.2.1, ((Tree.val t).2.1.2.2.2.1, Unit.unit)))), Unit.unit) = some (checkV (Tree.val t).2.1, ()) := hv
  have hkk : r60 ((Tree.val t).1, Unit.unit) = some (kidsN (Tree.val t).1, ()) := kids_eq _
  unfold r36 oneE
  simp only [hkk, hk, hv', hn, hw, hf, words_eq, fields_eq, Option.bind_some, val_nil]
  generalize hop : (Tree.val t).1 = op
  generalize (Tree.val t).2.1 = v
  generalize (Tree.val t).2.2.1 = s
  by_cases k0 : kidsN op < 0
  · rw [if_pos k0, decide_eq_true k0]
    rfl
  rw [if_neg k0, decide_eq_false k0, cond_false]
  by_cases k1 : (k : Int) = kidsN op
  rotate_left
  · rw [if_pos (.inl k1), decide_eq_false k1]
    rfl
  rw [decide_eq_true k1]
  simp only [k1, Bool.not_true, cond_false, not_true_eq_false, false_or]
  by_cases b0 : op = 0
  · subst b0
    by_cases be : s = emptyS
    · subst be
      simp [emptyS]
    · have : ¬ s = ByteArray.mk (List.toArray []) := be
      simp [be, this]
  · by_cases bv : v = (0, (0, (emptyS, (false, ()))))
    · by_cases b1 : op = 1
      · subst b1
        cases hnm : nameOk s <;> cases hmw : inL s wordsL <;> simp [bv]
      · by_cases b2 : op = 2
        · subst b2
          cases hmf : inL s fieldsL <;> simp [bv]
        · by_cases be : s = emptyS
          · have : s = ByteArray.mk (List.toArray []) := be
            simp [b0, b1, b2, bv, be, emptyS]
          · have : ¬ s = ByteArray.mk (List.toArray []) := be
            simp [b0, b1, b2, bv, be, this]
    · simp [b0, bv]
end Go.Proofs.YtdfgfjnpllncdaaGreatDoor.I

namespace Go.Proofs.YtdfgfjnpllncdaaGreatDoor.I
open Go.RowKit
set_option linter.unusedVariables false
set_option linter.unusedSimpArgs false
set_option linter.constructorNameAsVariable false
mutual
def sz : DExp → Nat
  | .node v ks => szL ks + 1
def szL : List DExp → Nat
  | [] => 0
  | t :: ts => sz t + szL ts
end
theorem sz_node (t : DExp) : sz t = szL (Tree.kids t) + 1 := by
  cases t
  simp only [sz, Tree.kids]
theorem szL_mem : ∀ {ks : List DExp} {t : DExp}, t ∈ ks → sz t ≤ szL ks
  | k :: ks, t, h => by
    simp only [szL]
    rcases List.mem_cons.1 h with rfl | h
    · omega
    · have := szL_mem h
      omega
mutual
/-- The nodes with their depths, in the order of a walk; behind a depth of 20 none. -/
def pre (d : Nat) : DExp → List (DExp × Nat)
  | .node v ks => (.node v ks, d) :: (if 20 < d then [] else preL (d + 1) ks)
def preL (d : Nat) : List DExp → List (DExp × Nat)
  | [] => []
  | t :: ts => pre d t ++ preL d ts
end
theorem pre_node (d : Nat) (t : DExp) : pre d t = (t, d) :: (if 20 < d then [] else preL (d + 1) (Tree.kids t)) := by
  cases t
  simp only [pre, Tree.kids]
theorem preL_app (d : Nat) : ∀ (a b : List DExp), preL d (a ++ b) = preL d a ++ preL d b
  | [], b => rfl
  | t :: a, b => by simp only [List.cons_append, preL, preL_app d a b, List.append_assoc]
theorem preL_one (d : Nat) (t : DExp) : preL d [t] = pre d t := by simp only [preL, List.append_nil]
noncomputable def nodeE (i : Nat) (p : DExp × Nat) : Int := if 100 ≤ i ∨ 20 < p.2 then 2 else oneE (Tree.val p.1) (Tree.kids p.1).length
noncomputable def firstE : Nat → List (DExp × Nat) → Int
  | _, [] => 0
  | i, p :: l => if nodeE i p ≠ 0 then nodeE i p else firstE (i + 1) l
theorem firstE_app : ∀ (a b : List (DExp × Nat)) (i : Nat), firstE i (a ++ b) = if firstE i a ≠ 0 then firstE i a else firstE (i + a.length) b
  | [], b, i => by simp [firstE]
  | p :: a, b, i => by
    simp only [List.cons_append, firstE, firstE_app a b (i + 1), List.length_cons]
    by_cases h : nodeE i p = 0
    · simp only [h, ne_eq, not_true_eq_false, if_false]
      rw [show i + (a.length + 1) = i + 1 + a.length by omega]
    · simp only [h, ne_eq, not_false_eq_true, if_true]
@[reducible] def embCW (i : Int) (s : Int) : (Int × Int × Unit) × Unit := ((i, (s, ())), ())
set_option maxHeartbeats 2000000 in
theorem walk_eq : ∀ (n : Nat) (t : DExp) (d i : Nat), sz t ≤ n → i ≤ 100 → small kExp t → ∃ c' : Int, r35 n (t, ((d : Int), ())) ((i : Int), ()) = some ((firstE i (pre d t), ()), (c', ())) ∧ (firstE i (pre d t) = 0 → c' = ((i + (pre d t).length : Nat) : Int) ∧ i + (pre d t).length ≤ 100)
  | 0, t, d, i, hn, _, _ => by rw [sz_node] at hn; omega
  | n + 1, t, d, i, hn, hi, hs => by
    have w1 : IntKind.wrap .i64 ((i : Int) + 1) = ((i + 1 : Nat) : Int) := by rw [wrap64 (by omega) (by omega)]; omega
    rw [r35_succ]
    unfold r35B
    simp only [w1]
    rw [pre_node]
    simp only [firstE]
    by_cases h100 : i = 100
    · have e1 : decide ((100 : Int) < ((i + 1 : Nat) : Int)) = true := decide_eq_true (by omega)
      have e2 : nodeE i (t, d) = 2 := by unfold nodeE; rw [if_pos (.inl (by omega))]
      rw [e1, cond_true, e2]
      exact ⟨_, rfl, fun h => by simp at h⟩
    have e1 : decide ((100 : Int) < ((i + 1 : Nat) : Int)) = false := decide_eq_false (by omega)
    rw [e1, cond_false]
    by_cases hd : 20 < d
    · have e2 : nodeE i (t, d) = 2 := by unfold nodeE; rw [if_pos (.inr hd)]
      have e3 : decide ((20 : Int) < (d : Int)) = true := decide_eq_true (by omega)
      rw [e3, cond_true, e2]
      exact ⟨_, rfl, fun h => by simp at h⟩
    have e3 : decide ((20 : Int) < (d : Int)) = false := decide_eq_false (by omega)
    have e2 : nodeE i (t, d) = oneE (Tree.val t) (Tree.kids t).length := by unfold nodeE; rw [if_neg (by simp; omega)]
    rw [e3, cond_false, t_eta, one_eq t hs, e2, if_neg hd]
    simp only [Option.bind_some]
    by_cases he : oneE (Tree.val t) (Tree.kids t).length = 0
    rotate_left
    · rw [decide_eq_false he]
      simp only [Bool.not_false, cond_true]
      exact ⟨_, by rw [if_pos he], fun h => by rw [if_pos he] at h; exact absurd h he⟩
    rw [decide_eq_true he]
    simp only [Bool.not_true, cond_false, he, ne_eq, not_true_eq_false, if_false]
    have hsk := (exp_small hs).2.2.2.2
    have hlk := (exp_small hs).2.2.2.1
    have hszk : ∀ k ∈ Tree.kids t, sz k ≤ n := fun k hk => by
      have := szL_mem hk
      rw [sz_node] at hn
      omega
    have hd1 : IntKind.wrap .i64 ((d : Int) + 1) = ((d + 1 : Nat) : Int) := by rw [wrap64 (by omega) (by omega)]; omega
    generalize Tree.kids t = ks at hsk hlk hszk
    refine bind_loopQ (fun r => ∃ c' : Int, r = some ((firstE (i + 1) (preL (d + 1) ks), ()), (c', ())) ∧ (firstE (i + 1) (preL (d + 1) ks) = 0 → c' = ((i + ((t, d) :: preL (d + 1) ks).length : Nat) : Int) ∧ i + ((t, d) :: preL (d + 1) ks).length ≤ 100))
      (loop_up embCW ks.length (fun j s => s = ((i + 1 + (preL (d + 1) (ks.take j)).length : Nat) : Int) ∧ firstE (i + 1) (preL (d + 1) (ks.take j)) = 0 ∧ i + 1 + (preL (d + 1) (ks.take j)).length ≤ 100)
        (fun o => (∃ e c' : Int, o = Sum.inl ((e, (c', ())), ()) ∧ e ≠ 0 ∧ firstE (i + 1) (preL (d + 1) ks) = e) ∨ (∃ c' : Int, o = Sum.inr (Sum.inl ((c', ()), ())) ∧ firstE (i + 1) (preL (d + 1) ks) = 0 ∧ c' = ((i + 1 + (preL (d + 1) ks).length : Nat) : Int) ∧ i + 1 + (preL (d + 1) ks).length ≤ 100))
        (fun j s hj hI => ?_) (fun s hI => ?_) 0 _ (Nat.zero_le _) ⟨by simp [preL], by simp [preL, firstE], by simp [preL]; omega⟩) (fun o ho => ?_)
    · obtain ⟨rfl, h1, h2⟩ := hI
      obtain ⟨k, hk⟩ := get_lt hj
      have hkm := List.mem_of_getElem? hk
      obtain ⟨c', g1, g2⟩ := walk_eq n k (d + 1) (i + 1 + (preL (d + 1) (ks.take j)).length) (hszk k hkm) h2 (hsk k hkm)
      simp only [embCW, dec_lt hj, inB_lt hj, Int.toNat_natCast, hk, cond_true, Option.bind_some, t_eta, hd1, g1]
      have hsplit : preL (d + 1) (ks.take (j + 1)) = preL (d + 1) (ks.take j) ++ pre (d + 1) k := by rw [take_succ hk, preL_app, preL_one]
      have hall : ks = ks.take (j + 1) ++ ks.drop (j + 1) := (List.take_append_drop _ _).symm
      by_cases hz : firstE (i + 1 + (preL (d + 1) (ks.take j)).length) (pre (d + 1) k) = 0
      · obtain ⟨rfl, g3⟩ := g2 hz
        refine .inl ⟨_, by rw [decide_eq_true hz]; simp only [Bool.not_true, cond_false]; rw [wrapS hj (by omega)], ?_, ?_, ?_⟩
        · rw [hsplit, List.length_append]; congr 1; omega
        · rw [hsplit, firstE_app, h1]
          simpa using hz
        · rw [hsplit, List.length_append]; omega
      · refine .inr ⟨_, by rw [decide_eq_false hz]; simp only [Bool.not_false, cond_true], .inl ⟨_, c', rfl, hz, ?_⟩⟩
        have e5 : firstE (i + 1) (preL (d + 1) (ks.take (j + 1))) = firstE (i + 1 + (preL (d + 1) (ks.take j)).length) (pre (d + 1) k) := by
          rw [hsplit, firstE_app, h1]
          simp
        have hf := congrArg (fun l => firstE (i + 1) (preL (d + 1) l)) hall
        rw [show firstE (i + 1) (preL (d + 1) ks) = firstE (i + 1) (preL (d + 1) (ks.take (j + 1) ++ ks.drop (j + 1))) from hf, preL_app, firstE_app, e5, if_pos hz]
    · obtain ⟨rfl, h1, h2⟩ := hI
      rw [List.take_length] at h1 h2 ⊢
      exact ⟨_, by simp only [embCW, dec_nlt, cond_false], .inr ⟨_, rfl, h1, rfl, h2⟩⟩
    · rcases ho with ⟨e, c', rfl, h1, h2⟩ | ⟨c', rfl, h1, rfl, h2⟩
      · exact ⟨c', by rw [h2]; rfl, fun h => absurd (h2 ▸ h) h1⟩
      · refine ⟨((i + 1 + (preL (d + 1) ks).length : Nat) : Int), by rw [h1]; rfl, fun _ => ⟨?_, ?_⟩⟩
        · rw [List.length_cons]; congr 1; omega
        · rw [List.length_cons]; omega
/-- What an expression's fault is. -/
noncomputable def expE (t : DExp) : Int := firstE 0 (pre 1 t)
theorem check_eq (n : Nat) (t : DExp) (hn : sz t ≤ n) (hs : small kExp t) : r14 n (t, ()) = some (expE t, ()) := by
  obtain ⟨c', h1, _⟩ := walk_eq n t 1 0 hn (by omega) hs
  have h1 : r35 n (t, ((1 : Int), Unit.unit)) ((0 : Int), Unit.unit) = some ((expE t, ()), (c', ())) := h1
  unfold r14
  rw [t_eta, h1]
  rfl
end Go.Proofs.YtdfgfjnpllncdaaGreatDoor.I

namespace Go.Proofs.YtdfgfjnpllncdaaGreatDoor.I
open Go.RowKit
set_option linter.unusedVariables false
set_option linter.unusedSimpArgs false
set_option linter.constructorNameAsVariable false
theorem take_app_take {α : Type} (X Y : List α) (m : Nat) : (X.take m ++ Y).take m = (X ++ Y).take m := by
  rcases Nat.le_total m X.length with h | h
  · rw [List.take_append_of_le_length (by rw [List.length_take]; omega), List.take_append_of_le_length h, List.take_take, Nat.min_self]
  · rw [List.take_of_length_le h]
def rows (B : List (DExp × Nat)) : List DExp × List Int × Unit := (B.map (·.1), (B.map (fun p => ((p.2 : Nat) : Int)), ()))
@[reducible] def embFl (i : Int) (s : List DExp × List Int × Unit) : (List DExp × List Int × Int × Unit) × Unit := ((s.1, (s.2.1, (i, ()))), ())
theorem rows_app (A : List (DExp × Nat)) (t : DExp) (d : Nat) : (A.map (·.1) ++ [t], (A.map (fun p => ((p.2 : Nat) : Int)) ++ [(d : Int)], ())) = rows (A ++ [(t, d)]) := by
  unfold rows
  simp
set_option maxHeartbeats 2000000 in
theorem flat_eq : ∀ (n : Nat) (t : DExp) (d : Nat) (A : List (DExp × Nat)), sz t ≤ n → A.length ≤ 101 → d ≤ 21 → small kExp t → r22 n (t, ((d : Int), ((101 : Int), ()))) (rows A) = some (rows ((A ++ pre d t).take 101))
  | 0, t, d, A, hn, _, _, _ => by rw [sz_node] at hn; omega
  | n + 1, t, d, A, hn, hA, hd, hs => by
    rw [r22_succ]
    unfold r22B
    simp only [t_eta]
    have hl1 : (rows A).1.length = A.length := by simp [rows]
    have hl2 : (rows A).2.1.length = A.length := by simp [rows]
    rw [hl1, hl2]
    by_cases h101 : A.length = 101
    · have e1 : decide ((101 : Int) ≤ ((A.length : Nat) : Int)) = true := decide_eq_true (by omega)
      rw [e1, cond_true, List.take_append_of_le_length (by omega), List.take_of_length_le (by omega)]
    have e1 : decide ((101 : Int) ≤ ((A.length : Nat) : Int)) = false := decide_eq_false (by omega)
    have e2 : fits (A.length + [t].length) 88 = true := by unfold fits; simp; omega
    have e3 : fits (A.length + [(d : Int)].length) 8 = true := by unfold fits; simp; omega
    rw [e1, cond_false, e2, cond_true, e3, cond_true]
    by_cases hd2 : 20 < d
    · have e4 : decide ((20 : Int) < (d : Int)) = true := decide_eq_true (by omega)
      rw [e4, cond_true, pre_node, if_pos hd2, List.take_of_length_le (by simp; omega)]
      exact congrArg some (rows_app A t d)
    have e4 : decide ((20 : Int) < (d : Int)) = false := decide_eq_false (by omega)
    rw [e4, cond_false, pre_node, if_neg hd2]
    have hsk := (exp_small hs).2.2.2.2
    have hlk := (exp_small hs).2.2.2.1
    have hszk : ∀ k ∈ Tree.kids t, sz k ≤ n := fun k hk => by
      have := szL_mem hk
      rw [sz_node] at hn
      omega
    have hd1 : IntKind.wrap .i64 ((d : Int) + 1) = ((d + 1 : Nat) : Int) := by rw [wrap64 (by omega) (by omega)]; omega
    generalize Tree.kids t = ks at hsk hlk hszk
    rw [show (((rows A).1 ++ [t]), ((rows A).2.1 ++ [(d : Int)], ((0 : Int), Unit.unit))) = (((rows (A ++ [(t, d)])).1), ((rows (A ++ [(t, d)])).2.1, ((0 : Int), Unit.unit))) by unfold rows; simp]
    refine loop_is (y := rows ((A ++ (t, d) :: preL (d + 1) ks).take 101)) embFl ks.length (fun j => rows ((A ++ (t, d) :: preL (d + 1) (ks.take j)).take 101)) (fun s => Sum.inl ((s.1, (s.2.1, ())), ())) (fun j hj => ?_) ?_ ?_ _ ?_
    · obtain ⟨k, hk⟩ := get_lt hj
      have hkm := List.mem_of_getElem? hk
      have ih := flat_eq n k (d + 1) ((A ++ (t, d) :: preL (d + 1) (ks.take j)).take 101) (hszk k hkm) (by rw [List.length_take]; omega) (by omega) (hsk k hkm)
      have hsplit : preL (d + 1) (ks.take (j + 1)) = preL (d + 1) (ks.take j) ++ pre (d + 1) k := by rw [take_succ hk, preL_app, preL_one]
      have ih : r22 n (k, (((d + 1 : Nat) : Int), ((101 : Int), Unit.unit))) ((rows ((A ++ (t, d) :: preL (d + 1) (ks.take j)).take 101)).1, ((rows ((A ++ (t, d) :: preL (d + 1) (ks.take j)).take 101)).2.1, Unit.unit)) = _ := ih
      simp only [embFl, dec_lt hj, inB_lt hj, Int.toNat_natCast, hk, cond_true, Option.bind_some, t_eta, hd1, ih]
      rw [wrapS hj (by omega), take_app_take, hsplit]
      simp only [List.append_assoc, List.cons_append]
    · simp only [embFl, dec_nlt, cond_false]
    · rw [List.take_length]
      rfl
    · rw [List.take_zero, preL, List.take_of_length_le (by simp; omega)]
mutual
theorem pre_small : ∀ (t : DExp) (d : Nat), small kExp t → ∀ p ∈ pre d t, small kExp p.1
  | .node v ks, d, h, p, hp => by
    simp only [pre] at hp
    rcases List.mem_cons.1 hp with rfl | hp
    · exact h
    · split at hp
      · cases hp
      · exact preL_small ks (d + 1) (smallTs_iff.1 h.2.2) p hp
theorem preL_small : ∀ (ks : List DExp) (d : Nat), (∀ k ∈ ks, small kExp k) → ∀ p ∈ preL d ks, small kExp p.1
  | [], _, _, p, hp => by cases hp
  | k :: ks, d, h, p, hp => by
    simp only [preL] at hp
    rcases List.mem_append.1 hp with hp | hp
    · exact pre_small k d (h k (by simp)) p hp
    · exact preL_small ks d (fun x hx => h x (by simp [hx])) p hp
end
theorem firstE_take : ∀ (l : List (DExp × Nat)) (i : Nat), i ≤ 100 → firstE i (l.take (101 - i)) = firstE i l
  | [], i, _ => by simp
  | p :: l, i, hi => by
    rw [show 101 - i = (101 - (i + 1)) + 1 by omega, List.take_succ_cons]
    simp only [firstE]
    by_cases h : nodeE i p = 0
    · simp only [h, ne_eq, not_true_eq_false, if_false]
      have : i < 100 := by
        rcases Nat.lt_or_ge i 100 with h1 | h1
        · exact h1
        · unfold nodeE at h
          rw [if_pos (.inl h1)] at h
          cases h
      exact firstE_take l (i + 1) (by omega)
    · simp only [h, ne_eq, not_false_eq_true, if_true]
noncomputable def operL : List Int := ((r23 ()).getD ([], ())).1
theorem oper_eq : r23 () = some (operL, ()) := rfl
theorem oper_at (op : Int) (h0 : 0 ≤ op) (h1 : op ≤ 21) : inB op operL.length = true ∧ operL[op.toNat]? = some (kidsN op) := by
  have key : ∀ n : Fin 22, inB ((n : Nat) : Int) operL.length = true ∧ operL[(n : Nat)]? = some (kidsN ((n : Nat) : Int)) := by decide +kernel
  have := key ⟨op.toNat, by omega⟩
  simp only at this
  rwa [show ((op.toNat : Nat) : Int) = op by omega] at this
theorem kids_in {op : Int} (h0 : 0 ≤ op) (h1 : op ≤ 21) : ¬ kidsN op < 0 := by
  have key : ∀ n : Fin 22, ¬ kidsN ((n : Nat) : Int) < 0 := by decide
  have := key ⟨op.toNat, by omega⟩
  simp only at this
  rwa [show ((op.toNat : Nat) : Int) = op by omega] at this
theorem kids_out {op : Int} (h : op < 0 ∨ 21 < op) : kidsN op < 0 := by
  unfold kidsN
  rw [if_neg (by omega), if_neg (by omega), if_neg (by omega), if_neg (by omega)]
  omega
theorem reserved_eq : r27 () = some (wordsL, ()) := by kernel_rfl
theorem rfields_eq : r28 () = some (fieldsL, ()) := by kernel_rfl
end Go.Proofs.YtdfgfjnpllncdaaGreatDoor.I

namespace Go.Proofs.YtdfgfjnpllncdaaGreatDoor.I
open Go.RowKit
set_option linter.unusedVariables false
set_option linter.unusedSimpArgs false
set_option linter.constructorNameAsVariable false
theorem rname_eq (s : ByteArray) (h : s.size ≤ 9223372036854775807) : r25 (s, ()) = some (nameOk s, ()) := by
  unfold r25
  have : decide (s.size ≤ 9223372036854775807) = true := decide_eq_true h
  simp only [this, cond_true]
@[reducible] def exX (e : Int) : (IU) ⊕ (((Int × Unit) × Unit) ⊕ ((Unit × Unit) ⊕ Empty)) := Sum.inr (Sum.inl ((e, ()), ()))
set_option maxHeartbeats 8000000 in
theorem exprErr_eq (n : Nat) (t : DExp) (hn : sz t ≤ n) (hs : small kExp t) : r8 n (t, ()) = some (expE t, ()) := by
  unfold r8
  have h1 := flat_eq n t 1 [] hn (by simp) (by omega) hs
  have h1 : r22 n (t, ((1 : Int), ((101 : Int), Unit.unit))) (List.nil, (List.nil, Unit.unit)) = some (rows ((pre 1 t).take 101)) := h1
  rw [t_eta, h1]
  simp only [Option.bind_some]
  have hsm : ∀ p ∈ (pre 1 t).take 101, small kExp p.1 := fun p hp => pre_small t 1 hs p (List.mem_of_mem_take hp)
  have hl : ((pre 1 t).take 101).length ≤ 101 := by rw [List.length_take]; omega
  have hfin : firstE 0 ((pre 1 t).take 101) = expE t := firstE_take (pre 1 t) 0 (by omega)
  rw [← hfin]
  generalize (pre 1 t).take 101 = B at hsm hl
  have hl1 : (rows B).1.length = B.length := by simp [rows]
  have hl2 : (rows B).2.1.length = B.length := by simp [rows]
  refine bind_loop (Post := fun o => (∃ e : Int, o = Sum.inl ((e, ()), ()) ∧ firstE 0 B = e) ∨ (o = Sum.inr (Sum.inl ((), ())) ∧ firstE 0 B = 0)) (loop_up embI B.length (fun j _ => firstE 0 (B.take j) = 0) _ (fun j u hj hI => ?_) (fun u hI => ?_) 0 () (Nat.zero_le _) (by simp [firstE])) (fun o ho => ?_)
  · obtain ⟨p, hp⟩ := get_lt hj
    have hps := hsm p (List.mem_of_getElem? hp)
    have ea : (rows B).1[j]? = some p.1 := by simp [rows, hp]
    have eb : (rows B).2.1[j]? = some ((p.2 : Nat) : Int) := by simp [rows, hp]
    have hsplit : B.take (j + 1) = B.take j ++ [p] := take_succ hp
    have hj2 : (B.take j).length = j := by rw [List.length_take]; omega
    have hone : firstE 0 (B.take (j + 1)) = nodeE j p := by
      rw [hsplit, firstE_app, hI, hj2, if_neg (by simp), Nat.zero_add]
      simp only [firstE]
      by_cases hz : nodeE j p = 0
      · rw [hz]; simp
      · rw [if_pos hz]
    have hall : B = B.take (j + 1) ++ B.drop (j + 1) := (List.take_append_drop _ _).symm
    have hbad : nodeE j p ≠ 0 → firstE 0 B = nodeE j p := fun hne => by
      have hf := congrArg (fun l => firstE 0 l) hall
      rw [show firstE 0 B = firstE 0 (B.take (j + 1) ++ B.drop (j + 1)) from hf, firstE_app, hone, if_pos hne]
    simp only [embI, hl1, hl2, dec_lt hj, inB_lt hj, Int.toNat_natCast, ea, eb, cond_true, Option.bind_some]
    suffices hstep : ∀ r : Option (IU ⊕ (((Int × Unit) × Unit) ⊕ ((Unit × Unit) ⊕ Empty))), r = (if nodeE j p = 0 then some (Sum.inl ((((j : Int) + 1, ()), ()))) else some (exX (nodeE j p))) → ((∃ s' : Unit, r = some (Sum.inl (((((j : Int) + 1), ()), ()))) ∧ firstE 0 (B.take (j + 1)) = 0) ∨ ∃ o, r = some (Sum.inr o) ∧ ((∃ e : Int, o = Sum.inl ((e, ()), ()) ∧ firstE 0 B = e) ∨ (o = Sum.inr (Sum.inl ((), ())) ∧ firstE 0 B = 0))) by
      refine hstep _ ?_
      obtain ⟨t', d'⟩ := p
      obtain ⟨k1, k2, k3, k4, k5⟩ := exp_small hps
      simp only
      have hv := r29_eq (Tree.val t').2.1 k2.2.2.1
      have hv' : r24 (((Tree.val t').2.1.1, ((Tree.val t').2.1.2.1, ((Tree.val t').2.1.2.2.1, ((Tree.val t').2.1.2.2.2.1, Unit.unit)))), Unit.unit) = some (checkV (Tree.val t').2.1, ()) := hv
      have hnm := rname_eq (Tree.val t').2.2.1 k3
      have hw := contains_str wordsL (Tree.val t').2.2.1 (by rw [words_len]; omega)
      have hf := contains_str fieldsL (Tree.val t').2.2.1 (by rw [fields_len]; omega)
      rw [wrapS hj (by omega)]
      have hNE : nodeE j (t', d') = if 100 ≤ j ∨ 20 < d' then 2 else oneE (Tree.val t') (Tree.kids t').length := rfl
      rw [hNE]
      by_cases h100 : j = 100
      · have e1 : decide ((j : Int) = 100) = true := decide_eq_true (by omega)
        rw [e1, cond_true, if_pos (show 100 ≤ j ∨ 20 < d' from .inl (by omega))]
        rfl
      have e1 : decide ((j : Int) = 100) = false := decide_eq_false (by omega)
      rw [e1, cond_false]
      by_cases hd : 20 < d'
      · have e2 : decide ((20 : Int) < (d' : Int)) = true := decide_eq_true (by omega)
        rw [e2, cond_true, if_pos (show 100 ≤ j ∨ 20 < d' from .inr hd)]
        rfl
      have e2 : decide ((20 : Int) < (d' : Int)) = false := decide_eq_false (by omega)
      rw [e2, cond_false, if_neg (show ¬ (100 ≤ j ∨ 20 < d') by omega)]
      by_cases ho1 : (Tree.val t').1 < 0
      · rw [decide_eq_true ho1, cond_true]
        have : oneE (Tree.val t') (Tree.kids t').length = 8 := by unfold oneE; rw [if_pos (kids_out (.inl ho1))]
        rw [this]
        rfl
      rw [decide_eq_false ho1, cond_false]
      by_cases ho2 : 21 < (Tree.val t').1
      · rw [decide_eq_true ho2, cond_true]
        have : oneE (Tree.val t') (Tree.kids t').length = 8 := by unfold oneE; rw [if_pos (kids_out (.inr ho2))]
        rw [this]
        rfl
      rw [decide_eq_false ho2, cond_false]
      obtain ⟨q1, q2⟩ := oper_at (Tree.val t').1 (by omega) (by omega)
      have q3 := kids_in (op := (Tree.val t').1) (by omega) (by omega)
      simp only [oper_eq, q1, q2, cond_true, Option.bind_some, hv', hnm, hw, hf, reserved_eq, rfields_eq, val_nil]
      unfold oneE
      rw [if_neg q3]
      generalize (Tree.kids t').length = k
      generalize (Tree.val t').2.1 = v
      generalize (Tree.val t').2.2.1 = s
      generalize (Tree.val t').1 = op at *
      clear hv hv' hnm hw hf q1 q2
      by_cases z1 : (k : Int) = kidsN op
      rotate_left
      · rw [if_pos (Or.inl z1 : ¬ (k : Int) = kidsN op ∨ _), decide_eq_false z1]
        rfl
      rw [decide_eq_true z1]
      simp only [z1, Bool.not_true, cond_false, not_true_eq_false, false_or]
      by_cases b0 : op = 0
      · subst b0
        by_cases be : s = emptyS
        · subst be
          by_cases hc : checkV v = 0 <;> simp [emptyS, hc]
        · have : ¬ s = ByteArray.mk (List.toArray []) := be
          simp [be, this]
      · by_cases bv : v = (0, (0, (emptyS, (false, ()))))
        · by_cases b1 : op = 1
          · subst b1
            cases hnm : nameOk s <;> cases hmw : inL s wordsL <;> simp [bv]
          · by_cases b2 : op = 2
            · subst b2
              cases hmf : inL s fieldsL <;> simp [bv]
            · by_cases be : s = emptyS
              · have : s = ByteArray.mk (List.toArray []) := be
                simp [b0, b1, b2, bv, be, emptyS]
              · have : ¬ s = ByteArray.mk (List.toArray []) := be
                simp [b0, b1, b2, bv, be, this]
        · simp [b0, bv]
    intro r hr
    by_cases hz : nodeE j p = 0
    · rw [if_pos hz] at hr
      exact .inl ⟨(), hr, by rw [hone, hz]⟩
    · rw [if_neg hz] at hr
      exact .inr ⟨_, hr, .inl ⟨_, rfl, hbad hz⟩⟩
  · rw [List.take_length] at hI
    exact ⟨_, by simp only [embI, hl1, dec_nlt, cond_false], .inr ⟨rfl, hI⟩⟩
  · rcases ho with ⟨e, rfl, h⟩ | ⟨rfl, h⟩
    · rw [h]; rfl
    · rw [h]; rfl
end Go.Proofs.YtdfgfjnpllncdaaGreatDoor.I

namespace Go.Proofs.YtdfgfjnpllncdaaGreatDoor.I
open Go.RowKit
set_option linter.unusedVariables false
set_option linter.unusedSimpArgs false
set_option linter.constructorNameAsVariable false
theorem oneE_kids {nd : DNode} {k : Nat} (h : oneE nd k = 0) : 0 ≤ nd.1 ∧ nd.1 ≤ 21 ∧ (k : Int) = kidsN nd.1 := by
  unfold oneE at h
  split at h
  · cases h
  · rename_i h1
    split at h
    · cases h
    · rename_i h2
      have h3 : (k : Int) = kidsN nd.1 := Classical.byContradiction (fun hc => h2 (.inl hc))
      refine ⟨?_, ?_, h3⟩
      · rcases Int.lt_or_le nd.1 0 with h4 | h4
        · exact absurd (kids_out (.inl h4)) h1
        · exact h4
      · rcases Int.lt_or_le 21 nd.1 with h4 | h4
        · exact absurd (kids_out (.inr h4)) h1
        · exact h4
mutual
def VE : DExp → Prop
  | .node nd ks => oneE nd ks.length = 0 ∧ VEL ks
def VEL : List DExp → Prop
  | [] => True
  | t :: ts => VE t ∧ VEL ts
end
theorem VEL_iff : ∀ {ks : List DExp}, VEL ks ↔ ∀ k ∈ ks, VE k
  | [] => by simp [VEL]
  | t :: ts => by simp [VEL, VEL_iff (ks := ts)]
theorem VE_node (t : DExp) : VE t ↔ oneE (Tree.val t) (Tree.kids t).length = 0 ∧ ∀ k ∈ Tree.kids t, VE k := by
  cases t
  simp only [VE, Tree.val, Tree.kids, VEL_iff]
mutual
theorem ve_of : ∀ (t : DExp) (d i : Nat), firstE i (pre d t) = 0 → VE t
  | .node nd ks, d, i, h => by
    simp only [pre, firstE] at h
    by_cases h1 : nodeE i (.node nd ks, d) = 0
    · simp only [h1, ne_eq, not_true_eq_false, if_false] at h
      unfold nodeE at h1
      split at h1
      · cases h1
      · rename_i hd
        rw [if_neg (fun h => hd (.inr h))] at h
        simp only [VE]
        exact ⟨h1, vel_of ks (d + 1) (i + 1) h⟩
    · simp only [h1, ne_eq, not_false_eq_true, if_true] at h
theorem vel_of : ∀ (ks : List DExp) (d i : Nat), firstE i (preL d ks) = 0 → VEL ks
  | [], _, _, _ => by simp only [VEL]
  | t :: ts, d, i, h => by
    simp only [preL] at h
    rw [firstE_app] at h
    by_cases h1 : firstE i (pre d t) = 0
    · simp only [h1, ne_eq, not_true_eq_false, if_false] at h
      simp only [VEL]
      exact ⟨ve_of t d i h1, vel_of ts d _ h⟩
    · simp only [h1, ne_eq, not_false_eq_true, if_true] at h
end
end Go.Proofs.YtdfgfjnpllncdaaGreatDoor.I

namespace Go.Proofs.YtdfgfjnpllncdaaGreatDoor.I
open Go.RowKit
set_option linter.unusedVariables false
set_option linter.unusedSimpArgs false
set_option linter.constructorNameAsVariable false
theorem sumE_inl {α β γ : Type} {f : α → γ} {g : β → γ} (a : α) : sumE f g (.inl a) = f a := rfl
theorem sumE_inr {α β γ : Type} {f : α → γ} {g : β → γ} (b : β) : sumE f g (.inr b) = g b := rfl
def bs (l : List UInt8) : ByteArray := ⟨l.toArray⟩
theorem nd_eta2 (e : DExp) : Tree.node (Tree.val e) (Tree.kids e) = e := by cases e; rfl
end Go.Proofs.YtdfgfjnpllncdaaGreatDoor.I

namespace Go.Proofs.YtdfgfjnpllncdaaGreatDoor.I
open Go.RowKit
set_option linter.unusedVariables false
set_option linter.unusedSimpArgs false
set_option linter.constructorNameAsVariable false
def okT (a b : Int) (ts : List Int) : Bool := ts.all fun t => decide (t = a) || (decide (t = b) || decide (t = 4))
def nthI (l : List Int) (i : Nat) : Int := l.getD i 0
def tKind : ByteArray := bs [107, 105, 110, 100]
def typ1 (nd : DNode) (ts : List Int) : Option Int :=
  if nd.1 = 0 then some nd.2.1.1
  else if nd.1 = 1 then some 4
  else if nd.1 = 2 then some (if nd.2.2.1 = tKind then 2 else 1)
  else if nd.1 = 3 ∨ nd.1 = 4 ∨ nd.1 = 5 then (if okT 3 3 ts = true then some 3 else none)
  else if nd.1 = 6 ∨ nd.1 = 7 then some 3
  else if 8 ≤ nd.1 ∧ nd.1 ≤ 11 then (if okT 1 2 ts = true ∧ (nthI ts 0 = nthI ts 1 ∨ nthI ts 0 = 4 ∨ nthI ts 1 = 4) then some 3 else none)
  else if nd.1 = 18 then (if nthI ts 0 = 3 ∨ nthI ts 0 = 4 then some (if nthI ts 1 = nthI ts 2 then nthI ts 1 else 4) else none)
  else if nd.1 = 19 then (if okT 2 2 ts = true then some 1 else none)
  else (if okT 1 1 ts = true then some 1 else none)
mutual
/-- The type of a valid expression; none: an operand has a wrong type. -/
def typ : DExp → Option Int
  | .node nd ks => (typs ks).bind (typ1 nd)
def typs : List DExp → Option (List Int)
  | [] => some []
  | k :: ks => (typ k).bind fun t => (typs ks).bind fun ts => some (t :: ts)
end
theorem typ_node (t : DExp) : typ t = (typs (Tree.kids t)).bind (typ1 (Tree.val t)) := by
  cases t
  simp only [typ, Tree.val, Tree.kids]
theorem typs_snoc : ∀ (a : List DExp) (k : DExp), typs (a ++ [k]) = (typs a).bind fun ts => (typ k).bind fun t => some (ts ++ [t])
  | [], k => by
    simp only [List.nil_append, typs]
    cases typ k <;> rfl
  | x :: a, k => by
    simp only [List.cons_append, typs, typs_snoc a k]
    cases typ x <;> cases typs a <;> cases typ k <;> rfl
theorem typs_none : ∀ (a : List DExp) (k : DExp), k ∈ a → typ k = none → typs a = none
  | [], k, h, _ => by cases h
  | x :: a, k, h, e => by
    simp only [typs]
    rcases List.mem_cons.1 h with rfl | h
    · rw [e]; rfl
    · rw [typs_none a k h e]
      cases typ x <;> rfl
theorem typs_len : ∀ (a : List DExp) (ts : List Int), typs a = some ts → ts.length = a.length
  | [], ts, h => by
    simp only [typs, Option.some.injEq] at h
    subst h; rfl
  | x :: a, ts, h => by
    simp only [typs] at h
    cases h1 : typ x with
    | none => rw [h1] at h; cases h
    | some t =>
      rw [h1] at h
      cases h2 : typs a with
      | none => rw [h2] at h; cases h
      | some us =>
        rw [h2] at h
        simp only [Option.bind_some, Option.some.injEq] at h
        subst h
        simp only [List.length_cons, typs_len a us h2]
/-- What of an operand is needed: how strongly it binds, whether it is a number, its text. -/
abbrev KidT := Nat × Bool × List UInt8
def paren (l : List UInt8) : List UInt8 := [40] ++ l ++ [41]
def inner (k : KidT) (least : Nat) : List UInt8 := if k.1 < least then paren k.2.2 else k.2.2
end Go.Proofs.YtdfgfjnpllncdaaGreatDoor.I

namespace Go.Proofs.YtdfgfjnpllncdaaGreatDoor.I
open Go.RowKit
set_option linter.unusedVariables false
set_option linter.unusedSimpArgs false
set_option linter.constructorNameAsVariable false
theorem d_true {α : Type} {b : Bool} {x y : Option α} (h : b = true) : cond b x y = x := by subst h; rfl
theorem d_false {α : Type} {b : Bool} {x y : Option α} (h : b = false) : cond b x y = y := by subst h; rfl
def wantV (t a b : Int) : Int := if t = a ∨ t = b ∨ t = 4 then 0 else 8
theorem want_eq (t a b : Int) : r63 (t, (a, (b, ()))) = some (wantV t a b, ()) := by
  unfold r63 wantV
  by_cases h1 : t = a
  · simp [h1]
  · by_cases h2 : t = b
    · simp [h1, h2]
    · by_cases h3 : t = 4
      · subst h3; simp [h1, h2]
      · simp [h1, h2, h3]
theorem okT_snoc (a b t : Int) (ts : List Int) : okT a b (ts ++ [t]) = (okT a b ts && decide (wantV t a b = 0)) := by
  unfold okT wantV
  rw [List.all_append]
  congr 1
  by_cases h1 : t = a
  · simp [h1]
  · by_cases h2 : t = b
    · simp [h1, h2]
    · by_cases h3 : t = 4
      · subst h3; simp [h1, h2]
      · simp [h1, h2, h3]
def okW (b : Bool) : Int := if b = true then 0 else 8
theorem max_ok (a b : Bool) : maxI (okW a) (okW b) = okW (a && b) := by cases a <;> cases b <;> rfl
theorem wantV_ok (t a b : Int) : wantV t a b = okW (decide (wantV t a b = 0)) := by
  unfold okW
  by_cases h : wantV t a b = 0
  · rw [decide_eq_true h, h]; rfl
  · rw [decide_eq_false h]
    unfold wantV at h ⊢
    split
    · rename_i hh; rw [if_pos hh] at h; exact absurd rfl h
    · rfl
@[reducible] def embW (i : Int) (s : Int) : (Int × Int × Unit) × Unit := ((s, (i, ())), ())
theorem wants_loop (a b : Int) (ts : List Int) (hl : ts.length ≤ 1000000) (step : (Int × Int × Unit) × Unit → Option (((Int × Int × Unit) × Unit) ⊕ (((Int × Unit) × Unit) ⊕ Empty)))
    (hs : ∀ (s i : Int), step ((s, (i, ())), ()) = cond (decide (i < (ts.length : Int))) (cond (inB i ts.length) (Option.bind (ts[Int.toNat i]?) fun x2 => Option.bind (r63 (x2, (a, (b, ())))) fun x3 => some (Sum.inl ((maxI s x3.1, (IntKind.wrap .i64 (i + 1), ())), ()))) none) (some (Sum.inr (Sum.inl ((s, ()), ()))))) :
    loop step (((0 : Int), ((0 : Int), ())), ()) = some (.inl ((okW (okT a b ts), ()), ())) := by
  have H : ∃ o, loop step (embW ((0 : Nat) : Int) 0) = some o ∧ o = .inl ((okW (okT a b ts), ()), ()) := by
    refine loop_up (step := step) embW ts.length (fun j s => s = okW (okT a b (ts.take j))) (fun o => o = .inl ((okW (okT a b ts), ()), ())) (fun j s hj hI => ?_) (fun s hI => ?_) 0 0 (Nat.zero_le _) rfl
    · subst hI
      obtain ⟨t, ht⟩ := get_lt hj
      refine .inl ⟨okW (okT a b (ts.take (j + 1))), ?_, rfl⟩
      rw [hs]
      have hw : r63 (t, (a, (b, Unit.unit))) = some (wantV t a b, ()) := want_eq t a b
      simp only [dec_lt hj, inB_lt hj, Int.toNat_natCast, ht, cond_true, Option.bind_some, hw]
      rw [wrapS hj (by omega), take_succ ht, okT_snoc, ← max_ok, ← wantV_ok]
    · subst hI
      refine ⟨_, ?_, rfl⟩
      rw [hs, List.take_length]
      simp only [dec_nlt, cond_false]
  obtain ⟨o, h1, rfl⟩ := H
  exact h1
def ansT : Option Int → Int × Int × Unit
  | none => (0, (8, ()))
  | some v => (v, (0, ()))
theorem fin_ok (b : Bool) (v : Int) : cond (Bool.not (decide (okW b = (0 : Int)))) (some ((0 : Int), (okW b, ()))) (some (v, ((0 : Int), ()))) = some (ansT (if b = true then some v else none)) := by
  cases b <;> rfl
theorem two {l : List Int} (h : l.length = 2) : ∃ a b, l = [a, b] := by
  match l, h with
  | [a, b], _ => exact ⟨a, b, rfl⟩
theorem three {l : List Int} (h : l.length = 3) : ∃ a b c, l = [a, b, c] := by
  match l, h with
  | [a, b, c], _ => exact ⟨a, b, c, rfl⟩
theorem one {l : List Int} (h : l.length = 1) : ∃ a, l = [a] := by
  match l, h with
  | [a], _ => exact ⟨a, rfl⟩
@[reducible] def embTy (i : Int) (s : List Int) : (List Int × Int × Unit) × Unit := ((s, (i, ())), ())
set_option maxHeartbeats 8000000 in
theorem typed_eq : ∀ (n : Nat) (t : DExp), sz t ≤ n → VE t → r39 n (t, ()) = some (ansT (typ t))
  | 0, t, hn, _ => by rw [sz_node] at hn; omega
  | n + 1, t, hn, hv => by
    obtain ⟨h1, h2⟩ := (VE_node t).1 hv
    obtain ⟨g1, g2, g3⟩ := oneE_kids h1
    have hszk : ∀ k ∈ Tree.kids t, sz k ≤ n := fun k hk => by
      have := szL_mem hk
      rw [sz_node] at hn
      omega
    rw [r39_succ]
    unfold r39B
    rw [typ_node]
    have hlk : (Tree.kids t).length ≤ 3 := by
      have : kidsN (Tree.val t).1 ≤ 3 := by unfold kidsN; repeat' split
                                            all_goals omega
      omega
    generalize Tree.kids t = ks at h2 g3 hszk hlk
    refine bind_loopQ (fun r => r = some (ansT ((typs ks).bind (typ1 (Tree.val t)))))
      (loop_up embTy ks.length (fun j s => typs (ks.take j) = some s)
        (fun o => (o = Sum.inl (((0 : Int), ((8 : Int), ())), ()) ∧ typs ks = none) ∨ ∃ ts, o = Sum.inr (Sum.inl ((ts, ()), ())) ∧ typs ks = some ts)
        (fun j s hj hI => ?_) (fun s hI => ?_) 0 [] (Nat.zero_le _) rfl) (fun o ho => ?_)
    · obtain ⟨k, hk⟩ := get_lt hj
      have hkm := List.mem_of_getElem? hk
      have ih := typed_eq n k (hszk k hkm) (h2 k hkm)
      have hlen := typs_len _ _ hI
      rw [List.length_take] at hlen
      simp only [embTy, dec_lt hj, inB_lt hj, Int.toNat_natCast, hk, cond_true, Option.bind_some, nd_eta2, ih]
      cases ht : typ k with
      | none =>
        refine .inr ⟨_, by rw [d_true (by rfl)]; rfl, .inl ⟨rfl, typs_none ks k hkm ht⟩⟩
      | some v =>
        refine .inl ⟨s ++ [v], ?_, ?_⟩
        · rw [d_false (by rfl), d_true (by unfold fits; simp; omega), wrapS hj (by omega)]
          rfl
        · rw [take_succ hk, typs_snoc, hI, ht]; rfl
    · rw [List.take_length] at hI
      exact ⟨_, by simp only [embTy, dec_nlt, cond_false], .inr ⟨s, rfl, hI⟩⟩
    · rcases ho with ⟨rfl, hn⟩ | ⟨ts, rfl, hs⟩
      · rw [hn]; rfl
      · rw [hs, Option.bind_some, sumE_inr, sumE_inl]
        have hl := typs_len _ _ hs
        rw [← hl] at g3 hlk
        generalize Tree.val t = nd at g1 g2 g3
        obtain ⟨op, v, nm, ⟨⟩⟩ := nd
        simp only at g1 g2 g3
        have hop : op = 0 ∨ op = 1 ∨ op = 2 ∨ op = 3 ∨ op = 4 ∨ op = 5 ∨ op = 6 ∨ op = 7 ∨ op = 8 ∨ op = 9 ∨ op = 10 ∨ op = 11 ∨ op = 12 ∨ op = 13 ∨ op = 14 ∨ op = 15 ∨ op = 16 ∨ op = 17 ∨ op = 18 ∨ op = 19 ∨ op = 20 ∨ op = 21 := by omega
        have c811 : ∀ a b o : Int, 8 ≤ o → o ≤ 11 → ts = [a, b] → typ1 (o, (v, (nm, ()))) ts = (if okT 1 2 [a, b] = true ∧ (a = b ∨ a = 4 ∨ b = 4) then some 3 else none) := fun a b o h8 h11 he => by
          subst he
          unfold typ1 nthI
          simp only
          rw [if_neg (by omega), if_neg (by omega), if_neg (by omega), if_neg (by omega), if_neg (by omega), if_pos ⟨h8, h11⟩]
          rfl
        have cmpT : ∀ a b o : Int, 8 ≤ o → o ≤ 11 → ts = [a, b] → cond (Bool.not (decide (a = b))) (cond (Bool.not (decide (a = 4))) (cond (Bool.not (decide (b = 4))) (some ((0 : Int), ((8 : Int), ()))) (cond (Bool.not (decide (maxI (wantV a 1 2) (wantV b 1 2) = (0 : Int)))) (some ((0 : Int), (maxI (wantV a 1 2) (wantV b 1 2), ()))) (some ((3 : Int), ((0 : Int), ()))))) (cond (Bool.not (decide (maxI (wantV a 1 2) (wantV b 1 2) = (0 : Int)))) (some ((0 : Int), (maxI (wantV a 1 2) (wantV b 1 2), ()))) (some ((3 : Int), ((0 : Int), ()))))) (cond (Bool.not (decide (maxI (wantV a 1 2) (wantV b 1 2) = (0 : Int)))) (some ((0 : Int), (maxI (wantV a 1 2) (wantV b 1 2), ()))) (some ((3 : Int), ((0 : Int), ())))) = some (ansT (typ1 (o, (v, (nm, ()))) ts)) := fun a b o h8 h11 he => by
          rw [c811 a b o h8 h11 he]
          have hm : maxI (wantV a 1 2) (wantV b 1 2) = okW (okT 1 2 [a, b]) := by
            rw [wantV_ok a, wantV_ok b, max_ok]
            congr 1
            rw [show okT 1 2 [a, b] = (okT 1 2 [a] && decide (wantV b 1 2 = 0)) from okT_snoc 1 2 b [a], show okT 1 2 [a] = (okT 1 2 [] && decide (wantV a 1 2 = 0)) from okT_snoc 1 2 a []]
            rfl
          rw [hm, fin_ok]
          generalize okT 1 2 [a, b] = q
          by_cases e1 : a = b
          · rw [d_false (by rw [decide_eq_true e1]; rfl)]
            cases q <;> simp [e1]
          · rw [d_true (by rw [decide_eq_false e1]; rfl)]
            by_cases e2 : a = 4
            · rw [d_false (by rw [decide_eq_true e2]; rfl)]
              cases q <;> simp [e2]
            · rw [d_true (by rw [decide_eq_false e2]; rfl)]
              by_cases e3 : b = 4
              · rw [d_false (by rw [decide_eq_true e3]; rfl)]
                cases q <;> simp [e3]
              · rw [d_true (by rw [decide_eq_false e3]; rfl)]
                cases q <;> simp [e1, e2, e3] <;> rfl
        rcases hop with rfl | rfl | rfl | rfl | rfl | rfl | rfl | rfl | rfl | rfl | rfl | rfl | rfl | rfl | rfl | rfl | rfl | rfl | rfl | rfl | rfl | rfl
        · rfl
        · rfl
        · refine (d_false (by rfl)).trans ?_
          refine (d_true (by rfl)).trans ?_
          by_cases hk : nm = tKind
          · refine (d_true (decide_eq_true hk)).trans ?_
            unfold typ1; simp [hk]; rfl
          · refine (d_false (decide_eq_false hk)).trans ?_
            unfold typ1; simp [hk]; rfl
        · refine (d_false (by rfl)).trans ?_
          refine (d_false (by rfl)).trans ?_
          refine (d_true (by rfl)).trans ?_
          refine bind_of (wants_loop 3 3 ts (by omega) _ (by intros; rfl)) ?_
          exact (fin_ok _ 3).trans rfl
        · refine (d_false (by rfl)).trans ?_
          refine (d_false (by rfl)).trans ?_
          refine (d_false (by rfl)).trans ?_
          refine (d_true (by rfl)).trans ?_
          refine bind_of (wants_loop 3 3 ts (by omega) _ (by intros; rfl)) ?_
          exact (fin_ok _ 3).trans rfl
        · refine (d_false (by rfl)).trans ?_
          refine (d_false (by rfl)).trans ?_
          refine (d_false (by rfl)).trans ?_
          refine (d_false (by rfl)).trans ?_
          refine (d_true (by rfl)).trans ?_
          refine bind_of (wants_loop 3 3 ts (by omega) _ (by intros; rfl)) ?_
          exact (fin_ok _ 3).trans rfl
        · rfl
        · rfl
        all_goals repeat' (first | refine (d_false (by rfl)).trans ?_ | refine (d_true (by rfl)).trans ?_ | fail)
        · obtain ⟨a, b, rfl⟩ := two (l := ts) (by have : kidsN 8 = 2 := rfl; omega)
          refine (d_true (by rfl)).trans ?_
          refine bind_of (x := a) (by rfl) ?_
          refine bind_of (want_eq a 1 2) ?_
          refine (d_true (by rfl)).trans ?_
          refine bind_of (x := b) (by rfl) ?_
          refine bind_of (want_eq b 1 2) ?_
          refine (d_true (by rfl)).trans ?_
          refine bind_of (x := a) (by rfl) ?_
          refine (d_true (by rfl)).trans ?_
          refine bind_of (x := b) (by rfl) ?_
          exact cmpT a b 8 (by omega) (by omega) rfl
        · obtain ⟨a, b, rfl⟩ := two (l := ts) (by have : kidsN 9 = 2 := rfl; omega)
          refine (d_true (by rfl)).trans ?_
          refine bind_of (x := a) (by rfl) ?_
          refine bind_of (want_eq a 1 2) ?_
          refine (d_true (by rfl)).trans ?_
          refine bind_of (x := b) (by rfl) ?_
          refine bind_of (want_eq b 1 2) ?_
          refine (d_true (by rfl)).trans ?_
          refine bind_of (x := a) (by rfl) ?_
          refine (d_true (by rfl)).trans ?_
          refine bind_of (x := b) (by rfl) ?_
          exact cmpT a b 9 (by omega) (by omega) rfl
        · obtain ⟨a, b, rfl⟩ := two (l := ts) (by have : kidsN 10 = 2 := rfl; omega)
          refine (d_true (by rfl)).trans ?_
          refine bind_of (x := a) (by rfl) ?_
          refine bind_of (want_eq a 1 2) ?_
          refine (d_true (by rfl)).trans ?_
          refine bind_of (x := b) (by rfl) ?_
          refine bind_of (want_eq b 1 2) ?_
          refine (d_true (by rfl)).trans ?_
          refine bind_of (x := a) (by rfl) ?_
          refine (d_true (by rfl)).trans ?_
          refine bind_of (x := b) (by rfl) ?_
          exact cmpT a b 10 (by omega) (by omega) rfl
        · obtain ⟨a, b, rfl⟩ := two (l := ts) (by have : kidsN 11 = 2 := rfl; omega)
          refine (d_true (by rfl)).trans ?_
          refine bind_of (x := a) (by rfl) ?_
          refine bind_of (want_eq a 1 2) ?_
          refine (d_true (by rfl)).trans ?_
          refine bind_of (x := b) (by rfl) ?_
          refine bind_of (want_eq b 1 2) ?_
          refine (d_true (by rfl)).trans ?_
          refine bind_of (x := a) (by rfl) ?_
          refine (d_true (by rfl)).trans ?_
          refine bind_of (x := b) (by rfl) ?_
          exact cmpT a b 11 (by omega) (by omega) rfl
        · exact bind_of (wants_loop 1 1 ts (by omega) _ (by intros; rfl)) ((fin_ok _ 1).trans rfl)
        · exact bind_of (wants_loop 1 1 ts (by omega) _ (by intros; rfl)) ((fin_ok _ 1).trans rfl)
        · exact bind_of (wants_loop 1 1 ts (by omega) _ (by intros; rfl)) ((fin_ok _ 1).trans rfl)
        · exact bind_of (wants_loop 1 1 ts (by omega) _ (by intros; rfl)) ((fin_ok _ 1).trans rfl)
        · exact bind_of (wants_loop 1 1 ts (by omega) _ (by intros; rfl)) ((fin_ok _ 1).trans rfl)
        · exact bind_of (wants_loop 1 1 ts (by omega) _ (by intros; rfl)) ((fin_ok _ 1).trans rfl)
        · obtain ⟨a, b, c, rfl⟩ := three (l := ts) (by have : kidsN 18 = 3 := rfl; omega)
          refine (d_true (by rfl)).trans ?_
          refine bind_of (x := a) (by rfl) ?_
          refine bind_of (want_eq a 3 3) ?_
          refine (d_true (by rfl)).trans ?_
          refine bind_of (x := b) (by rfl) ?_
          refine (d_true (by rfl)).trans ?_
          refine bind_of (x := c) (by rfl) ?_
          have e18 : typ1 (18, (v, (nm, ()))) [a, b, c] = (if decide (a = 3 ∨ a = 4) = true then some (if b = c then b else 4) else none) := by
            unfold typ1 nthI
            simp
          have hw : wantV a 3 3 = okW (decide (a = 3 ∨ a = 4)) := by
            unfold wantV okW
            by_cases h : a = 3 ∨ a = 4
            · rw [if_pos (by rcases h with h | h <;> simp [h]), if_pos (decide_eq_true h)]
            · rw [if_neg (by intro hh; exact h (by rcases hh with hh | hh | hh <;> simp [hh])), if_neg (by simpa using h)]
          rw [e18]
          show cond (decide (b = c)) _ _ = _
          by_cases hbc : b = c
          · rw [if_pos hbc]
            refine (d_true (decide_eq_true hbc)).trans ?_
            refine (d_true (by rfl)).trans ?_
            refine bind_of (x := b) (by rfl) ?_
            show cond (Bool.not (decide (wantV a 3 3 = (0 : Int)))) (some ((0 : Int), (wantV a 3 3, ()))) _ = _
            rw [hw]
            exact fin_ok _ b
          · rw [if_neg hbc]
            refine (d_false (decide_eq_false hbc)).trans ?_
            show cond (Bool.not (decide (wantV a 3 3 = (0 : Int)))) (some ((0 : Int), (wantV a 3 3, ()))) _ = _
            rw [hw]
            exact fin_ok _ 4
        · obtain ⟨a, rfl⟩ := one (l := ts) (by have : kidsN 19 = 1 := rfl; omega)
          refine (d_true (by rfl)).trans ?_
          refine bind_of (x := a) (by rfl) ?_
          refine bind_of (want_eq a 2 2) ?_
          show cond (Bool.not (decide (wantV a 2 2 = (0 : Int)))) (some ((0 : Int), (wantV a 2 2, ()))) _ = _
          have hw : wantV a 2 2 = okW (okT 2 2 [a]) := by
            rw [wantV_ok a, show okT 2 2 [a] = (okT 2 2 [] && decide (wantV a 2 2 = 0)) from okT_snoc 2 2 a []]
            rfl
          rw [hw]
          exact (fin_ok _ 1).trans rfl
        · exact bind_of (wants_loop 1 1 ts (by omega) _ (by intros; rfl)) ((fin_ok _ 1).trans rfl)
        · exact bind_of (wants_loop 1 1 ts (by omega) _ (by intros; rfl)) ((fin_ok _ 1).trans rfl)
end Go.Proofs.YtdfgfjnpllncdaaGreatDoor.I

namespace Go.Proofs.YtdfgfjnpllncdaaGreatDoor.I
open Go.RowKit
set_option linter.unusedVariables false
set_option linter.unusedSimpArgs false
set_option linter.constructorNameAsVariable false
theorem index_int (l : List Int) (s : Int) (hl : l.length ≤ 1000000) : ∃ i : Int, r64 (l, (s, ())) = some (i, ()) ∧ (0 ≤ i ↔ s ∈ l) := by
  unfold r64
  refine bind_loopQ (fun r => ∃ i : Int, r = some (i, ()) ∧ (0 ≤ i ↔ s ∈ l)) (loop_up embI l.length (fun i _ => s ∉ l.take i) (fun o => (∃ k : Nat, o = Sum.inl (((k : Int), ()), ()) ∧ s ∈ l) ∨ (o = Sum.inr (Sum.inl ((), ())) ∧ s ∉ l)) (fun i u hi hI => ?_) (fun u hI => ?_) 0 () (Nat.zero_le _) (by simp)) (fun o ho => ?_)
  · obtain ⟨a, ha⟩ := get_lt hi
    simp only [embI, dec_lt hi, inB_lt hi, Int.toNat_natCast, ha, cond_true, Option.bind_some]
    by_cases he : s = a
    · refine .inr ⟨_, by rw [decide_eq_true he]; rfl, .inl ⟨i, rfl, ?_⟩⟩
      rw [he]
      exact List.mem_of_getElem? ha
    · refine .inl ⟨(), by rw [decide_eq_false he, cond_false, wrapS hi (by omega)], ?_⟩
      rw [take_succ ha]
      simp only [List.mem_append, List.mem_singleton]
      exact fun h => h.elim hI he
  · rw [List.take_length] at hI
    refine ⟨_, by simp only [embI, dec_nlt, cond_false], .inr ⟨rfl, hI⟩⟩
  · rcases ho with ⟨k, rfl, h⟩ | ⟨rfl, h⟩
    · exact ⟨_, rfl, fun _ => h, fun _ => by simp⟩
    · refine ⟨_, rfl, fun hc => ?_, fun hc => absurd hc h⟩
      simp at hc
theorem contains_int (l : List Int) (s : Int) (hl : l.length ≤ 1000000) : r41 (l, (s, ())) = some (decide (s ∈ l), ()) := by
  unfold r41
  obtain ⟨i, h1, h2⟩ := index_int l s hl
  rw [h1]
  simp only [Option.bind_some]
  have : decide (0 ≤ i) = decide (s ∈ l) := decide_eq_decide.2 h2
  rw [this]
theorem all_eq (a b : Int) (al : List Int) (hal : ∀ t, t ∈ al ↔ t = a ∨ t = b) (h9 : al.length ≤ 9) (ts : List Int) (hl : ts.length ≤ 1000000) : r40 (al, ()) (ts, ()) = some ((okT a b ts, ()), (ts, ())) := by
  unfold r40
  refine bind_loop (Post := fun o => (o = Sum.inl ((false, ()), ()) ∧ okT a b ts = false) ∨ (o = Sum.inr (Sum.inl ((), ())) ∧ okT a b ts = true)) (loop_up embI ts.length (fun j _ => okT a b (ts.take j) = true) _ (fun j u hj hI => ?_) (fun u hI => ?_) 0 () (Nat.zero_le _) rfl) (fun o ho => ?_)
  · obtain ⟨t, ht⟩ := get_lt hj
    have hc := contains_int al t (by omega)
    have hc : r41 (al, (t, Unit.unit)) = _ := hc
    have hsp : okT a b (ts.take (j + 1)) = decide (wantV t a b = 0) := by rw [take_succ ht, okT_snoc, hI, Bool.true_and]
    have hall : ts = ts.take (j + 1) ++ ts.drop (j + 1) := (List.take_append_drop _ _).symm
    have hbad : okT a b (ts.take (j + 1)) = false → okT a b ts = false := fun h => by
      have e : okT a b ts = (okT a b (ts.take (j + 1)) && okT a b (ts.drop (j + 1))) := by
        have hh := congrArg (okT a b) hall
        rw [hh]
        unfold okT
        rw [List.all_append]
      rw [e, h]; rfl
    simp only [embI, dec_lt hj, inB_lt hj, Int.toNat_natCast, ht, cond_true, Option.bind_some, wrapS hj (show ts.length ≤ 9223372036854775807 by omega)]
    by_cases h4 : t = 4
    · refine .inl ⟨(), by rw [d_false (by rw [decide_eq_true h4]; rfl)], ?_⟩
      rw [hsp]; unfold wantV; simp [h4]
    · rw [d_true (by rw [decide_eq_false h4]; rfl), hc, Option.bind_some]
      by_cases hm : t ∈ al
      · refine .inl ⟨(), by rw [d_false (by rw [decide_eq_true hm]; rfl)], ?_⟩
        have := (hal t).1 hm
        rw [hsp]; unfold wantV; rw [if_pos (by rcases this with h | h <;> simp [h])]; rfl
      · refine .inr ⟨_, by rw [d_true (by rw [decide_eq_false hm]; rfl)], .inl ⟨rfl, hbad ?_⟩⟩
        have : ¬ (t = a ∨ t = b) := fun h => hm ((hal t).2 h)
        rw [hsp]; unfold wantV; rw [if_neg (by intro h; rcases h with h | h | h; exact this (.inl h); exact this (.inr h); exact h4 h)]; rfl
  · rw [List.take_length] at hI
    exact ⟨_, by simp only [embI, dec_nlt, cond_false], .inr ⟨rfl, hI⟩⟩
  · rcases ho with ⟨rfl, h⟩ | ⟨rfl, h⟩
    · rw [h]; rfl
    · rw [h]; rfl
def ansR : Option Int → Int × Unit
  | none => (-1, ())
  | some v => (v, ())
theorem typ1_pos {nd : DNode} {ts : List Int} {v : Int} (hk : nd.1 = 0 → 0 ≤ nd.2.1.1) (hts : ∀ t ∈ ts, 0 ≤ t) (h : typ1 nd ts = some v) : 0 ≤ v := by
  have hn : ∀ i, 0 ≤ nthI ts i := fun i => by
    unfold nthI
    rw [List.getD_eq_getElem?_getD]
    cases hi : ts[i]? with
    | none => simp
    | some x => exact hts x (List.mem_of_getElem? hi)
  unfold typ1 at h
  repeat' split at h
  all_goals first
    | (cases h; done)
    | (injection h with h
       first
        | (subst h; first | omega | (exact hk (by assumption)) | exact hn _ | (split <;> first | omega | exact hn _)))
theorem kind_pos {nd : DNode} {k : Nat} (h : oneE nd k = 0) (h0 : nd.1 = 0) : 0 ≤ nd.2.1.1 := by
  unfold oneE at h
  rw [h0] at h
  split at h
  · cases h
  · split at h
    · cases h
    · rw [if_pos rfl] at h
      unfold checkV at h
      split at h
      · cases h
      · omega
mutual
theorem typ_pos : ∀ (t : DExp), VE t → ∀ v, typ t = some v → 0 ≤ v
  | .node nd ks, hv, v, h => by
    have hv' := (VE_node (.node nd ks)).1 hv
    simp only [typ] at h
    cases hts : typs ks with
    | none => rw [hts] at h; cases h
    | some ts =>
      rw [hts] at h
      exact typ1_pos (kind_pos hv'.1) (typs_pos ks hv'.2 ts hts) h
theorem typs_pos : ∀ (ks : List DExp), (∀ k ∈ ks, VE k) → ∀ ts, typs ks = some ts → ∀ t ∈ ts, 0 ≤ t
  | [], _, ts, h, t, ht => by
    simp only [typs, Option.some.injEq] at h
    subst h
    cases ht
  | k :: ks, hv, ts, h, t, ht => by
    simp only [typs] at h
    cases h1 : typ k with
    | none => rw [h1] at h; cases h
    | some u =>
      rw [h1] at h
      cases h2 : typs ks with
      | none => rw [h2] at h; cases h
      | some us =>
        rw [h2] at h
        simp only [Option.bind_some, Option.some.injEq] at h
        subst h
        rcases List.mem_cons.1 ht with rfl | ht
        · exact typ_pos k (hv k (by simp)) _ h1
        · exact typs_pos ks (fun x hx => hv x (by simp [hx])) us h2 t ht
end
@[reducible] def embTR (i : Int) (s : List Int) : (Int × List Int × Unit) × Unit := ((i, (s, ())), ())
theorem fin_all (b : Bool) (v : Int) : cond (Bool.not b) (some ((-1 : Int), ())) (some (v, ())) = some (ansR (if b = true then some v else none)) := by cases b <;> rfl
set_option maxHeartbeats 8000000 in
theorem typeOf_eq : ∀ (n : Nat) (t : DExp), sz t ≤ n → VE t → r19 n (t, ()) = some (ansR (typ t))
  | 0, t, hn, _ => by rw [sz_node] at hn; omega
  | n + 1, t, hn, hv => by
    obtain ⟨h1, h2⟩ := (VE_node t).1 hv
    obtain ⟨g1, g2, g3⟩ := oneE_kids h1
    have hszk : ∀ k ∈ Tree.kids t, sz k ≤ n := fun k hk => by
      have := szL_mem hk
      rw [sz_node] at hn
      omega
    rw [r19_succ]
    unfold r19B
    rw [typ_node]
    have hlk : (Tree.kids t).length ≤ 3 := by
      have : kidsN (Tree.val t).1 ≤ 3 := by unfold kidsN; repeat' split
                                            all_goals omega
      omega
    generalize Tree.kids t = ks at h2 g3 hszk hlk
    refine bind_loopQ (fun r => r = some (ansR ((typs ks).bind (typ1 (Tree.val t)))))
      (loop_up embTR ks.length (fun j s => typs (ks.take j) = some s)
        (fun o => (∃ s, o = Sum.inl (((-1 : Int), (s, ())), ()) ∧ typs ks = none) ∨ ∃ ts, o = Sum.inr (Sum.inl ((ts, ()), ())) ∧ typs ks = some ts)
        (fun j s hj hI => ?_) (fun s hI => ?_) 0 [] (Nat.zero_le _) rfl) (fun o ho => ?_)
    · obtain ⟨k, hk⟩ := get_lt hj
      have hkm := List.mem_of_getElem? hk
      have ih := typeOf_eq n k (hszk k hkm) (h2 k hkm)
      have hpos := typ_pos k (h2 k hkm)
      have hlen := typs_len _ _ hI
      rw [List.length_take] at hlen
      simp only [embTR, dec_lt hj, inB_lt hj, Int.toNat_natCast, hk, cond_true, Option.bind_some, nd_eta2, ih]
      cases ht : typ k with
      | none =>
        refine .inr ⟨_, by rw [d_true (by rfl)], .inl ⟨s, rfl, typs_none ks k hkm ht⟩⟩
      | some v =>
        have := hpos v ht
        refine .inl ⟨s ++ [v], ?_, ?_⟩
        · rw [d_false (by show decide (v < (0 : Int)) = false; exact decide_eq_false (by omega)), d_true (by unfold fits; simp; omega), wrapS hj (by omega)]
          rfl
        · rw [take_succ hk, typs_snoc, hI, ht]; rfl
    · rw [List.take_length] at hI
      exact ⟨_, by simp only [embTR, dec_nlt, cond_false], .inr ⟨s, rfl, hI⟩⟩
    · rcases ho with ⟨s, rfl, hn⟩ | ⟨ts, rfl, hs⟩
      · rw [hn]; rfl
      · rw [hs, Option.bind_some, sumE_inr, sumE_inl]
        have hl := typs_len _ _ hs
        rw [← hl] at g3 hlk
        generalize Tree.val t = nd at g1 g2 g3
        obtain ⟨op, v, nm, ⟨⟩⟩ := nd
        simp only at g1 g2 g3
        have a3 : ∀ ts : List Int, ts.length ≤ 3 → r40 ([3], ()) (ts, ()) = some ((okT 3 3 ts, ()), (ts, ())) := fun ts h => all_eq 3 3 [3] (fun t => by simp) (by simp) ts (by omega)
        have a12 : ∀ ts : List Int, ts.length ≤ 3 → r40 ([1, 2], ()) (ts, ()) = some ((okT 1 2 ts, ()), (ts, ())) := fun ts h => all_eq 1 2 [1, 2] (fun t => by simp) (by simp) ts (by omega)
        have a2 : ∀ ts : List Int, ts.length ≤ 3 → r40 ([2], ()) (ts, ()) = some ((okT 2 2 ts, ()), (ts, ())) := fun ts h => all_eq 2 2 [2] (fun t => by simp) (by simp) ts (by omega)
        have a1 : ∀ ts : List Int, ts.length ≤ 3 → r40 ([1], ()) (ts, ()) = some ((okT 1 1 ts, ()), (ts, ())) := fun ts h => all_eq 1 1 [1] (fun t => by simp) (by simp) ts (by omega)
        have hop : op = 0 ∨ op = 1 ∨ op = 2 ∨ op = 3 ∨ op = 4 ∨ op = 5 ∨ op = 6 ∨ op = 7 ∨ op = 8 ∨ op = 9 ∨ op = 10 ∨ op = 11 ∨ op = 12 ∨ op = 13 ∨ op = 14 ∨ op = 15 ∨ op = 16 ∨ op = 17 ∨ op = 18 ∨ op = 19 ∨ op = 20 ∨ op = 21 := by omega
        have c811 : ∀ a b o : Int, 8 ≤ o → o ≤ 11 → typ1 (o, (v, (nm, ()))) [a, b] = (if okT 1 2 [a, b] = true ∧ (a = b ∨ a = 4 ∨ b = 4) then some 3 else none) := fun a b o h8 h11 => by
          unfold typ1 nthI
          simp only
          rw [if_neg (by omega), if_neg (by omega), if_neg (by omega), if_neg (by omega), if_neg (by omega), if_pos ⟨h8, h11⟩]
          rfl
        have cmpT : ∀ a b o : Int, 8 ≤ o → o ≤ 11 → cond (okT 1 2 [a, b]) (cond (decide (a = b)) (some ((3 : Int), ())) (cond (decide (a = 4)) (some ((3 : Int), ())) (cond (Bool.not (decide (b = 4))) (some ((-1 : Int), ())) (some ((3 : Int), ()))))) (some ((-1 : Int), ())) = some (ansR (typ1 (o, (v, (nm, ()))) [a, b])) := fun a b o h8 h11 => by
          rw [c811 a b o h8 h11]
          generalize okT 1 2 [a, b] = q
          cases q
          · simp [ansR]
          · by_cases e1 : a = b
            · simp [e1, ansR]
            · by_cases e2 : a = 4
              · simp [e2, ansR]
              · by_cases e3 : b = 4 <;> simp [e1, e2, e3, ansR]
        rcases hop with rfl | rfl | rfl | rfl | rfl | rfl | rfl | rfl | rfl | rfl | rfl | rfl | rfl | rfl | rfl | rfl | rfl | rfl | rfl | rfl | rfl | rfl
        all_goals repeat' (first | refine (d_false (by rfl)).trans ?_ | refine (d_true (by rfl)).trans ?_ | fail)
        · rfl
        · rfl
        · show cond (decide (nm = tKind)) _ _ = _
          by_cases hk : nm = tKind
          · refine (d_true (decide_eq_true hk)).trans ?_
            unfold typ1; simp [hk]; rfl
          · refine (d_false (decide_eq_false hk)).trans ?_
            unfold typ1; simp [hk]; rfl
        · exact bind_of (a3 ts hlk) ((fin_all _ 3).trans rfl)
        · exact bind_of (a3 ts hlk) ((fin_all _ 3).trans rfl)
        · exact bind_of (a3 ts hlk) ((fin_all _ 3).trans rfl)
        · rfl
        · rfl
        · obtain ⟨a, b, rfl⟩ := two (l := ts) (by have : kidsN 8 = 2 := rfl; omega)
          exact bind_of (a12 _ hlk) (cmpT a b 8 (by omega) (by omega))
        · obtain ⟨a, b, rfl⟩ := two (l := ts) (by have : kidsN 9 = 2 := rfl; omega)
          exact bind_of (a12 _ hlk) (cmpT a b 9 (by omega) (by omega))
        · obtain ⟨a, b, rfl⟩ := two (l := ts) (by have : kidsN 10 = 2 := rfl; omega)
          exact bind_of (a12 _ hlk) (cmpT a b 10 (by omega) (by omega))
        · obtain ⟨a, b, rfl⟩ := two (l := ts) (by have : kidsN 11 = 2 := rfl; omega)
          exact bind_of (a12 _ hlk) (cmpT a b 11 (by omega) (by omega))
        · exact bind_of (a1 ts hlk) ((fin_all _ 1).trans rfl)
        · exact bind_of (a1 ts hlk) ((fin_all _ 1).trans rfl)
        · exact bind_of (a1 ts hlk) ((fin_all _ 1).trans rfl)
        · exact bind_of (a1 ts hlk) ((fin_all _ 1).trans rfl)
        · exact bind_of (a1 ts hlk) ((fin_all _ 1).trans rfl)
        · exact bind_of (a1 ts hlk) ((fin_all _ 1).trans rfl)
        · obtain ⟨a, b, c, rfl⟩ := three (l := ts) (by have : kidsN 18 = 3 := rfl; omega)
          have e18 : typ1 (18, (v, (nm, ()))) [a, b, c] = (if decide (a = 3 ∨ a = 4) = true then some (if b = c then b else 4) else none) := by
            unfold typ1 nthI
            simp
          rw [e18]
          refine (d_true (by rfl)).trans ?_
          refine bind_of (x := a) (by rfl) ?_
          show cond (decide (a = 3)) _ _ = _
          by_cases h3 : a = 3
          · rw [if_pos (decide_eq_true (.inl h3))]
            refine (d_true (decide_eq_true h3)).trans ?_
            refine (d_true (by rfl)).trans ?_
            refine bind_of (x := b) (by rfl) ?_
            refine (d_true (by rfl)).trans ?_
            refine bind_of (x := c) (by rfl) ?_
            show cond (decide (b = c)) _ _ = _
            by_cases hbc : b = c
            · rw [if_pos hbc]
              exact (d_true (decide_eq_true hbc)).trans rfl
            · rw [if_neg hbc]
              exact (d_false (decide_eq_false hbc)).trans rfl
          · refine (d_false (decide_eq_false h3)).trans ?_
            refine (d_true (by rfl)).trans ?_
            refine bind_of (x := a) (by rfl) ?_
            refine (d_true (by rfl)).trans ?_
            refine bind_of (x := b) (by rfl) ?_
            refine (d_true (by rfl)).trans ?_
            refine bind_of (x := c) (by rfl) ?_
            show cond (decide (b = c)) _ _ = _
            by_cases h4 : a = 4
            · rw [if_pos (decide_eq_true (.inr h4))]
              by_cases hbc : b = c
              · rw [if_pos hbc]
                refine (d_true (decide_eq_true hbc)).trans ?_
                refine (d_true (by rfl)).trans ?_
                refine bind_of (x := b) (by rfl) ?_
                exact (d_false (by rw [decide_eq_true h4]; rfl)).trans rfl
              · rw [if_neg hbc]
                refine (d_false (decide_eq_false hbc)).trans ?_
                exact (d_false (by rw [decide_eq_true h4]; rfl)).trans rfl
            · rw [if_neg (by simp [h3, h4])]
              by_cases hbc : b = c
              · refine (d_true (decide_eq_true hbc)).trans ?_
                refine (d_true (by rfl)).trans ?_
                refine bind_of (x := b) (by rfl) ?_
                exact (d_true (by rw [decide_eq_false h4]; rfl)).trans rfl
              · refine (d_false (decide_eq_false hbc)).trans ?_
                exact (d_true (by rw [decide_eq_false h4]; rfl)).trans rfl
        · exact bind_of (a2 ts hlk) ((fin_all _ 1).trans rfl)
        · exact bind_of (a1 ts hlk) ((fin_all _ 1).trans rfl)
        · exact bind_of (a1 ts hlk) ((fin_all _ 1).trans rfl)
end Go.Proofs.YtdfgfjnpllncdaaGreatDoor.I

namespace Go.Proofs.YtdfgfjnpllncdaaGreatDoor.I
set_option linter.unusedVariables false
structure Le {α : Type} (a b : Option α) : Prop where
  h : ∀ y, a = some y → b = some y
theorem le_refl {α : Type} (a : Option α) : Le a a := ⟨fun _ h => h⟩
theorem le_none {α : Type} (a : Option α) : Le none a := ⟨fun _ h => by cases h⟩
theorem le_cond {α : Type} (b : Bool) {x y x' y' : Option α} (h : Le x x') (k : Le y y') : Le (cond b x y) (cond b x' y') := by
  cases b <;> assumption
theorem le_bind {α β : Type} {o o' : Option α} {f f' : α → Option β} (h : Le o o') (k : ∀ x, Le (f x) (f' x)) : Le (Option.bind o f) (Option.bind o' f') := ⟨fun y e => by
  cases o with
  | none => cases e
  | some x =>
    rw [h.h x rfl]
    exact (k x).h y e⟩
theorem le_sumE {α β γ : Type} {f f' : α → Option γ} {g g' : β → Option γ} (h : ∀ x, Le (f x) (f' x)) (k : ∀ x, Le (g x) (g' x)) (o : α ⊕ β) : Le (sumE f g o) (sumE f' g' o) := by
  cases o with
  | inl x => exact h x
  | inr x => exact k x
theorem le_iter {D O : Type} {s s' : D → Option (D ⊕ O)} (h : ∀ d, Le (s d) (s' d)) : ∀ (m : Nat) (d : D), Le (iter s m d) (iter s' m d)
  | 0, d => ⟨fun _ e => by cases e⟩
  | m + 1, d => ⟨fun y e => by
    simp only [iter] at e ⊢
    cases hs : s d with
    | none => rw [hs] at e; cases e
    | some r =>
      rw [hs] at e
      rw [(h d).h r hs]
      cases r with
      | inl d' => exact (le_iter h m d').h y e
      | inr o => exact e⟩
def loopF (m : Nat) {D O : Type} (step : D → Option (D ⊕ O)) (d : D) : Option O := iter step m d
theorem le_loop {D O : Type} {s s' : D → Option (D ⊕ O)} (m : Nat) (h : ∀ d, Le (s d) (s' d)) (d : D) : Le (loopF m s d) (loop s' d) := ⟨fun y e => loop_of_iter ((le_iter h m d).h y e)⟩
end Go.Proofs.YtdfgfjnpllncdaaGreatDoor.I
