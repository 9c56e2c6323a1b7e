import Derived.Test.YtgabpbnndikheaaBk3
import Derived.Lib.ItoaLen
import Derived.OpenShut
import Derived.Lib.Small
import Derived.Lib.Join
import Derived.Below
import Derived.IntWalk
import Derived.Laws.BitsAllLaws
import Derived.Laws.BitsLemmas
namespace Go.Proofs.Ytgabpbnndikheaa.I
open Go.RowKit
set_option linter.unusedVariables false
set_option linter.constructorNameAsVariable false
def Tot {α : Type} (o : Option α) : Prop := ∃ y, o = some y
theorem tot_some {α : Type} (y : α) : Tot (some y) := ⟨y, rfl⟩
theorem tot_bind {α β : Type} {o : Option α} {f : α → Option β} (h : Tot o) (k : ∀ y, Tot (f y)) : Tot (o.bind f) := by
  obtain ⟨y, rfl⟩ := h
  exact k y
theorem tot_cond {α : Type} {b : Bool} {x y : Option α} (h : Tot x) (k : Tot y) : Tot (cond b x y) := by
  cases b
  · exact k
  · exact h
/-- A loop that counts. -/
theorem tot_count {S D O : Type} {step : D → Option (D ⊕ O)} (emb : Int → S → D) (Inv : Nat → S → Prop) (n : Nat)
    (hin : ∀ (i : Nat) s, i < n → Inv i s → ∃ r, step (emb i s) = some r ∧ ((∃ s', r = .inl (emb ((i : Int) + 1) s') ∧ Inv (i + 1) s') ∨ ∃ o, r = .inr o))
    (hend : ∀ s, ∃ o, step (emb (n : Int) s) = some (.inr o)) (s : S) (h0 : Inv 0 s) : Tot (loop step (emb 0 s)) := by
  have key : ∀ (m i : Nat) (s : S), n - i = m → i ≤ n → Inv i s → Tot (loop step (emb (i : Int) s)) := by
    intro m
    induction m with
    | zero =>
      intro i s hm hi hI
      have : i = n := by omega
      subst this
      obtain ⟨o, ho⟩ := hend s
      exact ⟨o, by rw [loop_eq, ho]⟩
    | succ m ih =>
      intro i s hm hi hI
      obtain ⟨r, hr, h⟩ := hin i s (by omega) hI
      rw [loop_eq, hr]
      rcases h with ⟨s', rfl, hI'⟩ | ⟨o, rfl⟩
      · exact ih (i + 1) s' (by omega) (by omega) hI'
      · exact ⟨o, rfl⟩
  exact key n 0 s (by omega) (Nat.zero_le _) h0
theorem tot_sumE {α β γ : Type} {f : α → Option γ} {g : β → Option γ} (h : ∀ a, Tot (f a)) (k : ∀ b, Tot (g b)) (o : α ⊕ β) : Tot (sumE f g o) := by
  cases o
  · exact h _
  · exact k _
theorem tot_emptyE {γ : Type} (o : Empty) : Tot (emptyE (γ := Option γ) o) := nomatch o
/-- What a round may come to. -/
def Good {S D O : Type} (emb : Int → S → D) (Inv : Nat → S → Prop) (i : Nat) (x : Option (D ⊕ O)) : Prop := (∃ s', x = some (.inl (emb ((i : Int) + 1) s')) ∧ Inv (i + 1) s') ∨ ∃ o, x = some (.inr o)
section
variable {S D O : Type} {emb : Int → S → D} {Inv : Nat → S → Prop} {i : Nat}
theorem good_cond {b : Bool} {x y : Option (D ⊕ O)} (h : Good emb Inv i x) (k : Good emb Inv i y) : Good emb Inv i (cond b x y) := by
  cases b
  · exact k
  · exact h
theorem good_bind {α : Type} {o : Option α} {f : α → Option (D ⊕ O)} (h : Tot o) (k : ∀ y, Good emb Inv i (f y)) : Good emb Inv i (o.bind f) := by
  obtain ⟨y, rfl⟩ := h
  exact k y
theorem good_out (o : O) : Good emb Inv i (some (.inr o) : Option (D ⊕ O)) := .inr ⟨o, rfl⟩
theorem good_next (s' : S) (h : Inv (i + 1) s') : Good emb Inv i (some (.inl (emb ((i : Int) + 1) s')) : Option (D ⊕ O)) := .inl ⟨s', rfl, h⟩
theorem good_sumE {α β : Type} {f : α → Option (D ⊕ O)} {g : β → Option (D ⊕ O)} (h : ∀ a, Good emb Inv i (f a)) (k : ∀ b, Good emb Inv i (g b)) (o : α ⊕ β) : Good emb Inv i (sumE f g o) := by
  cases o
  · exact h _
  · exact k _
theorem good_emptyE (o : Empty) : Good emb Inv i (emptyE (γ := Option (D ⊕ O)) o) := nomatch o
theorem tot_loop {step : D → Option (D ⊕ O)} (emb : Int → S → D) (Inv : Nat → S → Prop) (n : Nat) (hin : ∀ (i : Nat) s, i < n → Inv i s → Good emb Inv i (step (emb i s))) (hend : ∀ s, ∃ o, step (emb (n : Int) s) = some (.inr o)) (s : S) (h0 : Inv 0 s) : Tot (loop step (emb 0 s)) :=
  tot_count emb Inv n (fun i s hi hI => by
    rcases hin i s hi hI with ⟨s', h1, h2⟩ | ⟨o, h1⟩
    · exact ⟨_, h1, .inl ⟨s', rfl, h2⟩⟩
    · exact ⟨_, h1, .inr ⟨o, rfl⟩⟩) hend s h0
end
theorem at_next {α : Type} {xs : List α} {i : Nat} (hi : i < xs.length) (hl : xs.length ≤ 9223372036854775807) :
    inB (Int.tmod (IntKind.wrap .i64 ((i : Int) + 1)) (xs.length : Int)) xs.length = true ∧ ∃ a, xs[Int.toNat (Int.tmod (IntKind.wrap .i64 ((i : Int) + 1)) (xs.length : Int))]? = some a := by
  rw [wrapS hi hl, show (i : Int) + 1 = ((i + 1 : Nat) : Int) by omega, ← Int.ofNat_tmod]
  have hlt : (i + 1) % xs.length < xs.length := Nat.mod_lt _ (by omega)
  exact ⟨inB_lt hlt, by rw [Int.toNat_natCast]; exact ⟨_, List.getElem?_eq_getElem hlt⟩⟩
theorem t110 (x) : Tot (r70 x) := tot_bind (tot_some _) fun _ => tot_bind (tot_some _) fun _ => tot_some _
theorem t153 (x) : Tot (r87 x) := tot_bind (t110 _) fun _ => tot_bind (t110 _) fun _ => tot_some _
theorem t149 (x) : Tot (r83 x) := tot_bind (t153 _) fun _ => tot_bind (t153 _) fun _ => tot_some _
theorem t154 (x) : Tot (r88 x) := tot_bind (t153 _) fun _ => tot_bind (t153 _) fun _ => tot_some _
theorem t36 (x) : Tot (r82 x) := tot_bind (tot_some _) fun _ => tot_bind (tot_some _) fun _ => tot_cond (tot_cond (tot_some _) (tot_some _)) (tot_cond (tot_some _) (tot_cond (tot_some _) (tot_cond (tot_some _) (tot_some _))))
theorem t143 (x) : Tot (r79 x) := tot_bind (t149 _) fun _ => tot_bind (t36 _) fun _ => tot_some _
theorem t87 (x) : Tot (r65 x) := tot_bind (t110 _) fun _ => tot_some _
theorem t111 (x) : Tot (r71 x) := tot_bind (t87 _) fun _ => tot_some _
theorem t151 (x) : Tot (r85 x) := tot_bind (t143 _) fun _ => tot_cond (tot_bind (t154 _) fun _ => tot_some _) (tot_some _)
abbrev IU : Type := (Int × Unit) × Unit
@[reducible] def embI (i : Int) (_ : Unit) : IU := ((i, ()), ())
theorem t145 (l : List Int) (n : Int) (hl : l.length ≤ 9223372036854775807) : Tot (r81 (l, (n, ()))) := by
  unfold r81
  refine tot_bind (tot_loop embI (fun _ _ => True) l.length (fun i _ hi _ => ?_) (fun _ => ?_) () trivial) (tot_sumE (fun _ => tot_some _) (tot_sumE (fun _ => tot_some _) tot_emptyE))
  · obtain ⟨a, ha⟩ : ∃ a, l[i]? = some a := ⟨_, List.getElem?_eq_getElem hi⟩
    dsimp only [embI]
    simp only [dec_lt hi, inB_lt hi, Int.toNat_natCast, ha, cond_true, Option.bind_some]
    rw [wrapS hi hl]
    exact good_cond (good_out _) (good_next () trivial)
  · dsimp only [embI]
    simp only [dec_nlt, cond_false]
    exact ⟨_, rfl⟩
theorem t130 (l : List Int) (n : Int) (hl : l.length ≤ 9223372036854775807) : Tot (r78 (l, (n, ()))) := tot_bind (t145 l n hl) fun _ => tot_some _
theorem t109 (l : List DPt) (hl : l.length ≤ 9223372036854775807) : Tot (r69_71 (l, ((), ()))) := by
  unfold r69_71
  refine tot_bind (tot_loop embI (fun _ _ => True) l.length (fun i _ hi _ => ?_) (fun _ => ?_) () trivial) (tot_sumE (fun _ => tot_some _) (tot_sumE (fun _ => tot_some _) tot_emptyE))
  · obtain ⟨a, ha⟩ : ∃ a, l[i]? = some a := ⟨_, List.getElem?_eq_getElem hi⟩
    dsimp only [embI]
    simp only [dec_lt hi, inB_lt hi, Int.toNat_natCast, ha, cond_true, Option.bind_some]
    rw [wrapS hi hl]
    exact good_bind (t111 _) fun _ => good_cond (good_out _) (good_next () trivial)
  · dsimp only [embI]
    simp only [dec_nlt, cond_false]
    exact ⟨_, rfl⟩
theorem t85 (l : List DPt) (hl : l.length ≤ 9223372036854775807) : Tot (r63_71 (l, ((), ()))) := tot_bind (t109 l hl) fun _ => tot_some _
/-- A shared point is listed once. -/
theorem t150 (x) (d : List DPt) (hd : d.length ≤ 3) : ∃ d', r84 x (d, ()) = some ((), (d', ())) ∧ d'.length ≤ d.length + 1 := by
  unfold r84
  obtain ⟨y, hy⟩ := t151 ((x.2.1.1, (x.2.1.2.1, ())), ((x.2.2.1.1, (x.2.2.1.2.1, ())), ((x.1.1, (x.1.2.1, ())), ())))
  simp only [hy, Option.bind_some]
  cases y.1 with
  | false => exact ⟨d, rfl, by omega⟩
  | true =>
    simp only [Bool.not_true, cond_false]
    have hl : Tot (loop (fun (x1 : IU) => (cond (Decidable.decide (LT.lt x1.1.1 (Nat.cast (List.length d) : Int))) (cond (inB x1.1.1 (List.length d)) (Option.bind (GetElem?.getElem? d (Int.toNat x1.1.1)) (fun x2 => (cond (Bool.and (Decidable.decide (Eq x2.1 x.1.1)) (Decidable.decide (Eq x2.2.1 x.1.2.1))) (Option.some (Sum.inr (Sum.inl (Unit.unit, Unit.unit)))) (Option.some (Sum.inl (((IntKind.wrap IntKind.i64 (HAdd.hAdd x1.1.1 (1 : Int))), Unit.unit), Unit.unit)))))) (Option.none)) (Option.some (Sum.inr (Sum.inr (Sum.inl (Unit.unit, Unit.unit) : (Unit × Unit) ⊕ Empty) : (Unit × Unit) ⊕ (Unit × Unit) ⊕ Empty))))) (embI 0 ())) := by
      refine tot_loop embI (fun _ _ => True) d.length (fun i _ hi _ => ?_) (fun _ => ?_) () trivial
      · obtain ⟨a, ha⟩ : ∃ a, d[i]? = some a := ⟨_, List.getElem?_eq_getElem hi⟩
        dsimp only [embI]
        simp only [dec_lt hi, inB_lt hi, Int.toNat_natCast, ha, cond_true, Option.bind_some]
        rw [wrapS hi (by omega)]
        exact good_cond (good_out _) (good_next () trivial)
      · dsimp only [embI]
        simp only [dec_nlt, cond_false]
        exact ⟨_, rfl⟩
    obtain ⟨o, ho⟩ := hl
    refine Exists.imp (fun d' h => ⟨?_, h.2⟩) (p := fun d' => sumE (fun _ => some ((), (d, ()))) (sumE (fun _ => (cond (fits (d.length + (List.cons (x.1.1, (x.1.2.1, ())) []).length) 16) (some ((), ((d ++ [(x.1.1, (x.1.2.1, ()))]), ()))) none)) emptyE) o = some ((), (d', ())) ∧ d'.length ≤ d.length + 1) ?_
    · refine Eq.trans ?_ h.1
      exact congrArg (fun z => Option.bind z _) ho
    · rcases o with o | o | o
      · exact ⟨d, rfl, by omega⟩
      · refine ⟨d ++ [(x.1.1, (x.1.2.1, ()))], ?_, by simp⟩
        have : fits (d.length + 1) 16 = true := by unfold fits; simp; omega
        simp only [sumE, List.length_cons, List.length_nil, this, cond_true]
      · exact nomatch o
theorem t144 (x) : Tot (r80 x) := by
  unfold r80
  obtain ⟨d1, h1, l1⟩ := t150 ((x.1.1, (x.1.2.1, ())), ((x.2.2.1.1, (x.2.2.1.2.1, ())), ((x.2.2.2.1.1, (x.2.2.2.1.2.1, ())), ()))) [] (by simp)
  obtain ⟨d2, h2, l2⟩ := t150 ((x.2.1.1, (x.2.1.2.1, ())), ((x.2.2.1.1, (x.2.2.1.2.1, ())), ((x.2.2.2.1.1, (x.2.2.2.1.2.1, ())), ()))) d1 (by simp at l1; omega)
  obtain ⟨d3, h3, l3⟩ := t150 ((x.2.2.1.1, (x.2.2.1.2.1, ())), ((x.1.1, (x.1.2.1, ())), ((x.2.1.1, (x.2.1.2.1, ())), ()))) d2 (by simp at l1; omega)
  obtain ⟨d4, h4, l4⟩ := t150 ((x.2.2.2.1.1, (x.2.2.2.1.2.1, ())), ((x.1.1, (x.1.2.1, ())), ((x.2.1.1, (x.2.1.2.1, ())), ()))) d3 (by simp at l1; omega)
  simp only [h1, h2, h3, h4, Option.bind_some]
  exact tot_some _
theorem t128 (x) : Tot (r76 x) := tot_bind (t110 _) fun _ => tot_bind (t110 _) fun _ => tot_bind (t110 _) fun _ => tot_bind (t110 _) fun _ => tot_bind (t143 _) fun _ => tot_bind (t143 _) fun _ =>
  tot_cond (tot_bind (t143 _) fun _ => tot_bind (t143 _) fun _ => tot_cond (tot_some _) (tot_bind (t144 _) fun _ => tot_some _)) (tot_bind (t144 _) fun _ => tot_some _)
theorem t113 (x) : Tot (r73 x) := tot_bind (t128 _) fun _ => tot_cond (tot_some _) (tot_cond (tot_cond (tot_some _) (tot_cond (tot_some _) (tot_cond (tot_some _) (tot_some _)))) (tot_some _))
end Go.Proofs.Ytgabpbnndikheaa.I

namespace Go.Proofs.Ytgabpbnndikheaa.I
open Go.RowKit
set_option linter.unusedVariables false
set_option linter.constructorNameAsVariable false
theorem len0 {α : Type} {l : List α} {i : Nat} (h : i < l.length) : decide ((l.length : Int) = 0) = false := decide_eq_false (by omega)
theorem t112 (l : List DPt) (i k : Nat) (hi : i < l.length) (hk : k < l.length) (hl : l.length ≤ 9223372036854775807) : Tot (r72 (l, ((i : Int), ((k : Int), ())))) := by
  unfold r72
  obtain ⟨b1, a1, ha1⟩ := at_next hi hl
  obtain ⟨b2, a2, ha2⟩ := at_next hk hl
  obtain ⟨a3, ha3⟩ : ∃ a, l[i]? = some a := ⟨_, List.getElem?_eq_getElem hi⟩
  obtain ⟨a4, ha4⟩ : ∃ a, l[k]? = some a := ⟨_, List.getElem?_eq_getElem hk⟩
  simp only [inB_lt hi, inB_lt hk, Int.toNat_natCast, ha3, ha4, b1, b2, ha1, ha2, len0 hi, cond_true, cond_false, Option.bind_some]
  exact tot_cond (tot_some _) (tot_cond (tot_some _) (tot_cond (tot_bind (t128 _) fun _ => tot_some _) (tot_cond (tot_bind (t128 _) fun _ => tot_some _) (tot_bind (t128 _) fun _ => tot_some _))))
theorem t129 (l m : List DPt) (i : Nat) (hi : i < l.length) (hl : l.length ≤ 9223372036854775807) (hm : m.length ≤ 9223372036854775807) : Tot (r77 (l, ((i : Int), (m, ())))) := by
  unfold r77
  obtain ⟨b1, a1, ha1⟩ := at_next hi hl
  obtain ⟨a3, ha3⟩ : ∃ a, l[i]? = some a := ⟨_, List.getElem?_eq_getElem hi⟩
  simp only [inB_lt hi, Int.toNat_natCast, ha3, b1, ha1, len0 hi, cond_true, cond_false, Option.bind_some]
  refine tot_bind (tot_loop (fun i (n : Int) => ((n, (i, ())), ())) (fun _ _ => True) m.length (fun j n hj _ => ?_) (fun _ => ?_) (-1) trivial) (tot_sumE (fun _ => tot_some _) tot_emptyE)
  · obtain ⟨c1, d1, hd1⟩ := at_next hj hm
    obtain ⟨d3, hd3⟩ : ∃ a, m[j]? = some a := ⟨_, List.getElem?_eq_getElem hj⟩
    dsimp only
    simp only [dec_lt hj, inB_lt hj, Int.toNat_natCast, hd3, c1, hd1, len0 hj, cond_true, cond_false, Option.bind_some]
    rw [wrapS hj hm]
    refine good_cond (good_cond (good_cond (good_cond ?_ ?_) ?_) ?_) (good_cond (good_cond (good_cond ?_ ?_) ?_) ?_) <;> exact good_next _ trivial
  · dsimp only
    simp only [dec_nlt, cond_false]
    exact ⟨_, rfl⟩
theorem t114 (l m : List DPt) (hl : l.length ≤ 200) (hm : m.length ≤ 9223372036854775807) : Tot (r74 (l, (m, ()))) := by
  unfold r74
  refine tot_bind (tot_loop (fun i (s : List Int) => ((s, (i, ())), ())) (fun i s => s.length ≤ i) l.length (fun j s hj hs => ?_) (fun _ => ?_) [] (Nat.le_refl _)) (tot_sumE (fun _ => tot_some _) tot_emptyE)
  · dsimp only
    simp only [dec_lt hj, cond_true]
    rw [wrapS hj (by omega)]
    refine good_bind (t129 l m j hj (by omega) hm) fun n => good_bind (t130 s n.1 (by omega)) fun b => good_cond ?_ (good_next s (by omega))
    have : fits (s.length + 1) 8 = true := by unfold fits; simp; omega
    simp only [List.length_cons, List.length_nil, Nat.zero_add, this, cond_true]
    exact good_next (s ++ [n.1]) (by simp; omega)
  · dsimp only
    simp only [dec_nlt, cond_false]
    exact ⟨_, rfl⟩
theorem t89 (l m : List DPt) (hl : l.length ≤ 200) (hm : m.length ≤ 200) : Tot (r67 (l, (m, ()))) := by
  unfold r67
  refine tot_bind (tot_loop embI (fun _ _ => True) l.length (fun i _ hi _ => ?_) (fun _ => ?_) () trivial) (tot_sumE (fun _ => tot_some _) (tot_sumE (fun _ => ?_) tot_emptyE))
  · dsimp only [embI]
    simp only [dec_lt hi, cond_true]
    rw [wrapS hi (by omega)]
    refine good_bind (tot_loop embI (fun _ _ => True) m.length (fun j _ hj _ => ?_) (fun _ => ?_) () trivial) (good_sumE (fun _ => good_out _) (good_sumE (fun _ => good_next () trivial) good_emptyE))
    · obtain ⟨b1, a1, ha1⟩ := at_next hi (by omega)
      obtain ⟨b2, a2, ha2⟩ := at_next hj (by omega)
      rw [wrapS hi (by omega)] at b1 ha1
      obtain ⟨a3, ha3⟩ : ∃ a, l[i]? = some a := ⟨_, List.getElem?_eq_getElem hi⟩
      obtain ⟨a4, ha4⟩ : ∃ a, m[j]? = some a := ⟨_, List.getElem?_eq_getElem hj⟩
      dsimp only [embI]
      simp only [dec_lt hj, inB_lt hi, inB_lt hj, Int.toNat_natCast, ha3, ha4, b1, b2, ha1, ha2, len0 hi, len0 hj, cond_true, cond_false, Option.bind_some]
      refine good_bind (t113 _) fun _ => good_cond (good_out _) ?_
      rw [wrapS hj (by omega)]
      exact good_next () trivial
    · dsimp only [embI]
      simp only [dec_nlt, cond_false]
      exact ⟨_, rfl⟩
  · dsimp only [embI]
    simp only [dec_nlt, cond_false]
    exact ⟨_, rfl⟩
  · exact tot_bind (t114 l m hl (by omega)) fun _ => tot_cond (tot_bind (t114 m l hm (by omega)) fun _ => tot_some _) (tot_some _)
theorem t88 (l : List DPt) (hl : l.length ≤ 9223372036854775807) : Tot (r66 (l, ())) := by
  unfold r66
  refine tot_cond (tot_some _) (tot_cond (tot_some _) (tot_bind (t85 l hl) fun _ => tot_cond (tot_some _) (tot_bind (tot_loop embI (fun _ _ => True) l.length (fun i _ hi _ => ?_) (fun _ => ?_) () trivial) (tot_sumE (fun _ => tot_some _) (tot_sumE (fun _ => tot_some _) tot_emptyE)))))
  · dsimp only [embI]
    simp only [dec_lt hi, cond_true]
    rw [wrapS hi hl]
    refine good_bind (tot_loop embI (fun _ _ => True) i (fun j _ hj _ => ?_) (fun _ => ?_) () trivial) (good_sumE (fun _ => good_out _) (good_sumE (fun _ => good_next () trivial) good_emptyE))
    · dsimp only [embI]
      simp only [dec_lt hj, cond_true]
      rw [wrapS hj (by omega)]
      exact good_bind (t112 l j i (by omega) hi hl) fun _ => good_cond (good_out _) (good_next () trivial)
    · dsimp only [embI]
      simp only [dec_nlt, cond_false]
      exact ⟨_, rfl⟩
  · dsimp only [embI]
    simp only [dec_nlt, cond_false]
    exact ⟨_, rfl⟩
theorem t50 (l : List (List DPt)) (hl : l.length ≤ 9223372036854775807) (hp : ∀ p ∈ l, p.length ≤ 200) : Tot (r57 (l, ())) := by
  unfold r57
  refine tot_cond (tot_some _) (tot_bind (tot_loop embI (fun _ _ => True) l.length (fun i _ hi _ => ?_) (fun _ => ?_) () trivial) (tot_sumE (fun _ => tot_some _) (tot_sumE (fun _ => tot_bind (tot_loop embI (fun _ _ => True) l.length (fun i _ hi _ => ?_) (fun _ => ?_) () trivial) (tot_sumE (fun _ => tot_some _) (tot_sumE (fun _ => tot_some _) tot_emptyE))) tot_emptyE)))
  · obtain ⟨a, ha⟩ : ∃ a, l[i]? = some a := ⟨_, List.getElem?_eq_getElem hi⟩
    dsimp only [embI]
    simp only [dec_lt hi, inB_lt hi, Int.toNat_natCast, ha, cond_true, Option.bind_some]
    rw [wrapS hi hl]
    exact good_bind (t88 a (by have := hp a (List.mem_of_getElem? ha); omega)) fun _ => good_cond (good_out _) (good_next () trivial)
  · dsimp only [embI]
    simp only [dec_nlt, cond_false]
    exact ⟨_, rfl⟩
  · obtain ⟨a, ha⟩ : ∃ a, l[i]? = some a := ⟨_, List.getElem?_eq_getElem hi⟩
    have hup : upTo (i : Int) (l.length : Int) = true := by unfold upTo; simp; omega
    dsimp only [embI]
    simp only [dec_lt hi, inB_lt hi, Int.toNat_natCast, ha, hup, cond_true, Option.bind_some]
    rw [wrapS hi hl]
    refine good_bind (tot_loop embI (fun _ _ => True) (l.take i).length (fun j _ hj _ => ?_) (fun _ => ?_) () trivial) (good_sumE (fun _ => good_out _) (good_sumE (fun _ => good_next () trivial) good_emptyE))
    · obtain ⟨b, hb⟩ : ∃ a, (l.take i)[j]? = some a := ⟨_, List.getElem?_eq_getElem hj⟩
      have hjl : (l.take i).length ≤ 9223372036854775807 := by rw [List.length_take]; omega
      dsimp only [embI]
      simp only [dec_lt hj, inB_lt hj, Int.toNat_natCast, hb, cond_true, Option.bind_some]
      rw [wrapS hj hjl]
      exact good_bind (t89 a b (hp a (List.mem_of_getElem? ha)) (hp b (List.mem_of_mem_take (List.mem_of_getElem? hb)))) fun _ => good_cond (good_out _) (good_next () trivial)
    · dsimp only [embI]
      simp only [dec_nlt, cond_false]
      exact ⟨_, rfl⟩
  · dsimp only [embI]
    simp only [dec_nlt, cond_false]
    exact ⟨_, rfl⟩
end Go.Proofs.Ytgabpbnndikheaa.I

namespace Go.Proofs.Ytgabpbnndikheaa.I
open Go.RowKit
set_option linter.unusedVariables false
set_option linter.constructorNameAsVariable false
abbrev kPt : Kd := .pair (.int .i64) (.pair (.int .i64) .unit)
abbrev kVal : Kd := .pair (.int .i64) (.pair (.int .i64) (.pair .str (.pair .bool .unit)))
abbrev kAtt : Kd := .pair .str (.pair kVal .unit)
abbrev kFea : Kd := .pair (.int .i64) (.pair (.int .i64) (.pair (.slice (.slice kPt)) (.pair (.slice kAtt) (.pair (.int .i64) (.pair (.int .i64) .unit)))))
noncomputable def areaO (l : List (List DPt)) : Option (Int × Unit) := Option.bind (r57 (l, ())) fun x => some (x.1, ())
noncomputable def partsV (kind : Int) (l : List (List DPt)) : Int := ((partsE (areaO l) kind l).getD (0, ())).1
theorem parts_some {kind : Int} {l : List (List DPt)} (hs : small (.slice (.slice kPt)) l) : partsE (areaO l) kind l = some (partsV kind l, ()) := by
  obtain ⟨hl, hb⟩ := parts_bounds hs
  have key : Tot (partsE (areaO l) kind l) := by
    unfold partsE
    split
    · exact tot_some _
    split
    · exact tot_some _
    split
    · exact tot_some _
    split
    · exact tot_some _
    rename_i hlong
    split
    · exact tot_some _
    split
    · exact tot_some _
    split
    · unfold areaO
      refine tot_bind (t50 l hl (fun p hp => ?_)) fun _ => tot_some _
      rcases Nat.lt_or_ge 200 p.length with h | h
      · exact absurd (List.any_eq_true.2 ⟨p, hp, by simp; omega⟩) hlong
      · exact h
    · exact tot_some _
  obtain ⟨y, hy⟩ := key
  unfold partsV
  rw [hy]
  rfl
noncomputable def featV (f : DFea) : Int :=
  if f.1 < 1 then 1 else if 1073741824 < f.1 then 1 else if partsV f.2.1 f.2.2.1 ≠ 0 then partsV f.2.1 f.2.2.1 else if attrsE false f.2.2.2.1 ≠ 0 then attrsE false f.2.2.2.1
  else if f.2.2.2.2.1 < 0 then 1 else if 1073741824 < f.2.2.2.2.2.1 then 1 else if f.2.2.2.2.2.1 ≤ f.2.2.2.2.1 then 1 else 0
theorem fea_small {f : DFea} (h : small kFea f) : small (.slice (.slice kPt)) f.2.2.1 ∧ small (.slice kAtt) f.2.2.2.1 := ⟨h.2.2.1, h.2.2.2.1⟩
theorem r18_eq (f : DFea) (h : small kFea f) : r29 (f, ()) = some (featV f, ()) := by
  obtain ⟨h1, h2⟩ := fea_small h
  unfold r29 featV
  have e1 : r42 (f.2.1, (f.2.2.1, ())) = some (partsV f.2.1 f.2.2.1, ()) := (r20_eq f.2.1 f.2.2.1 h1).trans (parts_some h1)
  have e2 : r43 (f.2.2.2.1, (false, ())) = some (attrsE false f.2.2.2.1, ()) := r22_eq f.2.2.2.1 false h2
  simp only [e1, e2, Option.bind_some]
  generalize partsV f.2.1 f.2.2.1 = p
  generalize attrsE false f.2.2.2.1 = a
  obtain ⟨id, kind, ps, ats, fr, tt, ⟨⟩⟩ := f
  simp only
  by_cases k1 : id < 1
  · simp [k1]
  by_cases k2 : 1073741824 < id
  · simp [k1, k2]
  by_cases k3 : p = 0 <;> by_cases k4 : a = 0 <;> by_cases k5 : fr < 0 <;> by_cases k6 : 1073741824 < tt <;> by_cases k7 : tt ≤ fr <;> simp [k1, k2, k3, k4, k5, k6, k7]
theorem featV_pos {f : DFea} (h : featV f = 0) : 1 ≤ f.1 := by
  unfold featV at h
  by_cases k1 : f.1 < 1
  · simp [k1] at h
  · omega
noncomputable def survF (last : Int) (f : DFea) : Option Int := if featV f ≠ 0 then some (featV f) else if f.1 ≤ last then some 9 else none
noncomputable def survV (l : List DFea) : Int := if 200 < l.length then 2 else scan survF (fun f => f.1) 0 0 l
theorem surv_end (l : List DFea) (p : Int) : (sumE (fun x0 => some (x0.1.1, ())) (sumE (fun x0 => some ((0 : Int), ())) emptyE) : O3 → Option (Int × Unit)) (scan (fun p a => (survF p a).map w3) (fun f => f.1) w0 p l) = some (scan survF (fun f => f.1) 0 p l, ()) := by
  have := scan_map (sumE (fun x0 => some (x0.1.1, ())) (sumE (fun x0 => some ((0 : Int), ())) emptyE) : O3 → Option (Int × Unit)) (fun p a => (survF p a).map w3) (fun f : DFea => f.1) w0 l p
  refine this.trans ?_
  have h2 := scan_map (fun e : Int => some (e, ())) survF (fun f : DFea => f.1) 0 l p
  refine Eq.trans ?_ h2.symm
  refine scan_congr (fun p a _ => ?_)
  cases survF p a <;> rfl
theorem surv_small {l : List DFea} (h : small (.slice kFea) l) : l.length ≤ 9223372036854775807 ∧ ∀ f ∈ l, small kFea f := by
  have hm : maxLen = 9223372036854775807 := rfl
  have h' := h
  unfold small at h'
  rw [hm] at h'
  exact h'
theorem r16_eq (l : List DFea) (h : small (.slice kFea) l) : r20 (l, ()) = some (survV l, ()) := by
  obtain ⟨hl, hb⟩ := surv_small h
  unfold r20 survV
  by_cases h8 : 200 < l.length
  · have : decide ((200 : Int) < (l.length : Int)) = true := by simp; omega
    rw [if_pos h8]
    simp only [this, cond_true]
  · rw [if_neg h8]
    have : decide ((200 : Int) < (l.length : Int)) = false := by simp; omega
    simp only [this, cond_false]
    rw [loop_list (fun i _ => ((i, ()), ())) l (fun i a _ => found ((survF (prevOf (fun f => f.1) 0 l i) a).map w3)) (fun _ => w0) (fun i a _ h => ?_) (fun _ => ?_) ()]
    · rw [foldL_prev (fun p a => (survF p a).map w3) (fun f => f.1) w0 0 l (fun i a _ => rfl) l 0 rfl]
      simp only [Option.bind_some]
      exact surv_end l 0
    · have hlt := lt_of_get h
      have hv : r29 ((a.1, (a.2.1, (a.2.2.1, (a.2.2.2.1, (a.2.2.2.2.1, (a.2.2.2.2.2.1, ())))))), ()) = some (featV a, ()) := r18_eq a (hb a (List.mem_of_getElem? h))
      simp only [dec_lt hlt, inB_lt hlt, Int.toNat_natCast, h, cond_true, Option.bind_some, hv]
      rw [wrapS hlt hl]
      by_cases hz : featV a = 0
      · cases i with
        | zero =>
          have hp := featV_pos hz
          have hd0 : decide ((0 : Int) < ((0 : Nat) : Int)) = false := by simp
          have hn : ¬ a.1 ≤ 0 := by omega
          simp [hd0, survF, prevOf, hz, hn, found, stepTo]
        | succ j =>
          have hd0 : decide ((0 : Int) < ((j + 1 : Nat) : Int)) = true := by simp
          obtain ⟨b, hbj⟩ : ∃ b, l[j]? = some b := ⟨_, List.getElem?_eq_getElem (by omega)⟩
          have hw : IntKind.wrap .i64 (((j + 1 : Nat) : Int) - 1) = (j : Int) := by rw [wrap64 (by omega) (by omega)]; omega
          simp only [hd0, cond_true, prevOf, hbj, hw, inB_lt (show j < l.length by omega), Int.toNat_natCast, Option.bind_some, hz]
          by_cases hc : a.1 ≤ b.1 <;> simp [survF, hz, hc, found, stepTo, w3]
      · simp [survF, hz, found, stepTo, w3]
    · simp only [dec_nlt, cond_false]
      rfl
end Go.Proofs.Ytgabpbnndikheaa.I

namespace Go.Proofs.Ytgabpbnndikheaa.I
open Go.RowKit
set_option linter.unusedVariables false
set_option linter.constructorNameAsVariable false
def toI (l : List UInt8) : List Int := l.map fun b => (b.toNat : Int)
theorem toI_len (l : List UInt8) : (toI l).length = l.length := by simp [toI]
theorem toI_app (a b : List UInt8) : toI (a ++ b) = toI a ++ toI b := by simp [toI]
theorem mkStr_toI (l : List UInt8) : mkStr (toI l) = ⟨l.toArray⟩ := by
  unfold mkStr toI
  congr 2
  rw [List.map_map]
  conv => rhs; rw [← List.map_id l]
  refine List.map_congr_left (fun b _ => ?_)
  simp
theorem fitsB {k : Nat} (h : k ≤ 140737488355328) : fits k 1 = true := by unfold fits; simp; omega
def ofS (s : ByteArray) : List UInt8 := s.data.toList
theorem ofS_len (s : ByteArray) : (ofS s).length = s.size := bytes_len.symm
theorem mk_ofS (s : ByteArray) : (⟨(ofS s).toArray⟩ : ByteArray) = s := rfl
theorem wf_in {x : Int} (h : (Lit.int .i64 x).wf = true) : -9223372036854775808 ≤ x ∧ x ≤ 9223372036854775807 := bounds_i64 h
/-- A loop over a list whose rounds all go on. -/
theorem loop_fold {α S D O : Type} {step : D → Option (D ⊕ O)} (emb : Int → S → D) (f : S → α → S) (Inv : Nat → S → Prop) (out : S → O) (xs : List α)
    (hin : ∀ (i : Nat) a s, xs[i]? = some a → Inv i s → step (emb i s) = some (.inl (emb ((i : Int) + 1) (f s a))) ∧ Inv (i + 1) (f s a))
    (hend : ∀ s, Inv xs.length s → step (emb (xs.length : Int) s) = some (.inr (out s))) (s : S) (h0 : Inv 0 s) : loop step (emb 0 s) = some (out (xs.foldl f s)) ∧ Inv xs.length (xs.foldl f s) := by
  have key : ∀ (l : List α) (i : Nat) (s : S), i ≤ xs.length → xs.drop i = l → Inv i s → loop step (emb (i : Int) s) = some (out (l.foldl f s)) ∧ Inv xs.length (l.foldl f s) := by
    intro l
    induction l with
    | nil =>
      intro i s hi hl hI
      have : i = xs.length := by
        have := congrArg List.length hl
        simp at this; omega
      subst this
      exact ⟨by rw [loop_eq, hend s hI]; rfl, hI⟩
    | cons a l ih =>
      intro i s hi hl hI
      have ha : xs[i]? = some a := by
        have := congrArg (fun l => l[0]?) hl
        simpa using this
      have hlt := lt_of_get ha
      have hd : xs.drop (i + 1) = l := by rw [← List.drop_drop, hl]; rfl
      obtain ⟨h1, h2⟩ := hin i a s ha hI
      rw [loop_eq, h1]
      exact ih (i + 1) _ hlt hd h2
  exact key xs 0 s (Nat.zero_le _) rfl h0
/-- Rounds that go on or end. -/
def foldE {α S O : Type} (body : S → α → S ⊕ O) (out : S → O) : List α → S → O
  | [], s => out s
  | a :: l, s => match body s a with
    | .inl s' => foldE body out l s'
    | .inr o => o
def stepE {D S O : Type} (emb : Int → S → D) (i : Nat) : S ⊕ O → Option (D ⊕ O)
  | .inl s' => some (.inl (emb ((i : Int) + 1) s'))
  | .inr o => some (.inr o)
theorem loop_exit {α S D O : Type} {step : D → Option (D ⊕ O)} (emb : Int → S → D) (body : S → α → S ⊕ O) (Inv : Nat → S → Prop) (out : S → O) (xs : List α)
    (hin : ∀ (i : Nat) a s, xs[i]? = some a → Inv i s → step (emb i s) = stepE emb i (body s a) ∧ ∀ s', body s a = .inl s' → Inv (i + 1) s')
    (hend : ∀ s, Inv xs.length s → step (emb (xs.length : Int) s) = some (.inr (out s))) (s : S) (h0 : Inv 0 s) : loop step (emb 0 s) = some (foldE body out xs s) := by
  have key : ∀ (l : List α) (i : Nat) (s : S), i ≤ xs.length → xs.drop i = l → Inv i s → loop step (emb (i : Int) s) = some (foldE body out l s) := by
    intro l
    induction l with
    | nil =>
      intro i s hi hl hI
      have : i = xs.length := by
        have := congrArg List.length hl
        simp at this; omega
      subst this
      rw [loop_eq, hend s hI]
      rfl
    | cons a l ih =>
      intro i s hi hl hI
      have ha : xs[i]? = some a := by
        have := congrArg (fun l => l[0]?) hl
        simpa using this
      have hlt := lt_of_get ha
      have hd : xs.drop (i + 1) = l := by rw [← List.drop_drop, hl]; rfl
      obtain ⟨h1, h2⟩ := hin i a s ha hI
      rw [loop_eq, h1]
      simp only [foldE]
      cases hb : body s a with
      | inl s' => exact ih (i + 1) _ hlt hd (h2 s' hb)
      | inr o => rfl
  exact key xs 0 s (Nat.zero_le _) rfl h0
end Go.Proofs.Ytgabpbnndikheaa.I

namespace Go.Proofs.Ytgabpbnndikheaa
open Go.RowKit

/-- An integer's number as it is written: 7 bits a byte, the lowest first. -/
def varint (u : Nat) : List UInt8 := if h : u < 128 then [UInt8.ofNat u] else UInt8.ofNat (u % 128 + 128) :: varint (u / 128)
termination_by u
decreasing_by omega

theorem varint_lt {u : Nat} (h : u < 128) : varint u = [UInt8.ofNat u] := by rw [varint, dif_pos h]
theorem varint_ge {u : Nat} (h : 128 ≤ u) : varint u = UInt8.ofNat (u % 128 + 128) :: varint (u / 128) := by rw [varint, dif_neg (by omega)]
theorem varint_len (k u : Nat) (h : u < 128 ^ (k + 1)) : (varint u).length ≤ k + 1 := by
  induction k generalizing u with
  | zero => rw [varint_lt (by omega)]; simp
  | succ k ih =>
    by_cases hu : u < 128
    · rw [varint_lt hu]; simp
    · rw [varint_ge (by omega)]
      have := ih (u / 128) (by rw [Nat.div_lt_iff_lt_mul (by omega)]; rw [Nat.pow_succ] at h; exact h)
      simp; omega

/-- Signed numbers alternate: 0, -1, 1, -2, 2 .. -/
def zig (n : Int) : Nat := if n < 0 then (-2 * n - 1).toNat else (2 * n).toNat
theorem zig_lt {n : Int} (h0 : -9223372036854775808 ≤ n) (h1 : n ≤ 9223372036854775807) : zig n < 18446744073709551616 := by
  unfold zig; split <;> omega
theorem zig_len {n : Int} (h0 : -9223372036854775808 ≤ n) (h1 : n ≤ 9223372036854775807) : (varint (zig n)).length ≤ 10 :=
  varint_len 9 _ (by have := zig_lt h0 h1; omega)

theorem u64_xor_all (a : Nat) (ha : a < 18446744073709551616) : a ^^^ 18446744073709551615 = 18446744073709551615 - a := by
  have h := congrArg BitVec.toNat (BitVec.xor_allOnes (x := BitVec.ofNat 64 a))
  simp only [BitVec.toNat_xor, BitVec.toNat_not, BitVec.toNat_ofNat, BitVec.toNat_allOnes] at h
  rw [Nat.mod_eq_of_lt (by omega)] at h
  omega
theorem zig_bits {n : Int} (h0 : -9223372036854775808 ≤ n) (h1 : n ≤ 9223372036854775807) :
    bits BinOp.xor IntKind.u64 (IntKind.u64.wrap (IntKind.u64.wrap n * 2)) (IntKind.u64.wrap (n / 9223372036854775808)) = (zig n : Int) := by
  have e1 : ∀ x : Int, IntKind.u64.wrap x = x % 18446744073709551616 := fun x => by simp [IntKind.wrap, IntKind.bits, IntKind.signed]
  simp only [e1]
  rw [u64_xor _ _ (by omega) (by omega) (by omega) (by omega)]
  unfold zig
  split
  · rename_i h
    have e : (n / 9223372036854775808 % 18446744073709551616).toNat = 18446744073709551615 := by omega
    rw [e, u64_xor_all _ (by omega)]
    omega
  · rename_i h
    have e : (n / 9223372036854775808 % 18446744073709551616).toNat = 0 := by omega
    rw [e, Nat.xor_zero]
    omega
theorem varint_pos (u : Nat) : 1 ≤ (varint u).length := by
  by_cases h : u < 128
  · rw [varint_lt h]; simp
  · rw [varint_ge (by omega)]; simp
theorem u8_or128' (u : Nat) : bits .or .u8 ((u : Int) % 256) 128 = ((UInt8.ofNat (u % 128 + 128)).toNat : Int) := by
  have e : ((u : Int) % 256) = ((u % 256 : Nat) : Int) := by omega
  rw [e]
  have h := u8_or_nat (u % 256) 128 (by omega) (by omega)
  rw [show ((128 : Nat) : Int) = 128 from rfl] at h
  rw [h]
  congr 1
  have h2 : ∀ a, a < 256 → a ||| 128 = a % 128 + 128 := by decide +kernel
  rw [h2 _ (by omega), UInt8.toNat_ofNat']
  omega

/-- What is read: the number, how many bytes it has, an error's number. -/
def getU : Nat → Nat → List UInt8 → Nat × Nat × Nat
  | _, _, [] => (0, 0, 14)
  | i, u, c :: cs => if i = 9 ∧ 1 < c.toNat then (0, 0, 2) else if 128 ≤ c.toNat then getU (i + 1) (u + c.toNat % 128 * 2 ^ (7 * i)) cs
    else if 0 < i ∧ c.toNat = 0 then (0, 0, 3) else (u + c.toNat % 128 * 2 ^ (7 * i), i + 1, 0)
def unzig (u : Nat) : Int := if u % 2 = 1 then -((u / 2 : Nat) : Int) - 1 else ((u / 2 : Nat) : Int)

theorem getU_step {k v b : Nat} (hk : k ≤ 9) (hv : v < 2 ^ (7 * k)) (h9 : k < 9 ∨ b ≤ 1) :
    IntKind.u64.wrap ((v : Int) + IntKind.u64.wrap ((b : Int) % 128 * 2 ^ (k * 7))) = ((v + b % 128 * 2 ^ (7 * k) : Nat) : Int) ∧ v + b % 128 * 2 ^ (7 * k) < 2 ^ (7 * (k + 1)) ∧ v + b % 128 * 2 ^ (7 * k) < 18446744073709551616 := by
  have e1 : ∀ x : Int, IntKind.u64.wrap x = x % 18446744073709551616 := fun x => by simp [IntKind.wrap, IntKind.bits, IntKind.signed]
  rw [e1, e1]
  have : k = 0 ∨ k = 1 ∨ k = 2 ∨ k = 3 ∨ k = 4 ∨ k = 5 ∨ k = 6 ∨ k = 7 ∨ k = 8 ∨ k = 9 := by omega
  rcases this with rfl | rfl | rfl | rfl | rfl | rfl | rfl | rfl | rfl | rfl <;> simp only [Nat.reduceMul, Nat.reduceAdd, Nat.reducePow, Int.reducePow] at * <;> omega

theorem getO_step {k v b : Nat} (hk : k ≤ 9) (hv : v < 2 ^ (7 * k)) (hb : b < 256) (h9 : k < 9 ∨ b ≤ 1) :
    bits BinOp.or IntKind.u64 (v : Int) (IntKind.u64.wrap (IntKind.u64.wrap (bits BinOp.and IntKind.u8 (b : Int) 127) * 2 ^ (7 * k))) = ((v + b % 128 * 2 ^ (7 * k) : Nat) : Int) := by
  have e1 : ∀ x : Int, IntKind.u64.wrap x = x % 18446744073709551616 := fun x => by simp [IntKind.wrap, IntKind.bits, IntKind.signed]
  have e2 : bits BinOp.and IntKind.u8 (b : Int) 127 = ((b % 128 : Nat) : Int) := by
    have := u8_and_nat b 127 hb (by omega)
    rw [nat_mask7] at this
    exact this
  rw [e2, e1, e1]
  have hp : ((b % 128 : Nat) : Int) % 18446744073709551616 * 2 ^ (7 * k) % 18446744073709551616 = ((b % 128 * 2 ^ (7 * k) : Nat) : Int) ∧ b % 128 * 2 ^ (7 * k) < 18446744073709551616 ∧ v < 18446744073709551616 := by
    have : k = 0 ∨ k = 1 ∨ k = 2 ∨ k = 3 ∨ k = 4 ∨ k = 5 ∨ k = 6 ∨ k = 7 ∨ k = 8 ∨ k = 9 := by omega
    rcases this with rfl | rfl | rfl | rfl | rfl | rfl | rfl | rfl | rfl | rfl <;> simp only [Nat.reduceMul, Nat.reduceAdd, Nat.reducePow, Int.reducePow] at * <;> omega
  rw [hp.1, u64_or_nat _ _ hp.2.2 hp.2.1, Nat.or_comm, nat_join (7 * k) _ _ (Nat.mul_mod_left _ _) hv]
  congr 1
  omega
theorem i64_xor_m1 {x : Int} (h0 : -9223372036854775808 ≤ x) (h1 : x ≤ 9223372036854775807) : bits BinOp.xor IntKind.i64 x (-1) = -x - 1 := by
  show IntKind.i64.wrap ((BitVec.ofInt 64 x ^^^ BitVec.ofInt 64 (-1)).toNat : Int) = _
  rw [show BitVec.ofInt 64 (-1) = BitVec.allOnes 64 from by decide, BitVec.xor_allOnes, BitVec.toNat_not, BitVec.toNat_ofInt, IntKind.wrap_i64]
  omega
theorem i64_xor_0 {x : Int} (h0 : -9223372036854775808 ≤ x) (h1 : x ≤ 9223372036854775807) : bits BinOp.xor IntKind.i64 x 0 = x := by
  show IntKind.i64.wrap ((BitVec.ofInt 64 x ^^^ BitVec.ofInt 64 0).toNat : Int) = _
  rw [show BitVec.ofInt 64 0 = 0#64 from by decide, BitVec.xor_zero, BitVec.toNat_ofInt, IntKind.wrap_i64]
  omega
theorem u64_and1 {q : Nat} (hq : q < 18446744073709551616) : bits BinOp.and IntKind.u64 (q : Int) 1 = ((q % 2 : Nat) : Int) := by
  have := u64_and_nat q 1 hq (by omega)
  rw [nat_mask1] at this
  exact this
theorem unzig_xor {q : Nat} (hq : q < 18446744073709551616) : bits BinOp.xor IntKind.i64 (wrap64 ((q : Int) / 2)) (-((q : Int) % 2)) = unzig q := by
  have e : wrap64 ((q : Int) / 2) = ((q / 2 : Nat) : Int) := by unfold wrap64; omega
  rw [e]
  unfold unzig
  by_cases h : q % 2 = 1
  · rw [if_pos h, show (-((q : Int) % 2)) = -1 by omega, i64_xor_m1 (by omega) (by omega)]
  · rw [if_neg h, show (-((q : Int) % 2)) = 0 by omega, i64_xor_0 (by omega) (by omega)]
/-- The checksum. -/
def fnvStep (h : Nat) (c : UInt8) : Nat := ((h ^^^ c.toNat) * 16777619) % 4294967296
def fnv (bs : List UInt8) : Nat := bs.foldl fnvStep 2166136261
theorem fnv_lt' (bs : List UInt8) (h : Nat) (hh : h < 4294967296) : bs.foldl fnvStep h < 4294967296 := by
  induction bs generalizing h with
  | nil => exact hh
  | cons c cs ih => exact ih _ (by unfold fnvStep; omega)
theorem fnv_lt (bs : List UInt8) : fnv bs < 4294967296 := fnv_lt' bs _ (by omega)
theorem fnv32 (h : Nat) (c : UInt8) (hh : h < 4294967296) : bits .xor .u32 (h : Int) (c.toNat : Int) * 16777619 % 4294967296 = (fnvStep h c : Int) := by
  rw [u32_xor_nat h c.toNat hh (by have := c.toNat_lt; omega)]
  unfold fnvStep; omega
theorem getU_varint : ∀ (u i v : Nat) (rest : List UInt8), u * 2 ^ (7 * i) < 18446744073709551616 → i ≤ 9 → (0 < i → 0 < u) → getU i v (varint u ++ rest) = (v + u * 2 ^ (7 * i), i + (varint u).length, 0) := by
  intro u
  induction u using Nat.strongRecOn with
  | _ u ih =>
    intro i v rest hu hi h0
    have h9 : i = 9 → u < 2 := by
      rintro rfl
      simp only [Nat.reduceMul, Nat.reducePow] at hu
      omega
    by_cases h : u < 128
    · have e1 : (UInt8.ofNat u).toNat = u := by rw [UInt8.toNat_ofNat']; omega
      rw [varint_lt h]
      simp only [List.cons_append, List.nil_append, getU, e1]
      rw [if_neg (by omega), if_neg (by omega), if_neg (by omega), Nat.mod_eq_of_lt h]
      rfl
    · have e1 : (UInt8.ofNat (u % 128 + 128)).toNat = u % 128 + 128 := by rw [UInt8.toNat_ofNat']; omega
      rw [varint_ge (by omega)]
      simp only [List.cons_append, getU, e1]
      have e2 : (u % 128 + 128) % 128 = u % 128 := by omega
      have e3 : 2 ^ (7 * (i + 1)) = 2 ^ (7 * i) * 128 := by rw [Nat.mul_add, Nat.pow_add]
      have e4 : u * 2 ^ (7 * i) = u % 128 * 2 ^ (7 * i) + u / 128 * (2 ^ (7 * i) * 128) := by
        have hq : u = u % 128 + u / 128 * 128 := by omega
        have hz : (u % 128 + u / 128 * 128) * 2 ^ (7 * i) = u % 128 * 2 ^ (7 * i) + u / 128 * (2 ^ (7 * i) * 128) := by
          rw [Nat.add_mul, Nat.mul_assoc, Nat.mul_comm 128]
        rw [← hz, ← hq]
      rw [if_neg (by omega), if_pos (by omega), e2, ih (u / 128) (by omega) (i + 1) _ rest (by rw [e3]; omega) (by omega) (by omega), e3, e4]
      simp only [List.length_cons]
      congr 1
      · omega
      · congr 1
        omega
theorem unzig_zig {n : Int} : unzig (zig n) = n := by
  unfold unzig zig
  split <;> split <;> omega
theorem get_varint {n : Int} (h0 : -9223372036854775808 ≤ n) (h1 : n ≤ 9223372036854775807) (rest : List UInt8) : getU 0 0 (varint (zig n) ++ rest) = (zig n, (varint (zig n)).length, 0) := by
  have := getU_varint (zig n) 0 0 rest (by have := zig_lt h0 h1; omega) (by omega) (by omega)
  simpa using this
def encAll (xs : List Int) : List UInt8 := xs.flatMap fun x => varint (zig x)
theorem encAll_len (xs : List Int) (h : ∀ x ∈ xs, -9223372036854775808 ≤ x ∧ x ≤ 9223372036854775807) : (encAll xs).length ≤ 10 * xs.length := by
  induction xs with
  | nil => simp [encAll]
  | cons x xs ih =>
    have h1 := ih fun y hy => h y (by simp [hy])
    have h2 := zig_len (h x (by simp)).1 (h x (by simp)).2
    simp only [encAll, List.flatMap_cons, List.length_append, List.length_cons] at *
    omega
end Go.Proofs.Ytgabpbnndikheaa

namespace Go.Proofs.Ytgabpbnndikheaa.I
open Go.RowKit
set_option linter.unusedVariables false
set_option linter.constructorNameAsVariable false
def vpre (u : Nat) : List UInt8 := if h : u < 128 then [] else UInt8.ofNat (u % 128 + 128) :: vpre (u / 128)
def vlast (u : Nat) : Nat := if h : u < 128 then u else vlast (u / 128)
theorem varint_split (u : Nat) : varint u = vpre u ++ [UInt8.ofNat (vlast u)] := by
  induction u using Nat.strongRecOn with
  | _ u ih =>
    by_cases h : u < 128
    · rw [varint_lt h, vpre, dif_pos h, vlast, dif_pos h]; rfl
    · rw [varint_ge (by omega), vpre, dif_neg h, vlast, dif_neg h, ih (u / 128) (by omega)]; rfl
theorem vlast_lt (u : Nat) : vlast u < 128 := by
  induction u using Nat.strongRecOn with
  | _ u ih =>
    rw [vlast]
    split
    · assumption
    · exact ih _ (by omega)
theorem loop_var {D O σ : Type} {step : D → Option (D ⊕ O)} (emb : Int → σ → D) (push : σ → UInt8 → σ) (ok : σ → Nat → Prop) (out : Int → σ → O)
    (hge : ∀ (m : Nat) s, 128 ≤ m → m < 18446744073709551616 → ok s m → step (emb m s) = some (.inl (emb ((m / 128 : Nat) : Int) (push s (UInt8.ofNat (m % 128 + 128))))) ∧ ok (push s (UInt8.ofNat (m % 128 + 128))) (m / 128))
    (hlt : ∀ (m : Nat) s, m < 128 → ok s m → step (emb m s) = some (.inr (out m s))) : ∀ (m : Nat) (s : σ), m < 18446744073709551616 → ok s m → loop step (emb m s) = some (out (vlast m : Int) ((vpre m).foldl push s)) := by
  intro m
  induction m using Nat.strongRecOn with
  | _ m ih =>
    intro s hm hok
    by_cases h : m < 128
    · rw [loop_eq, hlt m s h hok, vpre, dif_pos h, vlast, dif_pos h]; rfl
    · obtain ⟨h1, h2⟩ := hge m s (by omega) hm hok
      rw [loop_eq, h1, vpre, dif_neg h, vlast, dif_neg h]
      exact ih (m / 128) (by omega) _ (by omega) h2
theorem fold_list (l : List UInt8) (p : List Int) : l.foldl (fun (s : List Int) b => s ++ [(b.toNat : Int)]) p = p ++ toI l := by
  induction l generalizing p with
  | nil => simp [toI]
  | cons b l ih =>
    simp only [List.foldl_cons]
    rw [ih]
    simp [toI]
theorem wu8 (x : Int) : IntKind.wrap .u8 x = x % 256 := by simp [IntKind.wrap, IntKind.bits, IntKind.signed]
theorem byteL (m : Nat) (h : m < 128) : IntKind.wrap .u8 (m : Int) = ((UInt8.ofNat m).toNat : Int) := by
  rw [wu8, UInt8.toNat_ofNat']
  omega
theorem byteO (m : Nat) (h : m < 18446744073709551616) : IntKind.wrap .u8 (((BitVec.ofInt 8 (IntKind.wrap .u8 (m : Int)) ||| BitVec.ofInt 8 128).toNat : Nat) : Int) = ((UInt8.ofNat (m % 128 + 128)).toNat : Int) := by
  have := u8_or128' m
  rw [← wu8] at this
  exact this
theorem divF (m : Nat) : Int.fdiv (m : Int) 128 = ((m / 128 : Nat) : Int) := by
  rw [Int.fdiv_eq_ediv_of_nonneg _ (by omega)]
  omega
def encI (ns : List Int) : List Int := toI (encAll ns)
def inRange (ns : List Int) : Prop := ∀ x ∈ ns, -9223372036854775808 ≤ x ∧ x ≤ 9223372036854775807
theorem enc_cons (n : Int) (ns : List Int) : encI (n :: ns) = toI (varint (zig n)) ++ encI ns := by
  unfold encI encAll
  rw [List.flatMap_cons, toI_app]
set_option maxHeartbeats 1000000 in
/-- Numbers written behind each other. -/
theorem r59_eq (ns d : List Int) (hr : inRange ns) (hlen : d.length + 10 * ns.length ≤ 140737488355328) : r36 (ns, ()) (d, ()) = some ((), (d ++ encI ns, ())) := by
  unfold r36
  have hnl : ns.length ≤ 9223372036854775807 := by omega
  have hfold : ∀ (ms : List Int) (b : List Int), ms.foldl (fun b n => b ++ toI (varint (zig n))) b = b ++ encI ms := by
    intro ms
    induction ms with
    | nil => intro b; simp [encI, encAll, toI]
    | cons n ms ih => intro b; rw [List.foldl_cons, ih, enc_cons, List.append_assoc]
  rw [(loop_fold (fun i (b : List Int) => ((i, (b, ())), ())) (fun b n => b ++ toI (varint (zig n))) (fun i b => b.length ≤ d.length + 10 * i) (fun b => Sum.inl ((b, ()), ())) ns (fun i n b h hI => ?_) (fun _ _ => ?_) d (by omega)).1]
  · rw [hfold]
    rfl
  · have hlt := lt_of_get h
    obtain ⟨g0, g1⟩ := hr n (List.mem_of_getElem? h)
    have hz := zig_lt g0 g1
    have hl := zig_len g0 g1
    have hzb : IntKind.wrap IntKind.u64 (((BitVec.ofInt 64 (IntKind.wrap IntKind.u64 (IntKind.wrap IntKind.u64 n * 2)) ^^^ BitVec.ofInt 64 (IntKind.wrap IntKind.u64 (Int.fdiv n 9223372036854775808))).toNat : Nat) : Int) = (zig n : Int) := by
      rw [Int.fdiv_eq_ediv_of_nonneg _ (by omega)]
      exact zig_bits g0 g1
    simp only [dec_lt hlt, inB_lt hlt, Int.toNat_natCast, h, cond_true, Option.bind_some, hzb]
    rw [wrapS hlt hnl]
    have hfit : ∀ k : Nat, k ≤ 140737488355328 → fits k 1 = true := fun k hk => by unfold fits; simp; omega
    have hsp := congrArg List.length (varint_split (zig n))
    rw [List.length_append, List.length_singleton] at hsp
    rw [loop_var (fun i (b : List Int) => ((i, (b, ())), ())) (fun b x => b ++ [(x.toNat : Int)]) (fun b m => b.length + (varint m).length ≤ 140737488355328) (fun i b => Sum.inl ((i, (b, ())), ())) (fun m b hm hm2 hok => ?_) (fun m b hm hok => ?_) (zig n) b hz (by omega)]
    · rw [fold_list]
      simp only [Option.bind_some, sumE, List.length_cons, List.length_nil, byteL _ (vlast_lt _)]
      rw [hfit _ (by rw [List.length_append, toI_len]; omega)]
      refine ⟨?_, ?_⟩
      · simp only [cond_true]
        rw [varint_split (zig n), toI_app, ← List.append_assoc]
        rfl
      · rw [List.length_append, toI_len]; omega
    · have hd : decide ((128 : Int) ≤ (m : Int)) = true := by simp; omega
      have hv := varint_ge hm
      rw [hv] at hok
      rw [List.length_cons] at hok
      simp only [hd, cond_true, byteO m hm2, divF, List.length_cons, List.length_nil]
      rw [hfit _ (by omega)]
      exact ⟨rfl, by rw [List.length_append]; simp; omega⟩
    · have hd : decide ((128 : Int) ≤ (m : Int)) = false := by simp; omega
      simp only [hd, cond_false]
  · simp only [dec_nlt, cond_false]
theorem encI_len (ns : List Int) (hr : inRange ns) : (encI ns).length ≤ 10 * ns.length := by
  unfold encI
  rw [toI_len]
  exact encAll_len ns hr
/-- A text written behind its length. -/
theorem r96_eq (s : ByteArray) (d : List Int) (hs : s.size ≤ 1000000) (hlen : d.length + 1000020 ≤ 140737488355328) : r47 (s, ()) (d, ()) = some ((), (d ++ encI [(s.size : Int)] ++ bytesOf s, ())) := by
  unfold r47
  have hin : inRange [(s.size : Int)] := fun x hx => by simp at hx; omega
  rw [r59_eq [(s.size : Int)] d hin (by simp; omega)]
  simp only [Option.bind_some]
  have hl := encI_len [(s.size : Int)] hin
  have hb : (bytesOf s).length = s.size := by unfold bytesOf; rw [List.length_map, ← bytes_len]
  have hf : fits ((d ++ encI [(s.size : Int)]).length + (bytesOf s).length) 1 = true := by
    unfold fits
    rw [List.length_append, hb]
    simp at hl ⊢; omega
  rw [hf]
  rfl
end Go.Proofs.Ytgabpbnndikheaa.I

namespace Go.Proofs.Ytgabpbnndikheaa.I
open Go.RowKit
set_option linter.unusedVariables false
set_option linter.constructorNameAsVariable false
theorem ring_len (p : List DPt) (hp : p.length ≤ 200) (h : r66 (p, ()) = some (0, ())) : 3 ≤ p.length := by
  rcases Nat.lt_or_ge p.length 3 with h3 | h3
  · exfalso
    unfold r66 at h
    have e1 : decide ((200 : Int) < (p.length : Int)) = false := decide_eq_false (by omega)
    have e2 : decide ((p.length : Int) < 3) = true := decide_eq_true (by omega)
    simp only [e1, e2, cond_false, cond_true] at h
    cases h
  · exact h3
theorem area_len (l : List (List DPt)) (hl : l.length ≤ 20) (hp : ∀ p ∈ l, p.length ≤ 200) (h : r57 (l, ()) = some (0, ())) : ∀ p ∈ l, 3 ≤ p.length := by
  unfold r57 at h
  have e1 : decide ((20 : Int) < (l.length : Int)) = false := decide_eq_false (by omega)
  simp only [e1, cond_false] at h
  obtain ⟨o, h1, h2⟩ := Option.bind_eq_some_iff.1 h
  have hP := loop_post embI l.length (fun i _ => ∀ p ∈ l.take i, 3 ≤ p.length) (fun o => (∃ e, o = Sum.inl ((e, ()), ()) ∧ e ≠ 0) ∨ (o = Sum.inr (Sum.inl ((), ())) ∧ ∀ p ∈ l, 3 ≤ p.length)) () h1 (fun i s hi hs => ?_) (fun s hs => ?_) (by simp)
  · rcases hP with ⟨e, rfl, he⟩ | ⟨rfl, hall⟩
    · simp only [sumE, Option.some.injEq, Prod.mk.injEq] at h2
      exact absurd h2.1 he
    · exact hall
  · obtain ⟨p, hq⟩ := get_lt hi
    have hpl := hp p (List.mem_of_getElem? hq)
    obtain ⟨⟨e, ⟨⟩⟩, he⟩ := t88 p (by omega)
    simp only [embI, dec_lt hi, inB_lt hi, Int.toNat_natCast, hq, cond_true, Option.bind_some, he]
    by_cases hz : e = 0
    · subst hz
      refine .inl ⟨(), ?_, ?_⟩
      · simp only [decide_true, Bool.not_true, cond_false]
        rw [wrapS hi (by omega)]
      · intro q hqm
        rw [take_succ hq] at hqm
        rcases List.mem_append.1 hqm with h5 | h5
        · exact hs q h5
        · rw [List.mem_singleton.1 h5]
          exact ring_len p hpl he
    · refine .inr ⟨_, ?_, .inl ⟨e, rfl, hz⟩⟩
      simp only [decide_eq_false hz, Bool.not_false, cond_true]
  · rw [List.take_length] at hs
    refine ⟨_, ?_, .inr ⟨rfl, hs⟩⟩
    simp only [embI, dec_nlt, cond_false]
/-- A valid feature's parts. -/
structure PartsOk (f : DFea) : Prop where
  kind : 1 ≤ f.2.1 ∧ f.2.1 ≤ 3
  parts : f.2.2.1.length ≤ 20
  pts : ∀ p ∈ f.2.2.1, p.length ≤ 200
  inp : ∀ p ∈ f.2.2.1, ∀ q ∈ p, (-1048576 ≤ q.1 ∧ q.1 ≤ 1048576) ∧ (-1048576 ≤ q.2.1 ∧ q.2.1 ≤ 1048576)
  one : ∀ p ∈ f.2.2.1, p ≠ []
  some : f.2.2.1 ≠ []
theorem findSome_none {α : Type} {F : α → Int} : ∀ {l : List α}, l.findSome? (fun p => if F p = 0 then none else some (F p)) = none → ∀ p ∈ l, F p = 0
  | [], _, p, hp => by cases hp
  | a :: l, h, p, hp => by
    simp only [List.findSome?_cons] at h
    by_cases hz : F a = 0
    · simp only [hz, if_true] at h
      rcases List.mem_cons.1 hp with rfl | hp
      · exact hz
      · exact findSome_none h p hp
    · simp [hz] at h
theorem findSome_ne {α : Type} {F : α → Int} {e : Int} : ∀ {l : List α}, l.findSome? (fun p => if F p = 0 then none else some (F p)) = some e → e ≠ 0
  | [], h => by cases h
  | a :: l, h => by
    simp only [List.findSome?_cons] at h
    by_cases hz : F a = 0
    · simp only [hz, if_true] at h
      exact findSome_ne h
    · simp [hz] at h
      omega
theorem far_in {q : DPt} (h : far q = false) : (-1048576 ≤ q.1 ∧ q.1 ≤ 1048576) ∧ (-1048576 ≤ q.2.1 ∧ q.2.1 ≤ 1048576) := by
  unfold far at h
  simp only [Bool.or_eq_false_iff, decide_eq_false_iff_not] at h
  omega
theorem partE_zero {kind : Int} {p : List DPt} (h : partE kind p = 0) : (∀ q ∈ p, (-1048576 ≤ q.1 ∧ q.1 ≤ 1048576) ∧ (-1048576 ≤ q.2.1 ∧ q.2.1 ≤ 1048576)) ∧ (kind ≤ 2 → 1 ≤ kind → p ≠ []) := by
  unfold partE at h
  split at h
  · cases h
  · rename_i hf
    refine ⟨fun q hq => far_in ?_, fun h1 h2 => ?_⟩
    · cases hfq : far q with
      | false => rfl
      | true => exact absurd (List.any_eq_true.2 ⟨q, hq, hfq⟩) hf
    · rintro rfl
      split at h
      · simp at h
      · split at h
        · simp at h
        · omega
theorem partsV_ok {f : DFea} (hs : small kFea f) (h : partsV f.2.1 f.2.2.1 = 0) : PartsOk f := by
  have h1 := parts_some (kind := f.2.1) (fea_small hs).1
  rw [h] at h1
  unfold partsE at h1
  split at h1
  · cases h1
  split at h1
  · cases h1
  split at h1
  · cases h1
  split at h1
  · cases h1
  split at h1
  · cases h1
  rename_i k1 k2 k3 k4 k5
  have hpts : ∀ p ∈ f.2.2.1, p.length ≤ 200 := fun p hp => by
    rcases Nat.lt_or_ge 200 p.length with h | h
    · exact absurd (List.any_eq_true.2 ⟨p, hp, by simp; omega⟩) k4
    · exact h
  split at h1
  · rename_i e he
    injection h1 with h1
    injection h1 with h1
    exact absurd h1 (findSome_ne he)
  · rename_i hn
    have hz := findSome_none hn
    refine ⟨⟨by omega, by omega⟩, by omega, hpts, fun p hp => (partE_zero (hz p hp)).1, fun p hp => ?_, fun he => k5 (by rw [he]; rfl)⟩
    split at h1
    · rename_i k6
      unfold areaO at h1
      obtain ⟨⟨e, ⟨⟩⟩, h2, h3⟩ := Option.bind_eq_some_iff.1 h1
      injection h3 with h3
      injection h3 with h3
      simp only at h3
      subst h3
      have := area_len f.2.2.1 (by omega) hpts h2 p hp
      rintro rfl
      simp at this
    · exact (partE_zero (hz p hp)).2 (by omega) (by omega)
theorem featV_ok {f : DFea} (hs : small kFea f) (h : featV f = 0) : PartsOk f ∧ 1 ≤ f.1 ∧ f.1 ≤ 1073741824 ∧ attrsE false f.2.2.2.1 = 0 ∧ 0 ≤ f.2.2.2.2.1 ∧ f.2.2.2.2.1 < f.2.2.2.2.2.1 ∧ f.2.2.2.2.2.1 ≤ 1073741824 := by
  unfold featV at h
  split at h
  · cases h
  split at h
  · cases h
  split at h
  · contradiction
  split at h
  · contradiction
  split at h
  · cases h
  split at h
  · cases h
  split at h
  · cases h
  rename_i k1 k2 k3 k4 k5 k6 k7
  have k3 : partsV f.2.1 f.2.2.1 = 0 := by simpa using k3
  have k4 : attrsE false f.2.2.2.1 = 0 := by simpa using k4
  exact ⟨partsV_ok hs k3, by omega, by omega, k4, by omega, by omega, by omega⟩
/-- Valid features in order of their numbers, all above one. -/
def Asc : Int → List DFea → Prop
  | _, [] => True
  | p, f :: l => featV f = 0 ∧ p < f.1 ∧ Asc f.1 l
theorem scan_of_asc : ∀ {l : List DFea} {p : Int}, Asc p l → scan survF (fun f => f.1) 0 p l = 0
  | [], _, _ => rfl
  | f :: l, p, ⟨h1, h2, h3⟩ => by
    have : ¬ f.1 ≤ p := by omega
    simp only [scan, survF, h1, ne_eq, not_true_eq_false, if_false, this]
    exact scan_of_asc h3
theorem survV_of {l : List DFea} (h1 : l.length ≤ 200) (h : Asc 0 l) : survV l = 0 := by
  unfold survV
  rw [if_neg (by omega)]
  exact scan_of_asc h
end Go.Proofs.Ytgabpbnndikheaa.I

namespace Go.Proofs.Ytgabpbnndikheaa.I
open Go.RowKit
set_option linter.unusedVariables false
set_option linter.constructorNameAsVariable false
/-- A loop along a list, told by a recursion. -/
theorem loop_rec {α D O σ : Type} {step : D → Option (D ⊕ O)} (emb : Nat → σ → D) (spec : Nat → σ → List α → O) (d : List α) (ok : Nat → σ → Prop)
    (hnil : ∀ i s, i = d.length → ok i s → step (emb i s) = some (.inr (spec i s [])))
    (hcons : ∀ i s c cs, d[i]? = some c → d.drop (i + 1) = cs → ok i s → (∃ s', step (emb i s) = some (.inl (emb (i + 1) s')) ∧ ok (i + 1) s' ∧ spec i s (c :: cs) = spec (i + 1) s' cs) ∨ step (emb i s) = some (.inr (spec i s (c :: cs)))) :
    ∀ s, ok 0 s → loop step (emb 0 s) = some (spec 0 s d) := by
  have key : ∀ (cs : List α) (i : Nat) (s : σ), i ≤ d.length → d.drop i = cs → ok i s → loop step (emb i s) = some (spec i s cs) := by
    intro cs
    induction cs with
    | nil =>
      intro i s hi hd ho
      have : i = d.length := by
        have := congrArg List.length hd
        simp at this; omega
      rw [loop_eq, hnil i s this ho]
    | cons c cs ih =>
      intro i s hi hd ho
      have hc : d[i]? = some c := by
        have := congrArg (fun l => l[0]?) hd
        simpa using this
      have hd2 : d.drop (i + 1) = cs := by rw [← List.drop_drop, hd]; rfl
      rcases hcons i s c cs hc hd2 ho with ⟨s', h1, h2, h3⟩ | h1
      · rw [loop_eq, h1, h3]
        exact ih (i + 1) s' (lt_of_get hc) hd2 h2
      · rw [loop_eq, h1]
  exact fun s hs => key d 0 s (Nat.zero_le _) rfl hs
theorem loop_recB {α D O σ R : Type} {step : D → Option (D ⊕ O)} {f : O → Option R} (emb : Nat → σ → D) (spec : Nat → σ → List α → O) (d : List α) (ok : Nat → σ → Prop)
    (hnil : ∀ i s, i = d.length → ok i s → step (emb i s) = some (.inr (spec i s [])))
    (hcons : ∀ i s c cs, d[i]? = some c → d.drop (i + 1) = cs → ok i s → (∃ s', step (emb i s) = some (.inl (emb (i + 1) s')) ∧ ok (i + 1) s' ∧ spec i s (c :: cs) = spec (i + 1) s' cs) ∨ step (emb i s) = some (.inr (spec i s (c :: cs)))) (s : σ) (h0 : ok 0 s) :
    Option.bind (loop step (emb 0 s)) f = f (spec 0 s d) := by
  rw [loop_rec emb spec d ok hnil hcons s h0]
  rfl
/-- The number at the beginning: its code, and how many bytes it has. -/
def numR : Nat → Nat → List UInt8 → Option (Nat × Nat)
  | _, _, [] => none
  | i, v, c :: cs => if i = 9 ∧ 1 < c.toNat then none else if c.toNat < 128 then some (v + c.toNat % 128 * 2 ^ (7 * i), i + 1) else numR (i + 1) (v + c.toNat % 128 * 2 ^ (7 * i)) cs
theorem numR_getU : ∀ (l : List UInt8) (i v u k : Nat), getU i v l = (u, k, 0) → numR i v l = some (u, k)
  | [], i, v, u, k, h => by simp [getU] at h
  | c :: cs, i, v, u, k, h => by
    rw [getU] at h
    rw [numR]
    by_cases h1 : i = 9 ∧ 1 < c.toNat
    · rw [if_pos h1] at h; simp at h
    · rw [if_neg h1] at h ⊢
      by_cases h2 : 128 ≤ c.toNat
      · rw [if_pos h2] at h
        rw [if_neg (by omega)]
        exact numR_getU cs (i + 1) _ u k h
      · rw [if_neg h2] at h
        rw [if_pos (by omega)]
        by_cases h3 : 0 < i ∧ c.toNat = 0
        · rw [if_pos h3] at h; simp at h
        · rw [if_neg h3] at h
          simp only [Prod.mk.injEq, and_true] at h
          rw [h.1, h.2]
theorem toI_get {d : List UInt8} {i : Nat} {c : UInt8} (h : d[i]? = some c) : (toI d)[i]? = some (c.toNat : Int) := by
  unfold toI
  rw [List.getElem?_map, h]
  rfl
theorem toI_drop (d : List UInt8) (k : Nat) : (toI d).drop k = toI (d.drop k) := by
  unfold toI
  rw [List.map_drop]
theorem toI_take (d : List UInt8) (k : Nat) : (toI d).take k = toI (d.take k) := by
  unfold toI
  rw [List.map_take]
def specN (d : List UInt8) (bad : Bool) (i v : Nat) (cs : List UInt8) : ((Int × List Int × Bool × Unit) × Unit) ⊕ (Unit × Unit) ⊕ Empty := match numR i v cs with
  | some (u, k) => Sum.inl ((unzig u, (toI (d.drop k), (bad, ()))), ())
  | none => Sum.inr (Sum.inl ((), ()))
theorem orB (v : Nat) (c : UInt8) (i : Nat) (hi : i ≤ 9) (hv : v < 2 ^ (7 * i)) (h9 : i < 9 ∨ c.toNat ≤ 1) :
    IntKind.wrap .u64 (((BitVec.ofInt 64 (v : Int) ||| BitVec.ofInt 64 (IntKind.wrap .u64 (IntKind.wrap .u64 (IntKind.wrap .u8 (((BitVec.ofInt 8 ((c.toNat : Nat) : Int) &&& BitVec.ofInt 8 127).toNat : Nat) : Int)) * 2 ^ (7 * i)))).toNat : Nat) : Int) = ((v + c.toNat % 128 * 2 ^ (7 * i) : Nat) : Int) :=
  getO_step hi hv c.toNat_lt h9
theorem xorB (q : Nat) (hq : q < 18446744073709551616) : IntKind.wrap .i64 (((BitVec.ofInt 64 (IntKind.wrap .i64 (Int.fdiv (q : Int) 2)) ^^^ BitVec.ofInt 64 (IntKind.wrap .i64 (0 - IntKind.wrap .i64 (IntKind.wrap .u64 (((BitVec.ofInt 64 (q : Int) &&& BitVec.ofInt 64 1).toNat : Nat) : Int))))).toNat : Nat) : Int) = unzig q := by
  have e1 : IntKind.wrap .u64 (((BitVec.ofInt 64 (q : Int) &&& BitVec.ofInt 64 1).toNat : Nat) : Int) = ((q % 2 : Nat) : Int) := u64_and1 hq
  have e2 : Int.fdiv (q : Int) 2 = (q : Int) / 2 := Int.fdiv_eq_ediv_of_nonneg _ (by omega)
  have e3 : IntKind.wrap .i64 (((q % 2 : Nat) : Int)) = (q : Int) % 2 := by rw [wrap64 (by omega) (by omega)]; omega
  have e4 : IntKind.wrap .i64 (0 - (q : Int) % 2) = -((q : Int) % 2) := by rw [wrap64 (by omega) (by omega)]; omega
  have e5 : IntKind.wrap .i64 ((q : Int) / 2) = RowKit.wrap64 ((q : Int) / 2) := by rw [wrap64 (by omega) (by omega)]; unfold RowKit.wrap64; omega
  rw [e1, e2, e3, e4, e5]
  exact unzig_xor hq
theorem num_eq (d : List UInt8) (bad : Bool) (hl : d.length ≤ 1000000) : r48 () (toI d, (bad, ())) = match numR 0 0 d with
    | some (u, k) => some ((unzig u, ()), (toI (d.drop k), (bad, ())))
    | none => some (((0 : Int), ()), (toI d, (true, ()))) := by
  unfold r48
  refine (loop_recB (fun (i : Nat) (v : Nat) => ((((v : Int), ((i : Int), ())), ()) : (Int × Int × Unit) × Unit)) (specN d bad) d (fun i v => i ≤ 9 ∧ v < 2 ^ (7 * i)) (fun i v hi hv => ?_) (fun i v c cs hc hcs hv => ?_) 0 ⟨by omega, by simp⟩).trans ?_
  · subst hi
    simp only [toI_len, dec_nlt, cond_false]
    rfl
  · obtain ⟨hi9, hv⟩ := hv
    have hlt := lt_of_get hc
    have hlt' : i < (toI d).length := by rw [toI_len]; exact hlt
    have hu : upTo ((i : Int) + 1) ((toI d).length : Int) = true := by rw [toI_len]; unfold upTo; simp; omega
    have w1 : IntKind.wrap .i64 (7 * (i : Int)) = 7 * (i : Int) := wrap64 (by omega) (by omega)
    have w2 : IntKind.wrap .i64 ((i : Int) + 1) = (i : Int) + 1 := wrap64 (by omega) (by omega)
    have n1 : decide (7 * (i : Int) < 0) = false := decide_eq_false (by omega)
    have n2 : min (Int.toNat (7 * (i : Int))) 64 = 7 * i := by omega
    have n3 : Int.toNat ((i : Int) + 1) = i + 1 := by omega
    simp only [dec_lt hlt', inB_lt hlt', Int.toNat_natCast, toI_get hc, cond_true, Option.bind_some, w1, w2, n1, n2, n3, hu, cond_false]
    unfold specN
    rw [numR]
    by_cases h9 : i = 9 ∧ 1 < c.toNat
    · right
      rw [if_pos h9]
      have e1 : decide ((i : Int) = 9) = true := decide_eq_true (by omega)
      have e2 : decide (1 < ((c.toNat : Nat) : Int)) = true := decide_eq_true (by omega)
      simp only [e1, e2, cond_true]
    · rw [if_neg h9]
      have h9' : i < 9 ∨ c.toNat ≤ 1 := by omega
      have hor := orB v c i hi9 hv h9'
      obtain ⟨_, s1, s2⟩ := getU_step (b := c.toNat) hi9 hv h9'
      simp only [hor]
      have hx := xorB _ s2
      simp only [hx]
      by_cases h2 : c.toNat < 128
      · right
        rw [if_pos h2]
        have e3 : decide (((c.toNat : Nat) : Int) < 128) = true := decide_eq_true (by omega)
        simp only [e3, cond_true, toI_drop]
        by_cases h8 : i = 9
        · have e1 : decide ((i : Int) = 9) = true := decide_eq_true (by omega)
          have e2 : decide (1 < ((c.toNat : Nat) : Int)) = false := decide_eq_false (by omega)
          simp only [e1, e2, cond_true, cond_false]
        · have e1 : decide ((i : Int) = 9) = false := decide_eq_false (by omega)
          simp only [e1, cond_false]
      · left
        rw [if_neg h2]
        have e1 : decide ((i : Int) = 9) = false := decide_eq_false (by omega)
        have e3 : decide (((c.toNat : Nat) : Int) < 128) = false := decide_eq_false (by omega)
        refine ⟨v + c.toNat % 128 * 2 ^ (7 * i), ?_, ⟨by omega, s1⟩, rfl⟩
        simp only [e1, e3, cond_false]
        rfl
  · unfold specN
    cases numR 0 0 d with
    | none => rfl
    | some p => rfl
end Go.Proofs.Ytgabpbnndikheaa.I

namespace Go.Proofs.Ytgabpbnndikheaa.I
open Go.RowKit
set_option linter.unusedVariables false
set_option linter.constructorNameAsVariable false
theorem wu32 (x : Int) : IntKind.wrap .u32 x = x % 4294967296 := by simp [IntKind.wrap, IntKind.bits, IntKind.signed]
theorem r61_eq (l : List UInt8) (hl : l.length ≤ 9223372036854775807) : r11 (toI l, ()) = some ((fnv l : Int), ()) := by
  unfold r11
  have hlen := toI_len l
  have h := (loop_fold (step := fun (x0 : (Int × Int × Unit) × Unit) => (cond (Decidable.decide (LT.lt x0.1.2.1 (Nat.cast (List.length (toI l)) : Int))) (cond (inB x0.1.2.1 (List.length (toI l))) (Option.bind (GetElem?.getElem? (toI l) (Int.toNat x0.1.2.1)) (fun x1 => (Option.some (Sum.inl (((IntKind.wrap IntKind.u32 (HMul.hMul (IntKind.wrap IntKind.u32 (Nat.cast (BitVec.toNat (HXor.hXor (BitVec.ofInt 32 x0.1.1) (BitVec.ofInt 32 (IntKind.wrap IntKind.u32 x1)))) : Int)) (16777619 : Int))), ((IntKind.wrap IntKind.i64 (HAdd.hAdd x0.1.2.1 (1 : Int))), Unit.unit)), Unit.unit))))) (Option.none)) (Option.some (Sum.inr (Sum.inl ((x0.1.1, Unit.unit), Unit.unit) : ((Int × Unit) × Unit) ⊕ Empty)))))
    (fun i (h : Nat) => (((h : Int), (i, ())), ())) (fun h x => fnvStep h (UInt8.ofNat x.toNat)) (fun _ h => h < 4294967296) (fun h => Sum.inl (((h : Int), ()), ())) (toI l) (fun i x h hx hI => ?_) (fun _ _ => ?_) 2166136261 (by omega)).1
  · have hf : ∀ (m : List UInt8) (h : Nat), (toI m).foldl (fun h x => fnvStep h (UInt8.ofNat x.toNat)) h = m.foldl fnvStep h := by
      intro m
      induction m with
      | nil => intro h; rfl
      | cons c m ih =>
        intro h
        simp only [toI, List.map_cons, List.foldl_cons] at ih ⊢
        rw [show UInt8.ofNat ((c.toNat : Int)).toNat = c by simp]
        exact ih _
    rw [hf] at h
    refine (congrArg (fun z => Option.bind z _) h).trans ?_
    rfl
  · have hlt := lt_of_get hx
    obtain ⟨c, hc⟩ : ∃ c : UInt8, x = (c.toNat : Int) := by
      unfold toI at hx
      rw [List.getElem?_map] at hx
      obtain ⟨c, _, hc⟩ := Option.map_eq_some_iff.1 hx
      exact ⟨c, hc.symm⟩
    subst hc
    have hcl := c.toNat_lt
    have hw : IntKind.wrap .u32 ((c.toNat : Int)) = (c.toNat : Int) := by rw [wu32]; omega
    have hx32 := fnv32 h c hI
    dsimp only
    simp only [dec_lt hlt, inB_lt hlt, Int.toNat_natCast, hx, cond_true, Option.bind_some, hw]
    rw [wrapS hlt (by omega), wu32 (_ * _)]
    have e : IntKind.wrap IntKind.u32 ((((BitVec.ofInt 32 (h : Int)) ^^^ (BitVec.ofInt 32 (c.toNat : Int))).toNat : Nat) : Int) * 16777619 % 4294967296 = (fnvStep h c : Int) := hx32
    rw [e]
    refine ⟨?_, ?_⟩
    · rw [show UInt8.ofNat c.toNat = c by simp]
    · rw [show UInt8.ofNat c.toNat = c by simp]; unfold fnvStep; omega
  · dsimp only
    simp only [dec_nlt, cond_false]
end Go.Proofs.Ytgabpbnndikheaa.I

namespace Go.Proofs.Ytgabpbnndikheaa.I
open Go.RowKit
set_option linter.unusedVariables false
set_option linter.constructorNameAsVariable false
theorem n59 (ns : List Int) (d : List UInt8) (hr : inRange ns) (hlen : d.length + 10 * ns.length ≤ 140737488355328) : r36 (ns, ()) (toI d, ()) = some ((), (toI (d ++ encAll ns), ())) := by
  rw [r59_eq ns (toI d) hr (by rw [toI_len]; exact hlen), toI_app]
  rfl
theorem n96 (s : ByteArray) (d : List UInt8) (hs : s.size ≤ 1000000) (hlen : d.length + 1000020 ≤ 140737488355328) : r47 (s, ()) (toI d, ()) = some ((), (toI (d ++ (encAll [(s.size : Int)] ++ ofS s)), ())) := by
  rw [r96_eq s (toI d) hs (by rw [toI_len]; exact hlen), toI_app, toI_app, ← List.append_assoc]
  rfl
theorem wrap64_in (x : Int) : -9223372036854775808 ≤ IntKind.wrap .i64 x ∧ IntKind.wrap .i64 x ≤ 9223372036854775807 := by
  unfold IntKind.wrap
  simp [IntKind.signed, IntKind.bits]
  split <;> omega
theorem in_nil : inRange [] := fun x hx => by cases hx
theorem in_cons {x : Int} {l : List Int} (h : -9223372036854775808 ≤ x ∧ x ≤ 9223372036854775807) (k : inRange l) : inRange (x :: l) := fun y hy => by
  rcases List.mem_cons.1 hy with rfl | hy
  · exact h
  · exact k y hy
abbrev PtS := Int × Int × List UInt8
def ptF (s : PtS) (q : DPt) : PtS := (q.1, q.2.1, s.2.2 ++ encAll [IntKind.wrap .i64 (q.1 - s.1), IntKind.wrap .i64 (q.2.1 - s.2.1)])
theorem pt_in (s : PtS) (q : DPt) : inRange [IntKind.wrap .i64 (q.1 - s.1), IntKind.wrap .i64 (q.2.1 - s.2.1)] := in_cons (wrap64_in _) (in_cons (wrap64_in _) in_nil)
theorem ptF_len (s : PtS) (q : DPt) : (ptF s q).2.2.length ≤ s.2.2.length + 20 := by
  unfold ptF
  have := encAll_len _ (pt_in s q)
  simp only [List.length_append, List.length_cons, List.length_nil] at this ⊢
  omega
theorem fold_len {α S : Type} (f : S → α → S) (g : S → Nat) (k : Nat) : ∀ (l : List α) (s : S), (∀ s a, a ∈ l → g (f s a) ≤ g s + k) → g (l.foldl f s) ≤ g s + k * l.length
  | [], s, _ => by simp
  | a :: l, s, h => by
    have h1 := h s a (by simp)
    have h2 := fold_len f g k l (f s a) (fun s b hb => h s b (by simp [hb]))
    rw [List.foldl_cons, List.length_cons, Nat.mul_succ]
    omega
def partF (s : PtS) (p : List DPt) : PtS := p.foldl ptF (s.1, s.2.1, s.2.2 ++ encAll [(p.length : Int)])
theorem len_in {α : Type} {l : List α} (h : l.length ≤ 200) : inRange [(l.length : Int)] := in_cons (by omega) in_nil
theorem partF_len (s : PtS) (p : List DPt) (h : p.length ≤ 200) : (partF s p).2.2.length ≤ s.2.2.length + 4010 := by
  unfold partF
  have h1 := fold_len ptF (fun s => s.2.2.length) 20 p (s.1, s.2.1, s.2.2 ++ encAll [(p.length : Int)]) (fun s q _ => ptF_len s q)
  have h2 := encAll_len _ (len_in h)
  simp only [List.length_append, List.length_cons, List.length_nil] at h1 h2 ⊢
  omega
def battB (d : List UInt8) (a : DAtt) : List UInt8 :=
  d ++ (encAll [(a.1.size : Int)] ++ ofS a.1) ++ encAll [a.2.1.1] ++ (if a.2.1.1 = 1 then encAll [a.2.1.2.1] else if a.2.1.1 = 2 then encAll [(a.2.1.2.2.1.size : Int)] ++ ofS a.2.1.2.2.1 else if a.2.1.1 = 3 then [if a.2.1.2.2.2.1 then 2 else 0] else [])
structure AttOk (a : DAtt) : Prop where
  key : a.1.size ≤ 12
  text : a.2.1.2.2.1.size ≤ 40
  kind : -9223372036854775808 ≤ a.2.1.1 ∧ a.2.1.1 ≤ 9223372036854775807
  num : -9223372036854775808 ≤ a.2.1.2.1 ∧ a.2.1.2.1 ≤ 9223372036854775807
theorem attB_len {d : List UInt8} {a : DAtt} (h : AttOk a) : (battB d a).length ≤ d.length + 82 := by
  obtain ⟨h1, h2, h3, h4⟩ := h
  have e1 := encAll_len [(a.1.size : Int)] (in_cons (by omega) in_nil)
  have e2 := encAll_len [a.2.1.1] (in_cons h3 in_nil)
  have e3 := encAll_len [a.2.1.2.1] (in_cons h4 in_nil)
  have e4 := encAll_len [(a.2.1.2.2.1.size : Int)] (in_cons (by omega) in_nil)
  unfold battB
  simp only [List.length_append, List.length_cons, List.length_nil, ofS_len] at *
  split
  · omega
  · split
    · simp only [List.length_append, ofS_len]; omega
    · split
      · simp; omega
      · simp; omega
structure FeaOk (f : DFea) : Prop where
  parts : f.2.2.1.length ≤ 20
  pts : ∀ p ∈ f.2.2.1, p.length ≤ 200
  atts : f.2.2.2.1.length ≤ 8
  att : ∀ a ∈ f.2.2.2.1, AttOk a
  kind : -9223372036854775808 ≤ f.2.1 ∧ f.2.1 ≤ 9223372036854775807
  fr : -9223372036854775808 ≤ f.2.2.2.2.1 ∧ f.2.2.2.2.1 ≤ 9223372036854775807
def heads (last : Int) (f : DFea) : List Int := [IntKind.wrap .i64 (f.1 - last), f.2.1, f.2.2.2.2.1, IntKind.wrap .i64 (f.2.2.2.2.2.1 - f.2.2.2.2.1), (f.2.2.1.length : Int)]
theorem heads_in {last : Int} {f : DFea} (h : FeaOk f) : inRange (heads last f) := in_cons (wrap64_in _) (in_cons h.kind (in_cons h.fr (in_cons (wrap64_in _) (in_cons (by have := h.parts; omega) in_nil))))
def partsB (d : List UInt8) (f : DFea) (last : Int) : PtS := f.2.2.1.foldl partF (0, 0, d ++ encAll (heads last f))
def attsB (d : List UInt8) (f : DFea) (last : Int) : List UInt8 := (partsB d f last).2.2 ++ encAll [(f.2.2.2.1.length : Int)]
def feaB (d : List UInt8) (f : DFea) (last : Int) : List UInt8 := f.2.2.2.1.foldl battB (attsB d f last)
theorem partsB_len {d : List UInt8} {f : DFea} {last : Int} (h : FeaOk f) : (partsB d f last).2.2.length ≤ d.length + 80250 := by
  unfold partsB
  have h1 := fold_len partF (fun s => s.2.2.length) 4010 f.2.2.1 (0, 0, d ++ encAll (heads last f)) (fun s p hp => partF_len s p (h.pts p hp))
  have h2 := encAll_len _ (heads_in (last := last) h)
  have h3 := h.parts
  have h4 : (heads last f).length = 5 := rfl
  simp only [List.length_append] at h1
  have h5 : 4010 * f.2.2.1.length ≤ 80200 := by omega
  omega
theorem attsB_len {d : List UInt8} {f : DFea} {last : Int} (h : FeaOk f) : (attsB d f last).length ≤ d.length + 80260 := by
  unfold attsB
  have h1 := partsB_len (d := d) (last := last) h
  have h2 := encAll_len [(f.2.2.2.1.length : Int)] (in_cons (by have := h.atts; omega) in_nil)
  rw [List.length_append]
  simp at h2
  omega
theorem feaB_len {d : List UInt8} {f : DFea} {last : Int} (h : FeaOk f) : (feaB d f last).length ≤ d.length + 90000 := by
  unfold feaB
  have h1 := fold_len battB List.length 82 f.2.2.2.1 (attsB d f last) (fun d a ha => attB_len (h.att a ha))
  have h2 := attsB_len (d := d) (last := last) h
  have h3 := h.atts
  omega
end Go.Proofs.Ytgabpbnndikheaa.I

namespace Go.Proofs.Ytgabpbnndikheaa.I
open Go.RowKit
set_option linter.unusedVariables false
set_option linter.constructorNameAsVariable false
abbrev W64 (x : Int) : Int := IntKind.wrap .i64 x
theorem wrap_back (x q : Int) (h : -9223372036854775808 ≤ q ∧ q ≤ 9223372036854775807) : IntKind.wrap .i64 (x + IntKind.wrap .i64 (q - x)) = q := by
  unfold IntKind.wrap
  simp only [IntKind.signed, IntKind.bits]
  simp
  omega
def encPts (x y : Int) : List DPt → List UInt8
  | [] => []
  | q :: l => encAll [W64 (q.1 - x), W64 (q.2.1 - y)] ++ encPts q.1 q.2.1 l
def endPt (x y : Int) : List DPt → Int × Int
  | [] => (x, y)
  | q :: l => endPt q.1 q.2.1 l
def encParts (x y : Int) : List (List DPt) → List UInt8
  | [] => []
  | p :: l => encAll [(p.length : Int)] ++ encPts x y p ++ encParts (endPt x y p).1 (endPt x y p).2 l
def endParts (x y : Int) : List (List DPt) → Int × Int
  | [] => (x, y)
  | p :: l => endParts (endPt x y p).1 (endPt x y p).2 l
def encVal (v : DVal) : List UInt8 := if v.1 = 1 then encAll [v.2.1] else if v.1 = 2 then encAll [(v.2.2.1.size : Int)] ++ ofS v.2.2.1 else if v.1 = 3 then [if v.2.2.2.1 then 2 else 0] else []
def encAtt (a : DAtt) : List UInt8 := (encAll [(a.1.size : Int)] ++ ofS a.1) ++ encAll [a.2.1.1] ++ encVal a.2.1
def encFea (last : Int) (f : DFea) : List UInt8 := encAll (heads last f) ++ encParts 0 0 f.2.2.1 ++ encAll [(f.2.2.2.1.length : Int)] ++ f.2.2.2.1.flatMap encAtt
def encFs (last : Int) : List DFea → List UInt8
  | [] => []
  | f :: l => encFea last f ++ encFs f.1 l
theorem fold_pts : ∀ (p : List DPt) (x y : Int) (d : List UInt8), p.foldl ptF (x, y, d) = ((endPt x y p).1, (endPt x y p).2, d ++ encPts x y p)
  | [], x, y, d => by simp [endPt, encPts]
  | q :: l, x, y, d => by
    rw [List.foldl_cons]
    show l.foldl ptF (q.1, q.2.1, d ++ encAll [W64 (q.1 - x), W64 (q.2.1 - y)]) = _
    rw [fold_pts l]
    simp [endPt, encPts]
theorem fold_parts : ∀ (l : List (List DPt)) (x y : Int) (d : List UInt8), l.foldl partF (x, y, d) = ((endParts x y l).1, (endParts x y l).2, d ++ encParts x y l)
  | [], x, y, d => by simp [endParts, encParts]
  | p :: l, x, y, d => by
    rw [List.foldl_cons]
    have e : partF (x, y, d) p = ((endPt x y p).1, (endPt x y p).2, (d ++ encAll [(p.length : Int)]) ++ encPts x y p) := fold_pts p x y _
    rw [e, fold_parts l]
    simp [endParts, encParts]
theorem batt_eq (d : List UInt8) (a : DAtt) : battB d a = d ++ encAtt a := by
  unfold battB encAtt encVal
  simp
theorem fold_atts : ∀ (l : List DAtt) (d : List UInt8), l.foldl battB d = d ++ l.flatMap encAtt
  | [], d => by simp
  | a :: l, d => by rw [List.foldl_cons, batt_eq, fold_atts l]; simp
theorem fea_enc (d : List UInt8) (f : DFea) (last : Int) : feaB d f last = d ++ encFea last f := by
  unfold feaB attsB partsB
  rw [fold_parts, fold_atts]
  unfold encFea
  simp
theorem enc_one (n : Int) : encAll [n] = varint (zig n) := by unfold encAll; simp
theorem enc_cons' (n : Int) (ns : List Int) : encAll (n :: ns) = varint (zig n) ++ encAll ns := by unfold encAll; simp
theorem enc_nil : encAll [] = [] := rfl
theorem num_enc (n : Int) (rest : List UInt8) (h : -9223372036854775808 ≤ n ∧ n ≤ 9223372036854775807) (hl : (varint (zig n) ++ rest).length ≤ 1000000) : r48 () (toI (varint (zig n) ++ rest), (false, ())) = some ((n, ()), (toI rest, (false, ()))) := by
  rw [num_eq _ _ hl, numR_getU _ _ _ _ _ (get_varint h.1 h.2 rest)]
  simp only [unzig_zig, List.drop_left]
theorem count_enc (n : Nat) (most : Int) (rest : List UInt8) (h : (n : Int) ≤ most) (hn : n ≤ 1000000) (hl : (varint (zig n) ++ rest).length ≤ 1000000) : r38 (most, ()) (toI (varint (zig n) ++ rest), (false, ())) = some (((n : Int), ()), (toI rest, (false, ()))) := by
  unfold r38
  have e := num_enc (n : Int) rest (by omega) hl
  have e1 : decide ((n : Int) < 0) = false := decide_eq_false (by omega)
  have e2 : decide (most < (n : Int)) = false := decide_eq_false (by omega)
  simp only [e, Option.bind_some, e1, e2, cond_false]
theorem text_enc (s : ByteArray) (rest : List UInt8) (hs : s.size ≤ 1000000) (hl : (varint (zig (s.size : Int)) ++ (ofS s ++ rest)).length ≤ 1000000) : r49 () (toI (varint (zig (s.size : Int)) ++ (ofS s ++ rest)), (false, ())) = some ((s, ()), (toI rest, (false, ()))) := by
  unfold r49
  have hlen : (varint (zig (s.size : Int)) ++ (ofS s ++ rest)).length = (varint (zig (s.size : Int))).length + s.size + rest.length := by
    rw [List.length_append, List.length_append, ofS_len]; omega
  have e := count_enc s.size ((toI (varint (zig (s.size : Int)) ++ (ofS s ++ rest))).length : Int) (ofS s ++ rest) (by rw [toI_len, hlen]; omega) hs hl
  have hl2 : (toI (ofS s ++ rest)).length = s.size + rest.length := by rw [toI_len, List.length_append, ofS_len]
  have e1 : decide (((toI (ofS s ++ rest)).length : Int) < (s.size : Int)) = false := decide_eq_false (by rw [hl2]; omega)
  have e2 : upTo (s.size : Int) ((toI (ofS s ++ rest)).length : Int) = true := by rw [hl2]; unfold upTo; simp; omega
  have e3 : (ofS s ++ rest).take s.size = ofS s := by rw [← ofS_len, List.take_left]
  have e4 : (ofS s ++ rest).drop s.size = rest := by rw [← ofS_len, List.drop_left]
  simp only [e, Option.bind_some, e1, e2, cond_false, cond_true, Int.toNat_natCast, toI_take, toI_drop, e3, e4, mkStr_toI, mk_ofS]
theorem endPt_snoc : ∀ (l : List DPt) (x y : Int) (q : DPt), endPt x y (l ++ [q]) = (q.1, q.2.1)
  | [], _, _, _ => rfl
  | a :: l, x, y, q => by
    simp only [List.cons_append, endPt]
    exact endPt_snoc l _ _ q
theorem drop_cons {α : Type} {l : List α} {i : Nat} {a : α} (h : l[i]? = some a) : l.drop i = a :: l.drop (i + 1) := by
  rw [List.drop_eq_getElem_cons (lt_of_get h)]
  rw [List.getElem?_eq_getElem (lt_of_get h)] at h
  injection h with h
  rw [h]
def InR (q : DPt) : Prop := (-9223372036854775808 ≤ q.1 ∧ q.1 ≤ 9223372036854775807) ∧ (-9223372036854775808 ≤ q.2.1 ∧ q.2.1 ≤ 9223372036854775807)
abbrev StP := List DPt × Int × Int × List UInt8
def stP (x y : Int) (p : List DPt) (rest : List UInt8) (j : Nat) : StP := (p.take j, (endPt x y (p.take j)).1, (endPt x y (p.take j)).2, encPts (endPt x y (p.take j)).1 (endPt x y (p.take j)).2 (p.drop j) ++ rest)
@[reducible] def embRp (j : Int) (s : StP) : (List DPt × Int × Int × Int × List Int × Bool × Unit) × Unit := ((s.1, (j, (s.2.1, (s.2.2.1, (toI s.2.2.2, (false, ())))))), ())
theorem pts_step (x y : Int) (p : List DPt) (rest : List UInt8) (hp : ∀ q ∈ p, InR q) (hl : (encPts x y p ++ rest).length ≤ 1000000) (j : Nat) (hj : j < p.length) :
    ∃ q, p[j]? = some q ∧ (stP x y p rest j).2.2.2 = varint (zig (W64 (q.1 - (stP x y p rest j).2.1))) ++ (varint (zig (W64 (q.2.1 - (stP x y p rest j).2.2.1))) ++ (stP x y p rest (j + 1)).2.2.2) ∧
      stP x y p rest (j + 1) = ((stP x y p rest j).1 ++ [q], q.1, q.2.1, (stP x y p rest (j + 1)).2.2.2) := by
  obtain ⟨q, hq⟩ := get_lt hj
  refine ⟨q, hq, ?_, ?_⟩
  · unfold stP
    simp only
    rw [drop_cons hq, take_succ hq, endPt_snoc]
    simp only [encPts, enc_cons', enc_nil, List.append_assoc, List.nil_append]
  · unfold stP
    simp only [take_succ hq, endPt_snoc]
theorem stP_len (x y : Int) (p : List DPt) (rest : List UInt8) (hp : ∀ q ∈ p, InR q) (hl : (encPts x y p ++ rest).length ≤ 1000000) : ∀ j, j ≤ p.length → (stP x y p rest j).2.2.2.length ≤ 1000000
  | 0, _ => by unfold stP; simpa [endPt] using hl
  | j + 1, h => by
    obtain ⟨q, _, h2, _⟩ := pts_step x y p rest hp hl j (by omega)
    have := stP_len x y p rest hp hl j (by omega)
    rw [h2] at this
    simp only [List.length_append] at this
    omega
def stQ (x y : Int) (l : List (List DPt)) (rest : List UInt8) (i : Nat) : List (List DPt) × Int × Int × List UInt8 := (l.take i, (endParts x y (l.take i)).1, (endParts x y (l.take i)).2, encParts (endParts x y (l.take i)).1 (endParts x y (l.take i)).2 (l.drop i) ++ rest)
theorem endParts_snoc : ∀ (l : List (List DPt)) (x y : Int) (p : List DPt), endParts x y (l ++ [p]) = endPt (endParts x y l).1 (endParts x y l).2 p
  | [], _, _, _ => rfl
  | a :: l, x, y, p => by
    simp only [List.cons_append, endParts]
    exact endParts_snoc l _ _ p
theorem parts_step (x y : Int) (l : List (List DPt)) (rest : List UInt8) (i : Nat) (hi : i < l.length) :
    ∃ p, l[i]? = some p ∧ (stQ x y l rest i).2.2.2 = varint (zig (p.length : Int)) ++ (encPts (stQ x y l rest i).2.1 (stQ x y l rest i).2.2.1 p ++ (stQ x y l rest (i + 1)).2.2.2) ∧
      stQ x y l rest (i + 1) = ((stQ x y l rest i).1 ++ [p], (endPt (stQ x y l rest i).2.1 (stQ x y l rest i).2.2.1 p).1, (endPt (stQ x y l rest i).2.1 (stQ x y l rest i).2.2.1 p).2, (stQ x y l rest (i + 1)).2.2.2) := by
  obtain ⟨p, hq⟩ := get_lt hi
  refine ⟨p, hq, ?_, ?_⟩
  · unfold stQ
    simp only
    rw [drop_cons hq, take_succ hq, endParts_snoc]
    simp only [encParts, enc_one, List.append_assoc]
  · unfold stQ
    simp only [take_succ hq, endParts_snoc]
theorem stQ_len (x y : Int) (l : List (List DPt)) (rest : List UInt8) (hl : (encParts x y l ++ rest).length ≤ 1000000) : ∀ i, i ≤ l.length → (stQ x y l rest i).2.2.2.length ≤ 1000000
  | 0, _ => by unfold stQ; simpa [endParts] using hl
  | i + 1, h => by
    obtain ⟨p, _, h2, _⟩ := parts_step x y l rest i (by omega)
    have := stQ_len x y l rest hl i (by omega)
    rw [h2] at this
    simp only [List.length_append] at this
    omega
end Go.Proofs.Ytgabpbnndikheaa.I

namespace Go.Proofs.Ytgabpbnndikheaa.I
open Go.RowKit
set_option linter.unusedVariables false
set_option linter.constructorNameAsVariable false
@[reducible] def embP (i : Int) (s : PtS) : (Int × Int × Int × List Int × Unit) × Unit := ((i, (s.1, (s.2.1, (toI s.2.2, ())))), ())
@[reducible] def outP (s : PtS) : ((Int × Int × List Int × Unit) × Unit) ⊕ Empty := Sum.inl ((s.1, (s.2.1, (toI s.2.2, ()))), ())
set_option maxHeartbeats 4000000 in
set_option maxRecDepth 100000 in
theorem r60_eq (f : DFea) (last : Int) (d : List UInt8) (h : FeaOk f) (hd : d.length ≤ 100000000) : r37 (f, (last, ())) (toI d, ()) = some ((), (toI (feaB d f last), ())) := by
  have hb1 := partsB_len (d := d) (last := last) h
  have hb2 := attsB_len (d := d) (last := last) h
  unfold r37
  have h1 := n59 (heads last f) d (heads_in h) (by show d.length + 10 * 5 ≤ _; omega)
  have h1' : r36 ((List.cons (IntKind.wrap IntKind.i64 (HSub.hSub f.1 last)) (List.cons f.2.1 (List.cons f.2.2.2.2.1 (List.cons (IntKind.wrap IntKind.i64 (HSub.hSub f.2.2.2.2.2.1 f.2.2.2.2.1)) (List.cons (Nat.cast (List.length f.2.2.1) : Int) (List.nil)))))), ()) (toI d, ()) = some ((), (toI (d ++ encAll (heads last f)), ())) := h1
  simp only [h1', Option.bind_some]
  have hd0 : (d ++ encAll (heads last f)).length ≤ d.length + 50 := by
    have := encAll_len _ (heads_in (last := last) h)
    rw [List.length_append]
    have h4 : (heads last f).length = 5 := rfl
    omega
  rw [(loop_fold embP partF (fun i s => s.2.2.length ≤ d.length + 50 + 4010 * i) outP f.2.2.1 (fun i p s hp hI => ?_) (fun s _ => ?_) (0, 0, d ++ encAll (heads last f)) (by omega)).1]
  · rw [show f.2.2.1.foldl partF (0, 0, d ++ encAll (heads last f)) = partsB d f last from rfl]
    simp only [Option.bind_some, sumE]
    rw [n59 [(f.2.2.2.1.length : Int)] (partsB d f last).2.2 (in_cons (by have := h.atts; omega) in_nil) (by simp; omega)]
    simp only [Option.bind_some]
    rw [show (partsB d f last).2.2 ++ encAll [(f.2.2.2.1.length : Int)] = attsB d f last from rfl]
    rw [(loop_fold (fun i (b : List UInt8) => ((i, (toI b, ())), ())) battB (fun i b => b.length ≤ (attsB d f last).length + 82 * i) (fun b => Sum.inl ((toI b, ()), ())) f.2.2.2.1 (fun i a b ha hI => ?_) (fun b _ => ?_) (attsB d f last) (by omega)).1]
    · rfl
    · have hlt := lt_of_get ha
      have hal := h.atts
      have hok := h.att a (List.mem_of_getElem? ha)
      have hal2 := attB_len (d := b) hok
      obtain ⟨k1, k2, k3, k4⟩ := hok
      have e1 := encAll_len [(a.1.size : Int)] (in_cons (by omega) in_nil)
      have e2 := encAll_len [a.2.1.1] (in_cons k3 in_nil)
      simp only [List.length_cons, List.length_nil] at e1 e2
      simp only [dec_lt hlt, inB_lt hlt, Int.toNat_natCast, ha, cond_true, Option.bind_some]
      rw [wrapS hlt (by omega), n96 a.1 b (by omega) (by omega)]
      simp only [Option.bind_some]
      rw [n59 [a.2.1.1] _ (in_cons k3 in_nil) (by simp only [List.length_append, ofS_len, List.length_cons, List.length_nil]; omega)]
      simp only [Option.bind_some]
      refine ⟨?_, by omega⟩
      have hlen2 : (b ++ (encAll [(a.1.size : Int)] ++ ofS a.1) ++ encAll [a.2.1.1]).length ≤ 100100000 := by simp only [List.length_append, ofS_len]; omega
      by_cases c1 : a.2.1.1 = 1
      · simp only [c1, decide_true, cond_true] at hlen2 ⊢
        rw [n59 [a.2.1.2.1] _ (in_cons k4 in_nil) (by simp only [List.length_cons, List.length_nil]; omega)]
        simp only [Option.bind_some, battB, c1, if_true]
      · by_cases c2 : a.2.1.1 = 2
        · have c1' : ¬ (2 : Int) = 1 := by decide
          simp only [c2, c1', decide_true, decide_false, cond_true, cond_false] at hlen2 ⊢
          rw [n96 a.2.1.2.2.1 _ (by omega) (by omega)]
          simp only [Option.bind_some, battB, c2, c1', if_true, if_false]
        · by_cases c3 : a.2.1.1 = 3
          · have c1' : ¬ (3 : Int) = 1 := by decide
            have c2' : ¬ (3 : Int) = 2 := by decide
            simp only [c3, c1', c2', decide_true, decide_false, cond_true, cond_false] at hlen2 ⊢
            have z1 : encAll [1] = [2] := by
              unfold encAll
              simp only [List.flatMap_cons, List.flatMap_nil, List.append_nil]
              rw [show zig 1 = 2 from rfl, varint_lt (by omega)]
              rfl
            have z0 : encAll [0] = [0] := by
              unfold encAll
              simp only [List.flatMap_cons, List.flatMap_nil, List.append_nil]
              rw [show zig 0 = 0 from rfl, varint_lt (by omega)]
              rfl
            cases hbv : a.2.1.2.2.2.1 with
            | true =>
              simp only [cond_true]
              rw [n59 [1] _ (in_cons (by omega) in_nil) (by simp only [List.length_cons, List.length_nil]; omega), z1]
              simp only [Option.bind_some, battB, c3, c1', c2', if_true, if_false, hbv]
            | false =>
              simp only [cond_false]
              rw [n59 [0] _ (in_cons (by omega) in_nil) (by simp only [List.length_cons, List.length_nil]; omega), z0]
              simp only [Option.bind_some, battB, c3, c1', c2', if_true, if_false, hbv]
              simp
          · simp only [c1, c2, c3, decide_false, cond_false, battB, if_false, List.append_nil]
    · simp only [dec_nlt, cond_false]
  · have hlt := lt_of_get hp
    have hpl := h.pts p (List.mem_of_getElem? hp)
    have hparts := h.parts
    have hpf := partF_len s p hpl
    dsimp only [embP]
    simp only [dec_lt hlt, inB_lt hlt, Int.toNat_natCast, hp, cond_true, Option.bind_some]
    have he := encAll_len _ (len_in hpl)
    simp only [List.length_cons, List.length_nil] at he
    rw [wrapS hlt (by omega), n59 [(p.length : Int)] s.2.2 (len_in hpl) (by simp only [List.length_cons, List.length_nil]; omega)]
    simp only [Option.bind_some]
    have hs0 : (s.2.2 ++ encAll [(p.length : Int)]).length ≤ s.2.2.length + 10 := by rw [List.length_append]; omega
    rw [(loop_fold embP ptF (fun i t => t.2.2.length ≤ s.2.2.length + 10 + 20 * i) outP p (fun j q t hq hJ => ?_) (fun t _ => ?_) (s.1, s.2.1, s.2.2 ++ encAll [(p.length : Int)]) (by omega)).1]
    · exact ⟨rfl, by omega⟩
    · have hqt := lt_of_get hq
      have hqf := ptF_len t q
      dsimp only [embP]
      simp only [dec_lt hqt, inB_lt hqt, Int.toNat_natCast, hq, cond_true, Option.bind_some]
      rw [wrapS hqt (by omega), n59 [IntKind.wrap .i64 (q.1 - t.1), IntKind.wrap .i64 (q.2.1 - t.2.1)] t.2.2 (pt_in t q) (by simp only [List.length_cons, List.length_nil]; omega)]
      exact ⟨rfl, by omega⟩
    · dsimp only [embP]
      simp only [dec_nlt, cond_false]
  · dsimp only [embP]
    simp only [dec_nlt, cond_false]
end Go.Proofs.Ytgabpbnndikheaa.I

namespace Go.Proofs.Ytgabpbnndikheaa.I
open Go.RowKit
set_option linter.unusedVariables false
set_option linter.constructorNameAsVariable false
def sumB (n : Nat) : List UInt8 := [UInt8.ofNat (n % 256), UInt8.ofNat (n / 256 % 256), UInt8.ofNat (n / 65536 % 256), UInt8.ofNat (n / 16777216 % 256)]
def surF (s : Int × List UInt8) (f : DFea) : Int × List UInt8 := (f.1, feaB s.2 f s.1)
def surB (l : List DFea) : List UInt8 := (l.foldl surF (0, [84, 49] ++ encAll [(l.length : Int)])).2
def total (l : List DFea) : List UInt8 := surB l ++ sumB (fnv (surB l))
theorem surB_len {l : List DFea} (h : ∀ f ∈ l, FeaOk f) (hl : l.length ≤ 200) : (surB l).length ≤ 20000000 := by
  unfold surB
  have h1 := fold_len surF (fun s => s.2.length) 90000 l (0, [84, 49] ++ encAll [(l.length : Int)]) (fun s f hf => feaB_len (h f hf))
  have h2 := encAll_len _ (len_in hl)
  simp only [List.length_append, List.length_cons, List.length_nil] at h1 h2
  have : 90000 * l.length ≤ 18000000 := by omega
  omega
theorem byte0 (n : Nat) : IntKind.wrap .u8 (n : Int) = ((UInt8.ofNat (n % 256)).toNat : Int) := by
  rw [wu8, UInt8.toNat_ofNat']; omega
theorem byte1 (n k : Nat) : IntKind.wrap .u8 (Int.fdiv (n : Int) (k : Int)) = ((UInt8.ofNat (n / k % 256)).toNat : Int) := by
  rw [wu8, Int.fdiv_eq_ediv_of_nonneg _ (by omega), UInt8.toNat_ofNat', ← Int.natCast_ediv]
  omega
set_option maxRecDepth 100000 in
set_option maxHeartbeats 1000000 in
theorem r33_eq (l : List DFea) (hs : small (.slice kFea) l) (h : ∀ f ∈ l, FeaOk f) (hl : l.length ≤ 200) (h0 : survV l = 0) :
    r23 (l, ()) = some (if 65536 < (total l).length then ([], (2, ())) else (toI (total l), (0, ()))) := by
  unfold r23
  have hb := surB_len h hl
  have e16 : r20 (l, ()) = some (survV l, ()) := r16_eq l hs
  simp only [e16, Option.bind_some, h0]
  have e2 : r36 ([(l.length : Int)], ()) ((List.cons (84 : Int) (List.cons (49 : Int) (List.nil))), ()) = some ((), (toI ([84, 49] ++ encAll [(l.length : Int)]), ())) := n59 [(l.length : Int)] [84, 49] (len_in hl) (by simp)
  simp only [e2, Option.bind_some]
  rw [(loop_fold (fun i (s : Int × List UInt8) => ((s.1, (i, (toI s.2, ()))), ())) surF (fun i s => s.2.length ≤ 20 + 90000 * i) (fun s => Sum.inl ((toI s.2, ()), ())) l (fun i f s hf hI => ?_) (fun s _ => ?_) (0, [84, 49] ++ encAll [(l.length : Int)]) (by have := encAll_len _ (len_in hl); simp at this ⊢; omega)).1]
  · rw [show (l.foldl surF (0, [84, 49] ++ encAll [(l.length : Int)])).2 = surB l from rfl]
    simp only [Option.bind_some, sumE]
    rw [r61_eq (surB l) (by omega)]
    have hsum : (List.cons (IntKind.wrap IntKind.u8 (fnv (surB l) : Int)) (List.cons (IntKind.wrap IntKind.u8 (Int.fdiv (fnv (surB l) : Int) (256 : Int))) (List.cons (IntKind.wrap IntKind.u8 (Int.fdiv (fnv (surB l) : Int) (65536 : Int))) (List.cons (IntKind.wrap IntKind.u8 (Int.fdiv (fnv (surB l) : Int) (16777216 : Int))) (List.nil))))) = toI (sumB (fnv (surB l))) := by
      generalize fnv (surB l) = n
      have b1 : IntKind.wrap IntKind.u8 (Int.fdiv (n : Int) (256 : Int)) = ((UInt8.ofNat (n / 256 % 256)).toNat : Int) := byte1 n 256
      have b2 : IntKind.wrap IntKind.u8 (Int.fdiv (n : Int) (65536 : Int)) = ((UInt8.ofNat (n / 65536 % 256)).toNat : Int) := byte1 n 65536
      have b3 : IntKind.wrap IntKind.u8 (Int.fdiv (n : Int) (16777216 : Int)) = ((UInt8.ofNat (n / 16777216 % 256)).toNat : Int) := byte1 n 16777216
      have b0 := byte0 n
      rw [b0, b1, b2, b3]
      rfl
    simp only [Option.bind_some, hsum, ← toI_app]
    rw [show surB l ++ sumB (fnv (surB l)) = total l from rfl]
    have ht : (total l).length = (surB l).length + 4 := by unfold total; rw [List.length_append]; rfl
    have hfit : fits ((toI (surB l)).length + (toI (sumB (fnv (surB l)))).length) 1 = true := fitsB (by rw [toI_len, toI_len]; show _ + 4 ≤ _; omega)
    rw [hfit, toI_len]
    by_cases hc : 65536 < (total l).length
    · have : decide ((65536 : Int) < ((total l).length : Int)) = true := by simp; omega
      simp [this, hc]
    · have : decide ((65536 : Int) < ((total l).length : Int)) = false := by simp; omega
      simp [this, hc]
  · have hlt := lt_of_get hf
    have hok := h f (List.mem_of_getElem? hf)
    have hfl := feaB_len (d := s.2) (last := s.1) hok
    have hI' : s.2.length ≤ 20 + 90000 * i := hI
    have hsl : s.2.length ≤ 100000000 := by clear hI hs; omega
    have e60 := r60_eq f s.1 s.2 hok hsl
    obtain ⟨id, kind, ps, ats, fr, tt, ⟨⟩⟩ := f
    simp only [dec_lt hlt, inB_lt hlt, Int.toNat_natCast, hf, cond_true, Option.bind_some]
    rw [e60, wrapS hlt (by omega)]
    refine ⟨rfl, ?_⟩
    refine Nat.le_trans hfl ?_
    clear hfl e60 hI hs
    omega
  · simp only [dec_nlt, cond_false]
end Go.Proofs.Ytgabpbnndikheaa.I

namespace Go.Proofs.Ytgabpbnndikheaa.I
open Go.RowKit
set_option linter.unusedVariables false
set_option linter.constructorNameAsVariable false
abbrev noB : ByteArray := ⟨List.toArray []⟩
/-- A value without what its kind does not use. -/
def ValV (v : DVal) : Prop := v = (0, (0, (noB, (false, ())))) ∨ (∃ n : Int, (-9223372036854775808 ≤ n ∧ n ≤ 9223372036854775807) ∧ v = (1, (n, (noB, (false, ()))))) ∨ (∃ s : ByteArray, s.size ≤ 40 ∧ v = (2, (0, (s, (false, ()))))) ∨ (∃ b : Bool, v = (3, (0, (noB, (b, ())))))
theorem valV_of {v : DVal} (h : checkV v = 0) : ValV v := by
  obtain ⟨k, n, s, b, ⟨⟩⟩ := v
  unfold checkV at h
  simp only at h
  split at h
  · cases h
  split at h
  · cases h
  split at h
  · cases h
  split at h
  · cases h
  split at h
  · cases h
  split at h
  · cases h
  split at h
  · cases h
  split at h
  · cases h
  rename_i k1 k2 k3 k4 k5 k6 k7 k8
  have hk : k = 0 ∨ k = 1 ∨ k = 2 ∨ k = 3 := by omega
  rcases hk with rfl | rfl | rfl | rfl
  · left
    have e1 : n = 0 := by
      by_cases hn : n = 0
      · exact hn
      · exact absurd ⟨by omega, hn⟩ k3
    have e2 : s = noB := by
      by_cases hn : s = noB
      · exact hn
      · exact absurd ⟨by omega, hn⟩ k4
    have e3 : b = false := by
      cases b
      · rfl
      · exact absurd ⟨by omega, rfl⟩ k5
    rw [e1, e2, e3]
  · right; left
    have e2 : s = noB := by
      by_cases hn : s = noB
      · exact hn
      · exact absurd ⟨by omega, hn⟩ k4
    have e3 : b = false := by
      cases b
      · rfl
      · exact absurd ⟨by omega, rfl⟩ k5
    exact ⟨n, by omega, by rw [e2, e3]⟩
  · right; right; left
    have e1 : n = 0 := by
      by_cases hn : n = 0
      · exact hn
      · exact absurd ⟨by omega, hn⟩ k3
    have e3 : b = false := by
      cases b
      · rfl
      · exact absurd ⟨by omega, rfl⟩ k5
    exact ⟨s, by omega, by rw [e1, e3]⟩
  · right; right; right
    have e1 : n = 0 := by
      by_cases hn : n = 0
      · exact hn
      · exact absurd ⟨by omega, hn⟩ k3
    have e2 : s = noB := by
      by_cases hn : s = noB
      · exact hn
      · exact absurd ⟨by omega, hn⟩ k4
    exact ⟨b, by rw [e1, e2]⟩
structure FeaV (f : DFea) : Prop where
  ok : FeaOk f
  id : -9223372036854775808 ≤ f.1 ∧ f.1 ≤ 9223372036854775807
  upto : -9223372036854775808 ≤ f.2.2.2.2.2.1 ∧ f.2.2.2.2.2.1 ≤ 9223372036854775807
  pts : ∀ p ∈ f.2.2.1, ∀ q ∈ p, InR q
  att : ∀ a ∈ f.2.2.2.1, ValV a.2.1
theorem in_wrap (x : Int) : -9223372036854775808 ≤ W64 x ∧ W64 x ≤ 9223372036854775807 := wrap64_in x
theorem zig1 : varint (zig 1) = [2] := by rw [show zig 1 = 2 by rfl, varint_lt (by omega)]; rfl
theorem zig0 : varint (zig 0) = [0] := by rw [show zig 0 = 0 by rfl, varint_lt (by omega)]; rfl
@[reducible] def embPa (f : DFea) (i : Int) (s : List (List DPt) × Int × Int × List UInt8) : (Int × Int × Int × List (List DPt) × Unit × Int × Int × Int × Int × List Int × Bool × Unit) × Unit :=
  ((i, (f.1, (f.2.1, (s.1, ((), (f.2.2.2.2.1, (f.2.2.2.2.2.1, (s.2.1, (s.2.2.1, (toI s.2.2.2, (false, ()))))))))))), ())
@[reducible] def embAt (f : DFea) (i : Int) (s : List DAtt × List UInt8) : (Int × Int × Int × List (List DPt) × List DAtt × Int × Int × List Int × Bool × Unit) × Unit :=
  ((i, (f.1, (f.2.1, (f.2.2.1, (s.1, (f.2.2.2.2.1, (f.2.2.2.2.2.1, (toI s.2, (false, ()))))))))), ())
def stA (l : List DAtt) (rest : List UInt8) (i : Nat) : List DAtt × List UInt8 := (l.take i, (l.drop i).flatMap encAtt ++ rest)
theorem fits56 {k : Nat} (h : k ≤ 100000) : fits k 56 = true := by unfold fits; simp; omega
theorem fits16' {k : Nat} (h : k ≤ 100000) : fits k 16 = true := by unfold fits; simp; omega
theorem fits24' {k : Nat} (h : k ≤ 100000) : fits k 24 = true := by unfold fits; simp; omega
theorem fits80' {k : Nat} (h : k ≤ 100000) : fits k 80 = true := by unfold fits; simp; omega
theorem stA_len (l : List DAtt) (rest : List UInt8) (hl : (l.flatMap encAtt ++ rest).length ≤ 1000000) : ∀ i, i ≤ l.length → (stA l rest i).2.length ≤ 1000000
  | 0, _ => by unfold stA; simpa using hl
  | i + 1, h => by
    have := stA_len l rest hl i (by omega)
    obtain ⟨a, ha⟩ := get_lt (show i < l.length by omega)
    unfold stA at this ⊢
    simp only at this ⊢
    rw [drop_cons ha, List.flatMap_cons] at this
    simp only [List.length_append] at this ⊢
    omega
set_option maxHeartbeats 4000000 in
set_option maxRecDepth 100000 in
theorem fea_read (last : Int) (f : DFea) (rest : List UInt8) (h : FeaV f) (hl : (encFea last f ++ rest).length ≤ 1000000) :
    r39 (last, ()) (toI (encFea last f ++ rest), (false, ())) = some ((f, ()), (toI rest, (false, ()))) := by
  unfold r39
  have hpl := h.ok.parts
  have hal := h.ok.atts
  obtain ⟨B3, hB3⟩ : ∃ B3, B3 = f.2.2.2.1.flatMap encAtt ++ rest := ⟨_, rfl⟩
  obtain ⟨B2, hB2⟩ : ∃ B2, B2 = varint (zig (f.2.2.2.1.length : Int)) ++ B3 := ⟨_, rfl⟩
  obtain ⟨B1, hB1⟩ : ∃ B1, B1 = encParts 0 0 f.2.2.1 ++ B2 := ⟨_, rfl⟩
  have e0 : encFea last f ++ rest = varint (zig (W64 (f.1 - last))) ++ (varint (zig f.2.1) ++ (varint (zig f.2.2.2.2.1) ++ (varint (zig (W64 (f.2.2.2.2.2.1 - f.2.2.2.2.1))) ++ (varint (zig (f.2.2.1.length : Int)) ++ B1)))) := by
    rw [hB1, hB2, hB3]
    unfold encFea heads
    simp only [enc_cons', enc_nil, List.append_assoc, List.nil_append]
  rw [e0] at hl ⊢
  have k1 := hl
  simp only [List.length_append] at k1
  have s1 := num_enc (W64 (f.1 - last)) _ (in_wrap _) hl
  have s2 := num_enc f.2.1 (varint (zig f.2.2.2.2.1) ++ (varint (zig (W64 (f.2.2.2.2.2.1 - f.2.2.2.2.1))) ++ (varint (zig (f.2.2.1.length : Int)) ++ B1))) h.ok.kind (by simp only [List.length_append]; omega)
  have s3 := num_enc f.2.2.2.2.1 (varint (zig (W64 (f.2.2.2.2.2.1 - f.2.2.2.2.1))) ++ (varint (zig (f.2.2.1.length : Int)) ++ B1)) h.ok.fr (by simp only [List.length_append]; omega)
  have s4 := num_enc (W64 (f.2.2.2.2.2.1 - f.2.2.2.2.1)) (varint (zig (f.2.2.1.length : Int)) ++ B1) (in_wrap _) (by simp only [List.length_append]; omega)
  have s5 := count_enc f.2.2.1.length 20 B1 (by omega) (by omega) (by simp only [List.length_append]; omega)
  have w1 : IntKind.wrap .i64 (last + W64 (f.1 - last)) = f.1 := wrap_back last f.1 h.id
  have w2 : IntKind.wrap .i64 (f.2.2.2.2.1 + W64 (f.2.2.2.2.2.1 - f.2.2.2.2.1)) = f.2.2.2.2.2.1 := wrap_back _ _ h.upto
  simp only [s1, s2, s3, s4, s5, Option.bind_some, w1, w2]
  have hl1 : (encParts 0 0 f.2.2.1 ++ B2).length ≤ 1000000 := by rw [← hB1]; omega
  refine loop_is (embPa f) f.2.2.1.length (stQ 0 0 f.2.2.1 B2) (fun s => Sum.inl ((f.1, (f.2.1, (s.1, ((), (f.2.2.2.2.1, (f.2.2.2.2.2.1, (s.2.1, (s.2.2.1, (toI s.2.2.2, (false, ())))))))))), ())) (fun i hi => ?_) ?_ ?_ ([], 0, 0, B1) (by unfold stQ; simp only [List.take_zero, List.drop_zero, endParts, ← hB1])
  · obtain ⟨p, hp, p1, p2⟩ := parts_step 0 0 f.2.2.1 B2 i hi
    have hlen := stQ_len 0 0 f.2.2.1 B2 hl1 i (by omega)
    have hpm := List.mem_of_getElem? hp
    have hp2 := h.ok.pts p hpm
    rw [p1] at hlen
    have t1 := count_enc p.length 200 _ (by omega) (by omega) hlen
    simp only [embPa, dec_lt hi, cond_true, p1, t1, Option.bind_some]
    generalize (stQ 0 0 f.2.2.1 B2 i).2.1 = x at p2 hlen ⊢
    generalize (stQ 0 0 f.2.2.1 B2 i).2.2.1 = y at p2 hlen ⊢
    have hfit : fits ((stQ 0 0 f.2.2.1 B2 i).1.length + [p].length) 24 = true := fits24' (by unfold stQ; simp only [List.length_take, List.length_cons, List.length_nil]; omega)
    have hlen2 : (encPts x y p ++ (stQ 0 0 f.2.2.1 B2 (i + 1)).2.2.2).length ≤ 1000000 := by
      simp only [List.length_append] at hlen ⊢; omega
    generalize (stQ 0 0 f.2.2.1 B2 i).1 = acc at p2 hfit ⊢
    rw [p2]
    generalize (stQ 0 0 f.2.2.1 B2 (i + 1)).2.2.2 = R at hlen2 ⊢
    refine loop_is embRp p.length (stP x y p R) (fun s => Sum.inl ((s.1, (s.2.1, (s.2.2.1, (toI s.2.2.2, (false, ()))))), ())) (fun j hj => ?_) ?_ ?_ ([], x, y, encPts x y p ++ R) (by unfold stP; simp only [List.take_zero, List.drop_zero, endPt])
    · obtain ⟨q, hq, q1, q2⟩ := pts_step x y p R (h.pts p hpm) hlen2 j hj
      have hl4 := stP_len x y p R (h.pts p hpm) hlen2 j (by omega)
      have hqr := h.pts p hpm q (List.mem_of_getElem? hq)
      rw [q1] at hl4
      have hl5 := hl4
      simp only [List.length_append] at hl5
      have u1 := num_enc _ _ (in_wrap _) hl4
      have u2 := num_enc (W64 (q.2.1 - (stP x y p R j).2.2.1)) (stP x y p R (j + 1)).2.2.2 (in_wrap _) (by simp only [List.length_append]; omega)
      have u3 : IntKind.wrap .i64 ((stP x y p R j).2.1 + W64 (q.1 - (stP x y p R j).2.1)) = q.1 := wrap_back _ _ hqr.1
      have u4 : IntKind.wrap .i64 ((stP x y p R j).2.2.1 + W64 (q.2.1 - (stP x y p R j).2.2.1)) = q.2.1 := wrap_back _ _ hqr.2
      have hf2 : fits ((stP x y p R j).1.length + [(q.1, (q.2.1, ()))].length) 16 = true := fits16' (by unfold stP; simp only [List.length_take, List.length_cons, List.length_nil]; omega)
      simp only [embRp, dec_lt hj, cond_true, q1, u1, u2, Option.bind_some, u3, u4, hf2]
      rw [wrapS hj (by omega), q2]
    · simp only [embRp, dec_nlt, cond_false]
    · simp only [sumE]
      have z1 : (stP x y p R p.length).1 = p := by unfold stP; simp
      have z2 : (stP x y p R p.length).2.1 = (endPt x y p).1 := by unfold stP; simp
      have z3 : (stP x y p R p.length).2.2.1 = (endPt x y p).2 := by unfold stP; simp
      have z4 : (stP x y p R p.length).2.2.2 = R := by unfold stP; simp [encPts]
      rw [z1, z2, z3, z4, hfit, wrapS hi (by omega)]
      rfl
  · simp only [embPa, dec_nlt, cond_false]
  · have z1 : (stQ 0 0 f.2.2.1 B2 f.2.2.1.length).1 = f.2.2.1 := by unfold stQ; simp
    have z4 : (stQ 0 0 f.2.2.1 B2 f.2.2.1.length).2.2.2 = B2 := by unfold stQ; simp [encParts]
    simp only [sumE, z1, z4]
    have hl6 : B2.length ≤ 1000000 := by simp only [List.length_append] at hl1; omega
    rw [hB2] at hl6 ⊢
    have t1 := count_enc f.2.2.2.1.length 8 B3 (by omega) (by omega) hl6
    simp only [t1, Option.bind_some]
    have hl7 : (f.2.2.2.1.flatMap encAtt ++ rest).length ≤ 1000000 := by rw [← hB3]; simp only [List.length_append] at hl6; omega
    refine loop_is (embAt f) f.2.2.2.1.length (stA f.2.2.2.1 rest) (fun s => Sum.inl ((f.1, (f.2.1, (f.2.2.1, (s.1, (f.2.2.2.2.1, (f.2.2.2.2.2.1, (toI s.2, (false, ())))))))), ())) (fun i hi => ?_) ?_ ?_ ([], B3) (by unfold stA; simp only [List.take_zero, List.drop_zero, ← hB3])
    · obtain ⟨a, ha⟩ := get_lt hi
      have ham := List.mem_of_getElem? ha
      have hao := h.ok.att a ham
      have hlA := stA_len f.2.2.2.1 rest hl7 i (by omega)
      have hn : (stA f.2.2.2.1 rest (i + 1)).1 = (stA f.2.2.2.1 rest i).1 ++ [a] := by unfold stA; exact take_succ ha
      have hb : (stA f.2.2.2.1 rest i).2 = varint (zig (a.1.size : Int)) ++ (ofS a.1 ++ (varint (zig a.2.1.1) ++ (encVal a.2.1 ++ (stA f.2.2.2.1 rest (i + 1)).2))) := by
        unfold stA
        simp only
        rw [drop_cons ha, List.flatMap_cons]
        unfold encAtt
        simp only [enc_one, List.append_assoc]
      have hf3 : ∀ z : DAtt, fits ((stA f.2.2.2.1 rest i).1.length + [z].length) 56 = true := fun z => fits56 (by unfold stA; simp only [List.length_take, List.length_cons, List.length_nil]; omega)
      have e2 : stA f.2.2.2.1 rest (i + 1) = ((stA f.2.2.2.1 rest i).1 ++ [a], (stA f.2.2.2.1 rest (i + 1)).2) := by rw [← hn]
      rw [hb] at hlA
      have hl8 := hlA
      simp only [List.length_append] at hl8
      have t2 := text_enc a.1 (varint (zig a.2.1.1) ++ (encVal a.2.1 ++ (stA f.2.2.2.1 rest (i + 1)).2)) (by have := hao.key; omega) hlA
      have t3 := num_enc a.2.1.1 (encVal a.2.1 ++ (stA f.2.2.2.1 rest (i + 1)).2) hao.kind (by simp only [List.length_append]; omega)
      simp only [embAt, dec_lt hi, cond_true, hb, t2, t3, Option.bind_some]
      rw [wrapS hi (by omega), e2]
      obtain ⟨key, v, ⟨⟩⟩ := a
      simp only at t3 hl8 hf3 ⊢
      generalize (stA f.2.2.2.1 rest (i + 1)).2 = R at hl8 ⊢
      generalize (stA f.2.2.2.1 rest i).1 = acc at hf3 ⊢
      rcases h.att _ ham with hv | ⟨n, hn1, hv⟩ | ⟨s, hs1, hv⟩ | ⟨b, hv⟩
      · have hv : v = (0, (0, (noB, (false, ())))) := hv
        subst hv
        have e3 : encVal ((0 : Int), ((0 : Int), (noB, (false, ())))) = [] := rfl
        have d1 : decide ((0 : Int) = 1) = false := rfl
        have d2 : decide ((0 : Int) = 2) = false := rfl
        have d3 : decide ((0 : Int) = 3) = false := rfl
        have hf4 := hf3 (key, (((0 : Int), ((0 : Int), (noB, (false, ())))), ()))
        simp only [d1, d2, d3, cond_false, e3, List.nil_append, hf4, cond_true]
      · have hv : v = (1, (n, (noB, (false, ())))) := hv
        subst hv
        have e3 : encVal ((1 : Int), (n, (noB, (false, ())))) = varint (zig n) := by
          rw [← enc_one]; rfl
        rw [e3] at hl8 ⊢
        have hf4 := hf3 (key, (((1 : Int), (n, (noB, (false, ())))), ()))
        have t4 := num_enc n R hn1 (by simp only [List.length_append]; omega)
        simp only [decide_true, t4, Option.bind_some, hf4, cond_true]
      · have hv : v = (2, (0, (s, (false, ())))) := hv
        subst hv
        have e3 : encVal ((2 : Int), ((0 : Int), (s, (false, ())))) = varint (zig (s.size : Int)) ++ ofS s := by
          rw [← enc_one]; rfl
        rw [e3] at hl8 ⊢
        rw [List.append_assoc]
        simp only [List.length_append] at hl8
        have d1 : decide ((2 : Int) = 1) = false := rfl
        have hf4 := hf3 (key, (((2 : Int), ((0 : Int), (s, (false, ())))), ()))
        have t4 := text_enc s R (by omega) (by simp only [List.length_append]; omega)
        simp only [d1, decide_true, t4, Option.bind_some, hf4, cond_true, cond_false]
      · have hv : v = (3, (0, (noB, (b, ())))) := hv
        subst hv
        have e3 : encVal ((3 : Int), ((0 : Int), (noB, (b, ())))) = varint (zig (if b then 1 else 0)) := by
          cases b
          · exact zig0.symm
          · exact zig1.symm
        rw [e3] at hl8 ⊢
        have d1 : decide ((3 : Int) = 1) = false := rfl
        have d2 : decide ((3 : Int) = 2) = false := rfl
        have hf4 := hf3 (key, (((3 : Int), ((0 : Int), (noB, (b, ())))), ()))
        have t4 := num_enc (if b then 1 else 0) R (by cases b <;> simp) (by simp only [List.length_append]; omega)
        have d4 : decide ((if b then (1 : Int) else 0) = 1) = b := by cases b <;> rfl
        simp only [d1, d2, decide_true, t4, Option.bind_some, d4, hf4, cond_true, cond_false]
    · simp only [embAt, dec_nlt, cond_false]
    · have z5 : (stA f.2.2.2.1 rest f.2.2.2.1.length) = (f.2.2.2.1, rest) := by unfold stA; simp
      rw [z5]
      rfl
end Go.Proofs.Ytgabpbnndikheaa.I

namespace Go.Proofs.Ytgabpbnndikheaa.I
open Go.RowKit
set_option linter.unusedVariables false
set_option linter.constructorNameAsVariable false
theorem fold_surv : ∀ (l : List DFea) (last : Int) (d : List UInt8), (l.foldl surF (last, d)).2 = d ++ encFs last l
  | [], _, d => by simp [encFs]
  | f :: l, last, d => by
    rw [List.foldl_cons]
    show (l.foldl surF (f.1, feaB d f last)).2 = _
    rw [fold_surv l, fea_enc]
    simp [encFs]
theorem surB_eq (l : List DFea) : surB l = [84, 49] ++ (varint (zig (l.length : Int)) ++ encFs 0 l) := by
  unfold surB
  rw [fold_surv, enc_one]
  simp
theorem total_len (l : List DFea) : (total l).length = (surB l).length + 4 := by unfold total; rw [List.length_append]; rfl
theorem surB_min (l : List DFea) : 3 ≤ (surB l).length := by
  rw [surB_eq]
  have := varint_pos (zig (l.length : Int))
  simp only [List.length_append, List.length_cons, List.length_nil]
  omega
theorem mkI_inj {a b : List UInt8} (h : mkStr (toI a) = mkStr (toI b)) : a = b := by
  rw [mkStr_toI, mkStr_toI] at h
  have := congrArg ofS h
  exact this
theorem dec_mk (a b : List UInt8) : decide (mkStr (toI a) = mkStr (toI b)) = decide (a = b) := by
  by_cases h : a = b
  · subst h; simp
  · rw [decide_eq_false h, decide_eq_false (fun he => h (mkI_inj he))]
theorem sum_list (n : Nat) : (List.cons (IntKind.wrap IntKind.u8 (n : Int)) (List.cons (IntKind.wrap IntKind.u8 (Int.fdiv (n : Int) (HPow.hPow (2 : Int) (Min.min (Int.toNat (8 : Int)) (IntKind.bits IntKind.u32))))) (List.cons (IntKind.wrap IntKind.u8 (Int.fdiv (n : Int) (HPow.hPow (2 : Int) (Min.min (Int.toNat (16 : Int)) (IntKind.bits IntKind.u32))))) (List.cons (IntKind.wrap IntKind.u8 (Int.fdiv (n : Int) (HPow.hPow (2 : Int) (Min.min (Int.toNat (24 : Int)) (IntKind.bits IntKind.u32))))) (List.nil))))) = toI (sumB n) := by
  have p8 : (HPow.hPow (2 : Int) (Min.min (Int.toNat (8 : Int)) (IntKind.bits IntKind.u32)) : Int) = 256 := rfl
  have p16 : (HPow.hPow (2 : Int) (Min.min (Int.toNat (16 : Int)) (IntKind.bits IntKind.u32)) : Int) = 65536 := rfl
  have p24 : (HPow.hPow (2 : Int) (Min.min (Int.toNat (24 : Int)) (IntKind.bits IntKind.u32)) : Int) = 16777216 := rfl
  rw [p8, p16, p24]
  have b1 : IntKind.wrap IntKind.u8 (Int.fdiv (n : Int) (256 : Int)) = ((UInt8.ofNat (n / 256 % 256)).toNat : Int) := byte1 n 256
  have b2 : IntKind.wrap IntKind.u8 (Int.fdiv (n : Int) (65536 : Int)) = ((UInt8.ofNat (n / 65536 % 256)).toNat : Int) := byte1 n 65536
  have b3 : IntKind.wrap IntKind.u8 (Int.fdiv (n : Int) (16777216 : Int)) = ((UInt8.ofNat (n / 16777216 % 256)).toNat : Int) := byte1 n 16777216
  have b0 := byte0 n
  rw [b0, b1, b2, b3]
  rfl
/-- The first checks of what is read. -/
def headR (d : List UInt8) : Option Int := if 65536 < d.length then some 2 else if d.length < 6 then some 14 else if d.take 2 ≠ [84, 49] then some 3 else if d.drop (d.length - 4) ≠ sumB (fnv (d.take (d.length - 4))) then some 13 else none
theorem read_bad (d : List UInt8) (e : Int) (h : headR d = some e) : r25 (toI d, ()) = some ([], (e, ())) := by
  unfold headR at h
  unfold r25
  by_cases h1 : 65536 < d.length
  · rw [if_pos h1] at h
    injection h with h
    subst h
    have e1 : decide ((65536 : Int) < ((toI d).length : Int)) = true := decide_eq_true (by rw [toI_len]; omega)
    simp only [e1, cond_true]
  · rw [if_neg h1] at h
    have e1 : decide ((65536 : Int) < ((toI d).length : Int)) = false := decide_eq_false (by rw [toI_len]; omega)
    by_cases h2 : d.length < 6
    · rw [if_pos h2] at h
      injection h with h
      subst h
      have e2 : decide (((toI d).length : Int) < 6) = true := decide_eq_true (by rw [toI_len]; omega)
      simp only [e1, e2, cond_true, cond_false]
    · rw [if_neg h2] at h
      have e2 : decide (((toI d).length : Int) < 6) = false := decide_eq_false (by rw [toI_len]; omega)
      have e3 : upTo (2 : Int) ((toI d).length : Int) = true := by rw [toI_len]; unfold upTo; simp; omega
      have e4 : (toI d).take (Int.toNat (2 : Int)) = toI (d.take 2) := toI_take d 2
      have e5 : (ByteArray.mk (List.toArray (List.cons (84 : UInt8) (List.cons (49 : UInt8) (List.nil))))) = mkStr (toI [84, 49]) := (mkStr_toI _).symm
      have w4 : IntKind.wrap .i64 (((toI d).length : Int) - 4) = ((d.length - 4 : Nat) : Int) := by rw [toI_len, wrap64 (by omega) (by omega)]; omega
      have e6 : upTo (((d.length - 4 : Nat)) : Int) ((toI d).length : Int) = true := by rw [toI_len]; unfold upTo; exact decide_eq_true ⟨by omega, by omega⟩
      simp only [e1, e2, e3, e4, e5, dec_mk, cond_true, cond_false]
      by_cases h3 : d.take 2 ≠ [84, 49]
      · rw [if_pos h3] at h
        injection h with h
        subst h
        rw [decide_eq_false h3]
        simp only [Bool.not_false, cond_true]
      · rw [if_neg h3] at h
        have h3 : d.take 2 = [84, 49] := by simpa using h3
        rw [decide_eq_true h3]
        by_cases h4 : d.drop (d.length - 4) ≠ sumB (fnv (d.take (d.length - 4)))
        · rw [if_pos h4] at h
          injection h with h
          subst h
          simp only [Bool.not_true, cond_false, w4, e6, cond_true, Int.toNat_natCast, toI_take, toI_drop, r61_eq (d.take (d.length - 4)) (by rw [List.length_take]; omega), Option.bind_some, sum_list, dec_mk, decide_eq_false h4, Bool.not_false]
        · rw [if_neg h4] at h
          cases h
theorem eqBytes_same (a : List UInt8) (hl : a.length ≤ 1000000) : r15 (toI a, (toI a, ())) = some (true, ()) := by
  unfold r15
  simp only [decide_true, Bool.not_true, cond_false]
  refine loop_is (fun (i : Int) (_ : Unit) => ((i, ()), ())) (toI a).length (fun i => ()) (fun _ => Sum.inr (Sum.inl ((), ()))) (fun i hi => ?_) ?_ rfl () rfl
  · have hi2 : i < a.length := by rw [toI_len] at hi; exact hi
    obtain ⟨c, hc⟩ := get_lt hi2
    simp only [dec_lt hi, inB_lt hi, Int.toNat_natCast, toI_get hc, cond_true, Option.bind_some, decide_true, Bool.not_true, cond_false]
    rw [wrapS hi (by rw [toI_len]; omega)]
  · simp only [dec_nlt, cond_false]
@[reducible] def embRd (i : Int) (s : List DFea × Int × List UInt8) : (List DFea × Int × Int × List Int × Bool × Unit) × Unit := ((s.1, (s.2.1, (i, (toI s.2.2, (false, ()))))), ())
def lastId (p : Int) : List DFea → Int
  | [] => p
  | f :: l => lastId f.1 l
theorem lastId_snoc : ∀ (l : List DFea) (p : Int) (f : DFea), lastId p (l ++ [f]) = f.1
  | [], _, _ => rfl
  | g :: l, p, f => by simp only [List.cons_append, lastId]; exact lastId_snoc l _ f
def stF (l : List DFea) (i : Nat) : List DFea × Int × List UInt8 := (l.take i, lastId 0 (l.take i), encFs (lastId 0 (l.take i)) (l.drop i))
theorem fs_step (l : List DFea) (i : Nat) (hi : i < l.length) : ∃ f, l[i]? = some f ∧ (stF l i).2.2 = encFea (stF l i).2.1 f ++ (stF l (i + 1)).2.2 ∧ stF l (i + 1) = ((stF l i).1 ++ [f], f.1, (stF l (i + 1)).2.2) := by
  obtain ⟨f, hf⟩ := get_lt hi
  refine ⟨f, hf, ?_, ?_⟩
  · unfold stF
    simp only
    rw [drop_cons hf, take_succ hf, lastId_snoc]
    rfl
  · unfold stF
    simp only [take_succ hf, lastId_snoc]
theorem stF_len (l : List DFea) (hl : (encFs 0 l).length ≤ 1000000) : ∀ i, i ≤ l.length → (stF l i).2.2.length ≤ 1000000
  | 0, _ => by unfold stF; simpa [lastId] using hl
  | i + 1, h => by
    obtain ⟨f, _, h2, _⟩ := fs_step l i (by omega)
    have := stF_len l hl i (by omega)
    rw [h2] at this
    simp only [List.length_append] at this
    omega
theorem head_total (l : List DFea) (h : (total l).length ≤ 65536) : headR (total l) = none := by
  have hm := surB_min l
  have ht := total_len l
  have e1 : (total l).length - 4 = (surB l).length := by omega
  have e2 : (total l).take (surB l).length = surB l := by unfold total; rw [List.take_left]
  have e3 : (total l).drop (surB l).length = sumB (fnv (surB l)) := by unfold total; rw [List.drop_left]
  have e4 : (total l).take 2 = [84, 49] := by unfold total; rw [surB_eq]; rfl
  unfold headR
  rw [if_neg (by omega), if_neg (by omega), if_neg (by simpa using e4), e1, e2, e3, if_neg (by simp)]
set_option maxHeartbeats 2000000 in
set_option maxRecDepth 100000 in
theorem read_total (l : List DFea) (hs : small (.slice kFea) l) (hv : ∀ f ∈ l, FeaV f) (hl : l.length ≤ 200) (h0 : survV l = 0) (h : (total l).length ≤ 65536) : r25 (toI (total l), ()) = some (l, (0, ())) := by
  have hm := surB_min l
  have ht := total_len l
  have d1 : (total l).length - 4 = (surB l).length := by omega
  have d2 : (total l).take (surB l).length = surB l := by unfold total; rw [List.take_left]
  have d3 : (total l).drop (surB l).length = sumB (fnv (surB l)) := by unfold total; rw [List.drop_left]
  have d4 : (total l).take 2 = [84, 49] := by unfold total; rw [surB_eq]; rfl
  have d5 : (surB l).drop 2 = varint (zig (l.length : Int)) ++ encFs 0 l := by rw [surB_eq]; rfl
  unfold r25
  have e1 : decide ((65536 : Int) < ((toI (total l)).length : Int)) = false := decide_eq_false (by rw [toI_len]; omega)
  have e2 : decide (((toI (total l)).length : Int) < 6) = false := decide_eq_false (by rw [toI_len]; omega)
  have e3 : upTo (2 : Int) ((toI (total l)).length : Int) = true := by rw [toI_len]; unfold upTo; simp; omega
  have e4 : (toI (total l)).take (Int.toNat (2 : Int)) = toI [84, 49] := by rw [← d4]; exact toI_take _ 2
  have e5 : (ByteArray.mk (List.toArray (List.cons (84 : UInt8) (List.cons (49 : UInt8) (List.nil))))) = mkStr (toI [84, 49]) := (mkStr_toI _).symm
  have w4 : IntKind.wrap .i64 (((toI (total l)).length : Int) - 4) = (((surB l).length : Nat) : Int) := by rw [toI_len, wrap64 (by omega) (by omega)]; omega
  have e6 : upTo (((surB l).length : Nat) : Int) ((toI (total l)).length : Int) = true := by rw [toI_len]; unfold upTo; simp; omega
  have e7 : upTo (2 : Int) ((toI (surB l)).length : Int) = true := by rw [toI_len]; unfold upTo; simp; omega
  have e8 : (toI (surB l)).drop 2 = toI (varint (zig (l.length : Int)) ++ encFs 0 l) := by rw [← d5]; exact toI_drop _ 2
  have hlen : (varint (zig (l.length : Int)) ++ encFs 0 l).length ≤ 1000000 := by rw [← d5, List.length_drop]; omega
  have e9 := count_enc l.length 200 (encFs 0 l) (by omega) (by omega) hlen
  simp only [e1, e2, e3, e4, e5, decide_true, Bool.not_true, cond_true, cond_false, w4, e6, Int.toNat_natCast, toI_take, toI_drop, d2, d3, r61_eq (surB l) (by omega), Option.bind_some, sum_list, e7, d5, e9]
  have hfl : (encFs 0 l).length ≤ 1000000 := by rw [List.length_append] at hlen; omega
  refine loop_is embRd l.length (stF l) (fun s => Sum.inr (Sum.inl ((s.1, (toI s.2.2, (false, ()))), ()))) (fun i hi => ?_) ?_ ?_ ([], 0, encFs 0 l) (by unfold stF; simp only [List.take_zero, List.drop_zero, lastId])
  · obtain ⟨f, hf, f1, f2⟩ := fs_step l i hi
    have hlen2 := stF_len l hfl i (by omega)
    rw [f1] at hlen2
    have r1 := fea_read (stF l i).2.1 f (stF l (i + 1)).2.2 (hv f (List.mem_of_getElem? hf)) hlen2
    have hfit : fits ((stF l i).1.length + [(f.1, (f.2.1, (f.2.2.1, (f.2.2.2.1, (f.2.2.2.2.1, (f.2.2.2.2.2.1, ()))))))].length) 80 = true := fits80' (by unfold stF; simp only [List.length_take, List.length_cons, List.length_nil]; omega)
    simp only [embRd, dec_lt hi, cond_true, f1, r1, Option.bind_some, cond_false, hfit]
    rw [wrapS hi (by omega), f2]
  · simp only [embRd, dec_nlt, cond_false]
  · have z1 : (stF l l.length).1 = l := by unfold stF; simp
    have r2 := r33_eq l hs (fun f hf => (hv f hf).ok) hl h0
    rw [if_neg (by omega)] at r2
    simp only [sumE, z1, r2, Option.bind_some, decide_true, Bool.not_true, cond_false, eqBytes_same (total l) (by omega)]
theorem prime_inv {a : Nat} (h : a < 4294967296) : a * 16777619 % 4294967296 * 899433627 % 4294967296 = a := by
  have e1 : a * 16777619 % 4294967296 * 899433627 % 4294967296 = a * (16777619 * 899433627) % 4294967296 := by
    rw [← Nat.mul_assoc, Nat.mul_mod (a * 16777619) 899433627, Nat.mul_mod (a * 16777619 % 4294967296) 899433627, Nat.mod_mod]
  have e2 : (16777619 * 899433627) % 4294967296 = 1 := rfl
  rw [e1, Nat.mul_mod, e2, Nat.mul_one, Nat.mod_mod, Nat.mod_eq_of_lt h]
theorem prime_inj {a b : Nat} (ha : a < 4294967296) (hb : b < 4294967296) (e : a * 16777619 % 4294967296 = b * 16777619 % 4294967296) : a = b := by
  rw [← prime_inv ha, ← prime_inv hb, e]
theorem fnv_step_inj {h h' : Nat} {c : UInt8} (hh : h < 4294967296) (hh' : h' < 4294967296) (e : fnvStep h c = fnvStep h' c) : h = h' := by
  unfold fnvStep at e
  have l1 : h ^^^ c.toNat < 4294967296 := Nat.xor_lt_two_pow (n := 32) hh (by have := c.toNat_lt; omega)
  have l2 : h' ^^^ c.toNat < 4294967296 := Nat.xor_lt_two_pow (n := 32) hh' (by have := c.toNat_lt; omega)
  have e2 : h ^^^ c.toNat = h' ^^^ c.toNat := prime_inj l1 l2 e
  have := congrArg (fun x => x ^^^ c.toNat) e2
  simpa [Nat.xor_assoc, Nat.xor_self] using this
theorem fnv_step_byte {h : Nat} {c c' : UInt8} (hh : h < 4294967296) (e : fnvStep h c = fnvStep h c') : c = c' := by
  unfold fnvStep at e
  have l1 : h ^^^ c.toNat < 4294967296 := Nat.xor_lt_two_pow (n := 32) hh (by have := c.toNat_lt; omega)
  have l2 : h ^^^ c'.toNat < 4294967296 := Nat.xor_lt_two_pow (n := 32) hh (by have := c'.toNat_lt; omega)
  have e2 : h ^^^ c.toNat = h ^^^ c'.toNat := prime_inj l1 l2 e
  have := congrArg (fun x => h ^^^ x) e2
  simp only [← Nat.xor_assoc, Nat.xor_self, Nat.zero_xor] at this
  exact UInt8.toNat_inj.1 this
theorem fold_inj : ∀ (l : List UInt8) {h h' : Nat}, h < 4294967296 → h' < 4294967296 → l.foldl fnvStep h = l.foldl fnvStep h' → h = h'
  | [], _, _, _, _, e => e
  | c :: l, h, h', hh, hh', e => by
    simp only [List.foldl_cons] at e
    have s1 : ∀ x, fnvStep x c < 4294967296 := fun x => Nat.mod_lt _ (by omega)
    exact fnv_step_inj hh hh' (fold_inj l (s1 h) (s1 h') e)
theorem fnv_set {l : List UInt8} {i : Nat} {c x : UInt8} (hc : l[i]? = some c) (hx : x ≠ c) : fnv (l.set i x) ≠ fnv l := by
  intro e
  have hlt := lt_of_get hc
  have e1 : l = l.take i ++ c :: l.drop (i + 1) := by rw [← drop_cons hc, List.take_append_drop]
  have e2 : l.set i x = l.take i ++ x :: l.drop (i + 1) := by rw [List.set_eq_take_append_cons_drop, if_pos hlt]
  unfold fnv at e
  rw [e2] at e
  conv at e => rhs; rw [e1]
  rw [List.foldl_append, List.foldl_append, List.foldl_cons, List.foldl_cons] at e
  have hb : (l.take i).foldl fnvStep 2166136261 < 4294967296 := fnv_lt (l.take i)
  have s1 : ∀ h y, fnvStep h y < 4294967296 := fun h y => Nat.mod_lt _ (by omega)
  exact hx (fnv_step_byte hb (fold_inj _ (s1 _ _) (s1 _ _) e))
theorem sumB_inj {m n : Nat} (hm : m < 4294967296) (hn : n < 4294967296) (h : sumB m = sumB n) : m = n := by
  unfold sumB at h
  simp only [List.cons.injEq, and_true] at h
  obtain ⟨h1, h2, h3, h4⟩ := h
  have k : ∀ a b : Nat, UInt8.ofNat (a % 256) = UInt8.ofNat (b % 256) → a % 256 = b % 256 := fun a b e => by
    have := congrArg UInt8.toNat e
    rw [UInt8.toNat_ofNat', UInt8.toNat_ofNat'] at this
    omega
  have := k _ _ h1
  have := k _ _ h2
  have := k _ _ h3
  have := k _ _ h4
  omega
theorem head_changed {d : List UInt8} (h : headR d = none) {i : Nat} {c x : UInt8} (hc : d[i]? = some c) (hx : x ≠ c) : ∃ e, headR (d.set i x) = some e ∧ e ≠ 0 := by
  have hlt := lt_of_get hc
  unfold headR at h ⊢
  rw [List.length_set]
  split at h
  · cases h
  split at h
  · cases h
  split at h
  · cases h
  split at h
  · cases h
  rename_i k1 k2 k3 k4
  have k3 : d.take 2 = [84, 49] := by simpa using k3
  have k4 : d.drop (d.length - 4) = sumB (fnv (d.take (d.length - 4))) := by simpa using k4
  rw [if_neg k1, if_neg k2]
  by_cases hi : i < 2
  · rw [if_pos]
    · exact ⟨3, rfl, by omega⟩
    · intro he
      rw [List.take_set] at he
      have h5 := congrArg (fun l => l[i]?) (he.trans k3.symm)
      rw [List.getElem?_set_self (by rw [List.length_take]; omega), List.getElem?_take, if_pos hi, hc] at h5
      injection h5 with h5
      exact hx h5
  · have ht : (d.set i x).take 2 = d.take 2 := by rw [List.take_set, List.set_eq_of_length_le (by rw [List.length_take]; omega)]
    rw [ht, if_neg (by simpa using k3), if_pos]
    · exact ⟨13, rfl, by omega⟩
    · intro he
      by_cases hi2 : i < d.length - 4
      · have h6 : (d.set i x).drop (d.length - 4) = d.drop (d.length - 4) := by rw [List.drop_set, if_pos hi2]
        rw [h6, k4, List.take_set] at he
        have h7 := sumB_inj (fnv_lt _) (fnv_lt _) he
        have h8 : (d.take (d.length - 4))[i]? = some c := by rw [List.getElem?_take, if_pos hi2, hc]
        exact fnv_set h8 hx h7.symm
      · have h6 : (d.set i x).take (d.length - 4) = d.take (d.length - 4) := by rw [List.take_set, List.set_eq_of_length_le (by rw [List.length_take]; omega)]
        rw [h6, ← k4, List.drop_set, if_neg hi2] at he
        have h5 := congrArg (fun l => l[i - (d.length - 4)]?) he
        rw [List.getElem?_set_self (by rw [List.length_drop]; omega), List.getElem?_drop, show d.length - 4 + (i - (d.length - 4)) = i by omega, hc] at h5
        injection h5 with h5
        exact hx h5
end Go.Proofs.Ytgabpbnndikheaa.I

namespace Go.Proofs.Ytgabpbnndikheaa.I
open Go.RowKit
set_option linter.unusedVariables false
set_option linter.constructorNameAsVariable false
def Near (q : DPt) : Prop := (-1000 ≤ q.1 ∧ q.1 ≤ 1000) ∧ (-1000 ≤ q.2.1 ∧ q.2.1 ≤ 1000)
theorem mul_bd {a b : Int} {m n : Nat} (ha : -(m : Int) ≤ a ∧ a ≤ m) (hb : -(n : Int) ≤ b ∧ b ≤ n) : -((m * n : Nat) : Int) ≤ a * b ∧ a * b ≤ ((m * n : Nat) : Int) := by
  have h1 : (a * b).natAbs ≤ m * n := by
    rw [Int.natAbs_mul]
    exact Nat.mul_le_mul (by omega) (by omega)
  omega
theorem clamp_near {x : Int} (h : -1000 ≤ x ∧ x ≤ 1000) : maxI (-1048576) (minI x 1048576) = x := by
  unfold maxI minI
  split <;> split <;> omega
theorem clampN (q : DPt) (h : Near q) : r70 (q, ()) = some (q, ()) := by
  obtain ⟨x, y, ⟨⟩⟩ := q
  unfold r70 r75
  have h1 := clamp_near h.1
  have h2 := clamp_near h.2
  have h3 : IntKind.wrap .i64 (0 - 1048576) = -1048576 := wrap64 (by omega) (by omega)
  simp only at h1 h2
  simp only [Option.bind_some, h3, h1, h2]
def wayD (a b : DPt) : DPt := (b.1 - a.1, (b.2.1 - a.2.1, ()))
theorem way_eq (a b : DPt) (ha : Near a) (hb : Near b) : r87 (a, (b, ())) = some (wayD a b, ()) := by
  unfold r87
  have e1 : r70 ((a.1, (a.2.1, ())), ()) = some (a, ()) := clampN a ha
  have e2 : r70 ((b.1, (b.2.1, ())), ()) = some (b, ()) := clampN b hb
  obtain ⟨⟨h1, h2⟩, h3, h4⟩ := ha
  obtain ⟨⟨h5, h6⟩, h7, h8⟩ := hb
  simp only [e1, e2, Option.bind_some]
  rw [wrap64 (by omega) (by omega), wrap64 (by omega) (by omega)]
  rfl
def crossD (a b c : DPt) : Int := (b.1 - a.1) * (c.2.1 - a.2.1) - (b.2.1 - a.2.1) * (c.1 - a.1)
def dotD (a b c : DPt) : Int := (b.1 - a.1) * (c.1 - a.1) + (b.2.1 - a.2.1) * (c.2.1 - a.2.1)
theorem way_bd {a b : DPt} (ha : Near a) (hb : Near b) : (-((2000 : Nat) : Int) ≤ b.1 - a.1 ∧ b.1 - a.1 ≤ ((2000 : Nat) : Int)) ∧ (-((2000 : Nat) : Int) ≤ b.2.1 - a.2.1 ∧ b.2.1 - a.2.1 ≤ ((2000 : Nat) : Int)) := by
  obtain ⟨⟨h1, h2⟩, h3, h4⟩ := ha
  obtain ⟨⟨h5, h6⟩, h7, h8⟩ := hb
  omega
theorem cross_eq (a b c : DPt) (ha : Near a) (hb : Near b) (hc : Near c) : r83 (a, (b, (c, ()))) = some (crossD a b c, ()) := by
  unfold r83
  have e1 : r87 ((a.1, (a.2.1, ())), ((b.1, (b.2.1, ())), ())) = some (wayD a b, ()) := way_eq a b ha hb
  have e2 : r87 ((a.1, (a.2.1, ())), ((c.1, (c.2.1, ())), ())) = some (wayD a c, ()) := way_eq a c ha hc
  obtain ⟨h1, h2⟩ := way_bd ha hb
  obtain ⟨h3, h4⟩ := way_bd ha hc
  have k1 := mul_bd h1 h4
  have k2 := mul_bd h2 h3
  simp only [e1, e2, Option.bind_some, wayD]
  rw [wrap64 (n := (b.1 - a.1) * (c.2.1 - a.2.1)) (by omega) (by omega), wrap64 (n := (b.2.1 - a.2.1) * (c.1 - a.1)) (by omega) (by omega), wrap64 (by omega) (by omega)]
  rfl
theorem dot_eq (a b c : DPt) (ha : Near a) (hb : Near b) (hc : Near c) : r88 (a, (b, (c, ()))) = some (dotD a b c, ()) := by
  unfold r88
  have e1 : r87 ((a.1, (a.2.1, ())), ((b.1, (b.2.1, ())), ())) = some (wayD a b, ()) := way_eq a b ha hb
  have e2 : r87 ((a.1, (a.2.1, ())), ((c.1, (c.2.1, ())), ())) = some (wayD a c, ()) := way_eq a c ha hc
  obtain ⟨h1, h2⟩ := way_bd ha hb
  obtain ⟨h3, h4⟩ := way_bd ha hc
  have k1 := mul_bd h1 h3
  have k2 := mul_bd h2 h4
  simp only [e1, e2, Option.bind_some, wayD]
  rw [wrap64 (n := (b.1 - a.1) * (c.1 - a.1)) (by omega) (by omega), wrap64 (n := (b.2.1 - a.2.1) * (c.2.1 - a.2.1)) (by omega) (by omega), wrap64 (by omega) (by omega)]
  rfl
def sg (x : Int) : Int := if x < 0 then -1 else if 0 < x then 1 else 0
theorem cmp0_eq (x : Int) : r82 (x, ((0 : Int), ())) = some (sg x, ()) := by
  unfold r82 r86 sg
  simp only [Option.bind_some, decide_true, Bool.not_true, cond_false]
  by_cases h1 : x < 0
  · simp only [decide_eq_true h1, cond_true, if_pos h1]
  · by_cases h2 : 0 < x
    · simp only [decide_eq_false h1, decide_eq_true h2, cond_true, cond_false, if_neg h1, if_pos h2]
    · simp only [decide_eq_false h1, decide_eq_false h2, cond_false, if_neg h1, if_neg h2]
def turnD (a b c : DPt) : Int := sg (crossD a b c)
theorem sg_bd (x : Int) : -((1 : Nat) : Int) ≤ sg x ∧ sg x ≤ ((1 : Nat) : Int) := by
  unfold sg
  split
  · omega
  · split <;> omega
theorem turn_eq (a b c : DPt) (ha : Near a) (hb : Near b) (hc : Near c) : r79 (a, (b, (c, ()))) = some (turnD a b c, ()) := by
  unfold r79
  have e1 : r83 ((a.1, (a.2.1, ())), ((b.1, (b.2.1, ())), ((c.1, (c.2.1, ())), ()))) = some (crossD a b c, ()) := cross_eq a b c ha hb hc
  simp only [e1, Option.bind_some]
  exact bind_of (cmp0_eq (crossD a b c)) rfl
def onD (a b p : DPt) : Bool := decide (turnD a b p = 0) && decide (dotD p a b ≤ 0)
theorem on_eq (a b p : DPt) (ha : Near a) (hb : Near b) (hp : Near p) : r85 (a, (b, (p, ()))) = some (onD a b p, ()) := by
  unfold r85 onD
  have e1 : r79 ((a.1, (a.2.1, ())), ((b.1, (b.2.1, ())), ((p.1, (p.2.1, ())), ()))) = some (turnD a b p, ()) := turn_eq a b p ha hb hp
  have e2 : r88 ((p.1, (p.2.1, ())), ((a.1, (a.2.1, ())), ((b.1, (b.2.1, ())), ()))) = some (dotD p a b, ()) := dot_eq p a b hp ha hb
  simp only [e1, e2, Option.bind_some]
  cases decide (turnD a b p = 0) <;> rfl
def sameP (a b : DPt) : Bool := decide (a.1 = b.1) && decide (a.2.1 = b.2.1)
def addD (d : List DPt) (p q r : DPt) : List DPt := cond (onD q r p) (cond (d.any fun x => sameP x p) d (d ++ [p])) d
theorem add_eq (d : List DPt) (p q r : DPt) (hd : d.length ≤ 1000) (hp : Near p) (hq : Near q) (hr : Near r) : r84 (p, (q, (r, ()))) (d, ()) = some ((), (addD d p q r, ())) := by
  unfold r84 addD
  have e1 : r85 ((q.1, (q.2.1, ())), ((r.1, (r.2.1, ())), ((p.1, (p.2.1, ())), ()))) = some (onD q r p, ()) := on_eq q r p hq hr hp
  simp only [e1, Option.bind_some]
  cases onD q r p with
  | false => rfl
  | true =>
    simp only [Bool.not_true, cond_false, cond_true]
    refine bind_loop (loop_up (fun (i : Int) (_ : Unit) => ((i, ()), ())) d.length (fun i _ => (d.take i).any (fun x => sameP x p) = false) (fun o => (o = Sum.inl ((), ()) ∧ d.any (fun x => sameP x p) = true) ∨ (o = Sum.inr (Sum.inl ((), ())) ∧ d.any (fun x => sameP x p) = false)) (fun i s hi hs => ?_) (fun s hs => ?_) 0 () (Nat.zero_le _) rfl) ?_
    · obtain ⟨x, hx⟩ := get_lt hi
      simp only [dec_lt hi, inB_lt hi, Int.toNat_natCast, hx, cond_true, Option.bind_some]
      have hxs : (decide (x.1 = p.1) && decide (x.2.1 = p.2.1)) = sameP x p := rfl
      cases hc : sameP x p with
      | true =>
        refine .inr ⟨_, by simp only [hxs, hc, cond_true], .inl ⟨rfl, List.any_eq_true.2 ⟨x, List.mem_of_getElem? hx, hc⟩⟩⟩
      | false =>
        refine .inl ⟨(), by simp only [hxs, hc, cond_false]; rw [wrapS hi (by omega)], ?_⟩
        rw [take_succ hx, List.any_append, hs]
        simp [hc]
    · rw [List.take_length] at hs
      exact ⟨_, by simp only [dec_nlt, cond_false], .inr ⟨rfl, hs⟩⟩
    · rintro o (⟨rfl, h⟩ | ⟨rfl, h⟩)
      · rw [h]
        rfl
      · rw [h]
        have hf : fits (d.length + 1) 16 = true := by unfold fits; simp; omega
        simp only [sumE, List.length_cons, List.length_nil, Nat.zero_add, hf, cond_true, cond_false]
theorem add_len (d : List DPt) (p q r : DPt) : (addD d p q r).length ≤ d.length + 1 := by
  unfold addD
  cases onD q r p with
  | false => simp
  | true =>
    cases d.any fun x => sameP x p with
    | true => simp
    | false => simp
def sharedD (a b c d : DPt) : List DPt := addD (addD (addD (addD [] a c d) b c d) c a b) d a b
theorem shared_eq (a b c d : DPt) (ha : Near a) (hb : Near b) (hc : Near c) (hd : Near d) : r80 (a, (b, (c, (d, ())))) = some (sharedD a b c d, ()) := by
  unfold r80 sharedD
  have l1 := add_len [] a c d
  have l2 := add_len (addD [] a c d) b c d
  have l3 := add_len (addD (addD [] a c d) b c d) c a b
  simp only [List.length_nil] at l1
  have e1 : r84 ((a.1, (a.2.1, ())), ((c.1, (c.2.1, ())), ((d.1, (d.2.1, ())), ()))) ([], ()) = some ((), (addD [] a c d, ())) := add_eq [] a c d (by simp) ha hc hd
  have e2 : r84 ((b.1, (b.2.1, ())), ((c.1, (c.2.1, ())), ((d.1, (d.2.1, ())), ()))) (addD [] a c d, ()) = some ((), (addD (addD [] a c d) b c d, ())) := add_eq _ b c d (by omega) hb hc hd
  have e3 : r84 ((c.1, (c.2.1, ())), ((a.1, (a.2.1, ())), ((b.1, (b.2.1, ())), ()))) (addD (addD [] a c d) b c d, ()) = some ((), (addD (addD (addD [] a c d) b c d) c a b, ())) := add_eq _ c a b (by omega) hc ha hb
  have e4 : r84 ((d.1, (d.2.1, ())), ((a.1, (a.2.1, ())), ((b.1, (b.2.1, ())), ()))) (addD (addD (addD [] a c d) b c d) c a b, ()) = some ((), (addD (addD (addD (addD [] a c d) b c d) c a b) d a b, ())) := add_eq _ d a b (by omega) hd ha hb
  simp only [e1, e2, e3, e4, Option.bind_some]
def meetD (a b c d : DPt) : Int := cond (decide (turnD a b c * turnD a b d < 0) && decide (turnD c d a * turnD c d b < 0)) 1 (minI 2 ((sharedD a b c d).length : Int))
theorem meet_eq (a b c d : DPt) (ha : Near a) (hb : Near b) (hc : Near c) (hd : Near d) : r76 (a, (b, (c, (d, ())))) = some (meetD a b c d, ()) := by
  unfold r76 meetD
  have c1 : r70 ((a.1, (a.2.1, ())), ()) = some (a, ()) := clampN a ha
  have c2 : r70 ((b.1, (b.2.1, ())), ()) = some (b, ()) := clampN b hb
  have c3 : r70 ((c.1, (c.2.1, ())), ()) = some (c, ()) := clampN c hc
  have c4 : r70 ((d.1, (d.2.1, ())), ()) = some (d, ()) := clampN d hd
  have t1 : r79 ((a.1, (a.2.1, ())), ((b.1, (b.2.1, ())), ((c.1, (c.2.1, ())), ()))) = some (turnD a b c, ()) := turn_eq a b c ha hb hc
  have t2 : r79 ((a.1, (a.2.1, ())), ((b.1, (b.2.1, ())), ((d.1, (d.2.1, ())), ()))) = some (turnD a b d, ()) := turn_eq a b d ha hb hd
  have t3 : r79 ((c.1, (c.2.1, ())), ((d.1, (d.2.1, ())), ((a.1, (a.2.1, ())), ()))) = some (turnD c d a, ()) := turn_eq c d a hc hd ha
  have t4 : r79 ((c.1, (c.2.1, ())), ((d.1, (d.2.1, ())), ((b.1, (b.2.1, ())), ()))) = some (turnD c d b, ()) := turn_eq c d b hc hd hb
  have s1 : r80 ((a.1, (a.2.1, ())), ((b.1, (b.2.1, ())), ((c.1, (c.2.1, ())), ((d.1, (d.2.1, ())), ())))) = some (sharedD a b c d, ()) := shared_eq a b c d ha hb hc hd
  have k1 := mul_bd (sg_bd (crossD a b c)) (sg_bd (crossD a b d))
  have k2 := mul_bd (sg_bd (crossD c d a)) (sg_bd (crossD c d b))
  have w1 : IntKind.wrap .i64 (turnD a b c * turnD a b d) = turnD a b c * turnD a b d := by unfold turnD; exact wrap64 (by omega) (by omega)
  have w2 : IntKind.wrap .i64 (turnD c d a * turnD c d b) = turnD c d a * turnD c d b := by unfold turnD; exact wrap64 (by omega) (by omega)
  simp only [c1, c2, c3, c4, t1, t2, t3, t4, s1, w1, w2, Option.bind_some]
  cases decide (turnD a b c * turnD a b d < 0) with
  | false => rfl
  | true =>
    cases decide (turnD c d a * turnD c d b < 0) with
    | false => rfl
    | true => rfl
def cornersD (a b c d : DPt) : Bool := cond (decide (meetD a b c d = 0)) true (cond (decide (meetD a b c d = 1)) (sameP a c || (sameP a d || (sameP b c || sameP b d))) false)
theorem corners_eq (a b c d : DPt) (ha : Near a) (hb : Near b) (hc : Near c) (hd : Near d) : r73 (a, (b, (c, (d, ())))) = some (cornersD a b c d, ()) := by
  unfold r73 cornersD
  have e1 : r76 ((a.1, (a.2.1, ())), ((b.1, (b.2.1, ())), ((c.1, (c.2.1, ())), ((d.1, (d.2.1, ())), ())))) = some (meetD a b c d, ()) := meet_eq a b c d ha hb hc hd
  simp only [e1, Option.bind_some]
  cases decide (meetD a b c d = 0) with
  | true => rfl
  | false =>
    cases decide (meetD a b c d = 1) with
    | false => rfl
    | true =>
      show cond (sameP a c) _ (cond (sameP a d) _ (cond (sameP b c) _ (some (sameP b d, ())))) = _
      cases sameP a c <;> cases sameP a d <;> cases sameP b c <;> rfl
end Go.Proofs.Ytgabpbnndikheaa.I

namespace Go.Proofs.Ytgabpbnndikheaa.I
open Go.RowKit
set_option linter.unusedVariables false
set_option linter.constructorNameAsVariable false
def getP (r : List DPt) (i : Nat) : DPt := (r[i]?).getD (0, (0, ()))
def nxtP (r : List DPt) (i : Nat) : DPt := getP r ((i + 1) % r.length)
theorem getP_some {r : List DPt} {i : Nat} (h : i < r.length) : r[i]? = some (getP r i) := by
  unfold getP
  obtain ⟨a, ha⟩ := get_lt h
  rw [ha]; rfl
theorem getP_mem {r : List DPt} {i : Nat} (h : i < r.length) : getP r i ∈ r := List.mem_of_getElem? (getP_some h)
theorem tmod_nat (i n : Nat) : Int.tmod ((i : Int) + 1) (n : Int) = (((i + 1) % n : Nat) : Int) := by
  have h : ((i : Int) + 1) = ((i + 1 : Nat) : Int) := by omega
  rw [h]
  rfl
theorem nxt_lt {r : List DPt} {i : Nat} (h : i < r.length) : (i + 1) % r.length < r.length := Nat.mod_lt _ (by omega)
def NearL (r : List DPt) : Prop := ∀ q ∈ r, Near q
theorem near_get {r : List DPt} (hr : NearL r) {i : Nat} (h : i < r.length) : Near (getP r i) := hr _ (getP_mem h)
theorem near_nxt {r : List DPt} (hr : NearL r) {i : Nat} (h : i < r.length) : Near (nxtP r i) := near_get hr (nxt_lt h)
def stepS (px py : Int) (c d : DPt) (v : Int) : Int :=
  if d.2.1 < c.2.1 then (if 2 * d.2.1 < py then (if py ≤ 2 * c.2.1 then (if 0 < (c.1 - d.1) * (py - 2 * d.2.1) - (c.2.1 - d.2.1) * (px - 2 * d.1) then 0 - v else v) else v) else v)
  else (if 2 * c.2.1 < py then (if py ≤ 2 * d.2.1 then (if 0 < (d.1 - c.1) * (py - 2 * c.2.1) - (d.2.1 - c.2.1) * (px - 2 * c.1) then 0 - v else v) else v) else v)
def sideTo (px py : Int) (s : List DPt) (n : Nat) : Int := (List.range n).foldl (fun v k => stepS px py (getP s k) (nxtP s k) v) (-1)
def sideD (r : List DPt) (i : Nat) (s : List DPt) : Int := sideTo ((getP r i).1 + (nxtP r i).1) ((getP r i).2.1 + (nxtP r i).2.1) s s.length
theorem stepS_bd {px py v : Int} {c d : DPt} (h : -1 ≤ v ∧ v ≤ 1) : -1 ≤ stepS px py c d v ∧ stepS px py c d v ≤ 1 := by
  unfold stepS
  split
  · split
    · split
      · split <;> omega
      · exact h
    · exact h
  · split
    · split
      · split <;> omega
      · exact h
    · exact h
theorem sideTo_succ (px py : Int) (s : List DPt) (n : Nat) : sideTo px py s (n + 1) = stepS px py (getP s n) (nxtP s n) (sideTo px py s n) := by
  unfold sideTo
  rw [List.range_succ, List.foldl_append]
  rfl
theorem sideTo_bd (px py : Int) (s : List DPt) : ∀ n, -1 ≤ sideTo px py s n ∧ sideTo px py s n ≤ 1
  | 0 => by unfold sideTo; simp
  | n + 1 => by rw [sideTo_succ]; exact stepS_bd (sideTo_bd px py s n)
@[reducible] def embV (i : Int) (v : Int) : (Int × Int × Unit) × Unit := ((v, (i, ())), ())
theorem side_eq (r s : List DPt) (i : Nat) (hi : i < r.length) (hr : NearL r) (hs : NearL s) (hl : r.length ≤ 200) (hm : s.length ≤ 200) : r77 (r, ((i : Int), (s, ()))) = some (sideD r i s, ()) := by
  unfold r77 sideD
  have hn := nxt_lt hi
  have w1 : IntKind.wrap .i64 ((i : Int) + 1) = (i : Int) + 1 := wrapS hi (by omega)
  have h0 : decide ((r.length : Int) = 0) = false := decide_eq_false (by omega)
  obtain ⟨⟨a1, a2⟩, a3, a4⟩ := near_get hr hi
  obtain ⟨⟨b1, b2⟩, b3, b4⟩ := near_nxt hr hi
  have g2 : r[(i + 1) % r.length]? = some (nxtP r i) := getP_some hn
  simp only [inB_lt hi, Int.toNat_natCast, getP_some hi, cond_true, Option.bind_some, h0, cond_false, w1, tmod_nat, inB_lt hn, g2]
  generalize getP r i = a at *
  generalize nxtP r i = b at *
  have w2 : IntKind.wrap .i64 (a.2.1 + b.2.1) = a.2.1 + b.2.1 := wrap64 (by omega) (by omega)
  have w3 : IntKind.wrap .i64 (a.1 + b.1) = a.1 + b.1 := wrap64 (by omega) (by omega)
  simp only [w2, w3]
  refine loop_is embV s.length (fun k => sideTo (a.1 + b.1) (a.2.1 + b.2.1) s k) (fun v => Sum.inl ((v, ()), ())) (fun k hk => ?_) ?_ ?_ (-1) rfl
  · have hk2 := nxt_lt hk
    have w4 : IntKind.wrap .i64 ((k : Int) + 1) = (k : Int) + 1 := wrapS hk (by omega)
    have h1 : decide ((s.length : Int) = 0) = false := decide_eq_false (by omega)
    have g4 : s[(k + 1) % s.length]? = some (nxtP s k) := getP_some hk2
    obtain ⟨⟨c1, c2⟩, c3, c4⟩ := near_get hs hk
    obtain ⟨⟨d1, d2⟩, d3, d4⟩ := near_nxt hs hk
    simp only [embV, dec_lt hk, inB_lt hk, Int.toNat_natCast, getP_some hk, cond_true, Option.bind_some, h1, cond_false, w4, tmod_nat, inB_lt hk2, g4, sideTo_succ]
    generalize getP s k = c at *
    generalize nxtP s k = d at *
    have hv := sideTo_bd (a.1 + b.1) (a.2.1 + b.2.1) s k
    generalize sideTo (a.1 + b.1) (a.2.1 + b.2.1) s k = v at *
    have w5 : IntKind.wrap .i64 (0 - v) = 0 - v := wrap64 (by omega) (by omega)
    have w6 : IntKind.wrap .i64 (2 * c.2.1) = 2 * c.2.1 := wrap64 (by omega) (by omega)
    have w7 : IntKind.wrap .i64 (2 * d.2.1) = 2 * d.2.1 := wrap64 (by omega) (by omega)
    have w8 : IntKind.wrap .i64 (2 * c.1) = 2 * c.1 := wrap64 (by omega) (by omega)
    have w9 : IntKind.wrap .i64 (2 * d.1) = 2 * d.1 := wrap64 (by omega) (by omega)
    have v1 : IntKind.wrap .i64 (c.1 - d.1) = c.1 - d.1 := wrap64 (by omega) (by omega)
    have v2 : IntKind.wrap .i64 (c.2.1 - d.2.1) = c.2.1 - d.2.1 := wrap64 (by omega) (by omega)
    have v3 : IntKind.wrap .i64 (d.1 - c.1) = d.1 - c.1 := wrap64 (by omega) (by omega)
    have v4 : IntKind.wrap .i64 (d.2.1 - c.2.1) = d.2.1 - c.2.1 := wrap64 (by omega) (by omega)
    have v5 : IntKind.wrap .i64 (a.2.1 + b.2.1 - 2 * d.2.1) = a.2.1 + b.2.1 - 2 * d.2.1 := wrap64 (by omega) (by omega)
    have v6 : IntKind.wrap .i64 (a.1 + b.1 - 2 * d.1) = a.1 + b.1 - 2 * d.1 := wrap64 (by omega) (by omega)
    have v7 : IntKind.wrap .i64 (a.2.1 + b.2.1 - 2 * c.2.1) = a.2.1 + b.2.1 - 2 * c.2.1 := wrap64 (by omega) (by omega)
    have v8 : IntKind.wrap .i64 (a.1 + b.1 - 2 * c.1) = a.1 + b.1 - 2 * c.1 := wrap64 (by omega) (by omega)
    have m1 := mul_bd (a := c.1 - d.1) (b := a.2.1 + b.2.1 - 2 * d.2.1) (m := 2000) (n := 4000) (by omega) (by omega)
    have m2 := mul_bd (a := c.2.1 - d.2.1) (b := a.1 + b.1 - 2 * d.1) (m := 2000) (n := 4000) (by omega) (by omega)
    have m3 := mul_bd (a := d.1 - c.1) (b := a.2.1 + b.2.1 - 2 * c.2.1) (m := 2000) (n := 4000) (by omega) (by omega)
    have m4 := mul_bd (a := d.2.1 - c.2.1) (b := a.1 + b.1 - 2 * c.1) (m := 2000) (n := 4000) (by omega) (by omega)
    have u1 : IntKind.wrap .i64 ((c.1 - d.1) * (a.2.1 + b.2.1 - 2 * d.2.1)) = (c.1 - d.1) * (a.2.1 + b.2.1 - 2 * d.2.1) := wrap64 (by omega) (by omega)
    have u2 : IntKind.wrap .i64 ((c.2.1 - d.2.1) * (a.1 + b.1 - 2 * d.1)) = (c.2.1 - d.2.1) * (a.1 + b.1 - 2 * d.1) := wrap64 (by omega) (by omega)
    have u3 : IntKind.wrap .i64 ((d.1 - c.1) * (a.2.1 + b.2.1 - 2 * c.2.1)) = (d.1 - c.1) * (a.2.1 + b.2.1 - 2 * c.2.1) := wrap64 (by omega) (by omega)
    have u4 : IntKind.wrap .i64 ((d.2.1 - c.2.1) * (a.1 + b.1 - 2 * c.1)) = (d.2.1 - c.2.1) * (a.1 + b.1 - 2 * c.1) := wrap64 (by omega) (by omega)
    simp only [w5, w6, w7, w8, w9, v1, v2, v3, v4, v5, v6, v7, v8, u1, u2, u3, u4]
    have u5 : IntKind.wrap .i64 ((c.1 - d.1) * (a.2.1 + b.2.1 - 2 * d.2.1) - (c.2.1 - d.2.1) * (a.1 + b.1 - 2 * d.1)) = (c.1 - d.1) * (a.2.1 + b.2.1 - 2 * d.2.1) - (c.2.1 - d.2.1) * (a.1 + b.1 - 2 * d.1) := wrap64 (by omega) (by omega)
    have u6 : IntKind.wrap .i64 ((d.1 - c.1) * (a.2.1 + b.2.1 - 2 * c.2.1) - (d.2.1 - c.2.1) * (a.1 + b.1 - 2 * c.1)) = (d.1 - c.1) * (a.2.1 + b.2.1 - 2 * c.2.1) - (d.2.1 - c.2.1) * (a.1 + b.1 - 2 * c.1) := wrap64 (by omega) (by omega)
    simp only [u5, u6]
    unfold stepS
    by_cases k1 : d.2.1 < c.2.1
    · simp only [decide_eq_true k1, cond_true, if_pos k1]
      by_cases k2 : 2 * d.2.1 < a.2.1 + b.2.1
      · simp only [decide_eq_true k2, cond_true, if_pos k2]
        by_cases k3 : a.2.1 + b.2.1 ≤ 2 * c.2.1
        · simp only [decide_eq_true k3, cond_true, if_pos k3]
          by_cases k4 : 0 < (c.1 - d.1) * (a.2.1 + b.2.1 - 2 * d.2.1) - (c.2.1 - d.2.1) * (a.1 + b.1 - 2 * d.1)
          · simp only [decide_eq_true k4, cond_true, if_pos k4]
          · simp only [decide_eq_false k4, cond_false, if_neg k4]
        · simp only [decide_eq_false k3, cond_false, if_neg k3]
      · simp only [decide_eq_false k2, cond_false, if_neg k2]
    · simp only [decide_eq_false k1, cond_false, if_neg k1]
      by_cases k2 : 2 * c.2.1 < a.2.1 + b.2.1
      · simp only [decide_eq_true k2, cond_true, if_pos k2]
        by_cases k3 : a.2.1 + b.2.1 ≤ 2 * d.2.1
        · simp only [decide_eq_true k3, cond_true, if_pos k3]
          by_cases k4 : 0 < (d.1 - c.1) * (a.2.1 + b.2.1 - 2 * c.2.1) - (d.2.1 - c.2.1) * (a.1 + b.1 - 2 * c.1)
          · simp only [decide_eq_true k4, cond_true, if_pos k4]
          · simp only [decide_eq_false k4, cond_false, if_neg k4]
        · simp only [decide_eq_false k3, cond_false, if_neg k3]
      · simp only [decide_eq_false k2, cond_false, if_neg k2]
  · simp only [embV, dec_nlt, cond_false]
  · rfl
theorem contains_nil (v : Int) : r78 (([] : List Int), (v, ())) = some (false, ()) := by
  unfold r78 r81
  rw [loop_eq]
  rfl
theorem contains_one (v : Int) : r78 ([v], (v, ())) = some (true, ()) := by
  unfold r78 r81
  rw [loop_eq]
  have e : inB (0 : Int) 1 = true := rfl
  have e2 : decide ((0 : Int) < 1) = true := rfl
  simp only [List.length_cons, List.length_nil, Nat.zero_add, Int.toNat_zero, List.getElem?_cons_zero, e, Option.bind_some, decide_true, cond_true]
  rfl
def sidesOne (r s : List DPt) : Bool := (List.range r.length).all fun i => decide (sideD r i s = sideD r 0 s)
theorem sides_eq (r s : List DPt) (hr : NearL r) (hs : NearL s) (hl : r.length ≤ 200) (hm : s.length ≤ 200) (h0 : 1 ≤ r.length) (h : sidesOne r s = true) : ∃ v, r74 (r, (s, ())) = some ([v], ()) := by
  refine ⟨sideD r 0 s, ?_⟩
  unfold r74
  refine loop_is (fun (i : Int) (d : List Int) => (((d, (i, ())), ()) : (List Int × Int × Unit) × Unit)) r.length (fun i => if i = 0 then [] else [sideD r 0 s]) (fun d => Sum.inl ((d, ()), ())) (fun i hi => ?_) ?_ ?_ [] rfl
  · have e1 := side_eq r s i hi hr hs hl hm
    have hv : sideD r i s = sideD r 0 s := by
      unfold sidesOne at h
      rw [List.all_eq_true] at h
      simpa using h i (List.mem_range.2 hi)
    simp only [dec_lt hi, cond_true, e1, Option.bind_some, hv, wrapS hi (show r.length ≤ 9223372036854775807 by omega), Nat.add_one_ne_zero, if_false]
    by_cases hz : i = 0
    · subst hz
      simp only [if_true]
      exact bind_of (contains_nil _) rfl
    · simp only [if_neg hz]
      exact bind_of (contains_one _) rfl
  · simp only [dec_nlt, cond_false]
  · rw [if_neg (by omega)]
    rfl
def fitsD (r s : List DPt) : Bool := ((List.range r.length).all fun i => (List.range s.length).all fun k => cornersD (getP r i) (nxtP r i) (getP s k) (nxtP s k)) && (sidesOne r s && sidesOne s r)
theorem fits_eq (r s : List DPt) (hr : NearL r) (hs : NearL s) (hl : r.length ≤ 200) (hm : s.length ≤ 200) (h0 : 1 ≤ r.length) (h1 : 1 ≤ s.length) (h : fitsD r s = true) : r67 (r, (s, ())) = some (true, ()) := by
  unfold fitsD at h
  simp only [Bool.and_eq_true] at h
  obtain ⟨hc, hs1, hs2⟩ := h
  obtain ⟨v1, e1⟩ := sides_eq r s hr hs hl hm h0 hs1
  obtain ⟨v2, e2⟩ := sides_eq s r hs hr hm hl h1 hs2
  unfold r67
  refine loop_is (fun (i : Int) (_ : Unit) => ((i, ()), ())) r.length (fun i => ()) (fun _ => Sum.inr (Sum.inl ((), ()))) (fun i hi => ?_) ?_ ?_ () rfl
  · simp only [dec_lt hi, cond_true]
    refine loop_is (fun (i : Int) (_ : Unit) => ((i, ()), ())) s.length (fun i => ()) (fun _ => Sum.inr (Sum.inl ((), ()))) (fun k hk => ?_) ?_ ?_ () rfl
    · have hcc : cornersD (getP r i) (nxtP r i) (getP s k) (nxtP s k) = true := by
        rw [List.all_eq_true] at hc
        have := hc i (List.mem_range.2 hi)
        rw [List.all_eq_true] at this
        exact this k (List.mem_range.2 hk)
      have e3 : r73 (((getP r i).1, ((getP r i).2.1, ())), (((nxtP r i).1, ((nxtP r i).2.1, ())), (((getP s k).1, ((getP s k).2.1, ())), (((nxtP s k).1, ((nxtP s k).2.1, ())), ())))) = some (true, ()) := by
        rw [← hcc]
        exact corners_eq _ _ _ _ (near_get hr hi) (near_nxt hr hi) (near_get hs hk) (near_nxt hs hk)
      have z1 : decide ((r.length : Int) = 0) = false := decide_eq_false (by omega)
      have z2 : decide ((s.length : Int) = 0) = false := decide_eq_false (by omega)
      have g1 : r[(i + 1) % r.length]? = some (nxtP r i) := getP_some (nxt_lt hi)
      have g2 : s[(k + 1) % s.length]? = some (nxtP s k) := getP_some (nxt_lt hk)
      simp only [dec_lt hk, inB_lt hi, inB_lt hk, Int.toNat_natCast, getP_some hi, getP_some hk, cond_true, Option.bind_some, z1, z2, cond_false, wrapS hi (show r.length ≤ 9223372036854775807 by omega), wrapS hk (show s.length ≤ 9223372036854775807 by omega), tmod_nat, inB_lt (nxt_lt hi), inB_lt (nxt_lt hk), g1, g2, e3, Bool.not_true]
    · simp only [dec_nlt, cond_false]
    · simp only [sumE]
      rw [wrapS hi (by omega)]
  · simp only [dec_nlt, cond_false]
  · simp only [sumE, e1, e2, Option.bind_some]
    rfl
def apartD (r : List DPt) (k i : Nat) : Bool :=
  cond (sameP (getP r k) (nxtP r k)) false (cond (sameP (getP r i) (nxtP r i)) false
    (cond (decide (k + 1 = i)) (decide (meetD (getP r k) (nxtP r k) (getP r i) (nxtP r i) = 1)) (cond (decide ((i + 1) % r.length = k)) (decide (meetD (getP r k) (nxtP r k) (getP r i) (nxtP r i) = 1)) (decide (meetD (getP r k) (nxtP r k) (getP r i) (nxtP r i) = 0)))))
theorem dec_cast {a b : Nat} : decide ((a : Int) = (b : Int)) = decide (a = b) := by
  by_cases h : a = b
  · rw [decide_eq_true h, decide_eq_true (by omega)]
  · rw [decide_eq_false h, decide_eq_false (by omega)]
theorem apart_eq (r : List DPt) (k i : Nat) (hk : k < r.length) (hi : i < r.length) (hr : NearL r) (hl : r.length ≤ 200) : r72 (r, ((k : Int), ((i : Int), ()))) = some (apartD r k i, ()) := by
  unfold r72 apartD
  have z1 : decide ((r.length : Int) = 0) = false := decide_eq_false (by omega)
  have g1 : r[(i + 1) % r.length]? = some (nxtP r i) := getP_some (nxt_lt hi)
  have g2 : r[(k + 1) % r.length]? = some (nxtP r k) := getP_some (nxt_lt hk)
  have e1 : r76 (((getP r k).1, ((getP r k).2.1, ())), (((nxtP r k).1, ((nxtP r k).2.1, ())), (((getP r i).1, ((getP r i).2.1, ())), (((nxtP r i).1, ((nxtP r i).2.1, ())), ())))) = some (meetD (getP r k) (nxtP r k) (getP r i) (nxtP r i), ()) :=
    meet_eq _ _ _ _ (near_get hr hk) (near_nxt hr hk) (near_get hr hi) (near_nxt hr hi)
  have c1 : decide ((k : Int) + 1 = (i : Int)) = decide (k + 1 = i) := dec_cast (a := k + 1)
  have s1 : ∀ a b : DPt, (decide (a.1 = b.1) && decide (a.2.1 = b.2.1)) = sameP a b := fun _ _ => rfl
  simp only [inB_lt hi, inB_lt hk, Int.toNat_natCast, getP_some hi, getP_some hk, cond_true, Option.bind_some, z1, cond_false, wrapS hi (show r.length ≤ 9223372036854775807 by omega), wrapS hk (show r.length ≤ 9223372036854775807 by omega), tmod_nat, inB_lt (nxt_lt hi), inB_lt (nxt_lt hk), g1, g2, e1, c1, dec_cast, s1]
  cases sameP (getP r k) (nxtP r k) with
  | true => rfl
  | false =>
    cases sameP (getP r i) (nxtP r i) with
    | true => rfl
    | false =>
      cases decide (k + 1 = i) with
      | true => rfl
      | false => cases decide ((i + 1) % r.length = k) <;> rfl
def ringD (r : List DPt) : Bool := (List.range r.length).all fun i => (List.range i).all fun k => apartD r k i
theorem okN (q : DPt) (h : Near q) : r71 (q, ()) = some (false, ()) := by
  unfold r71 r65
  have e : r70 ((q.1, (q.2.1, ())), ()) = some (q, ()) := clampN q h
  simp only [e, Option.bind_some, decide_true, Bool.and_self, Bool.not_true]
theorem far_none (r : List DPt) (hr : NearL r) (hl : r.length ≤ 200) : r63_71 (r, ((), ())) = some (false, ()) := by
  unfold r63_71
  have key : r69_71 (r, ((), ())) = some (-1, ()) := by
    unfold r69_71
    refine loop_is (fun (i : Int) (_ : Unit) => ((i, ()), ())) r.length (fun i => ()) (fun _ => Sum.inr (Sum.inl ((), ()))) (fun i hi => ?_) ?_ ?_ () rfl
    · have e : r71 (((getP r i).1, ((getP r i).2.1, ())), ()) = some (false, ()) := okN _ (near_get hr hi)
      simp only [dec_lt hi, inB_lt hi, Int.toNat_natCast, getP_some hi, cond_true, Option.bind_some, e, cond_false]
      rw [wrapS hi (by omega)]
    · simp only [dec_nlt, cond_false]
    · rfl
  exact bind_of key rfl
theorem ring_zero (r : List DPt) (hr : NearL r) (h3 : 3 ≤ r.length) (hl : r.length ≤ 200) (h : ringD r = true) : r66 (r, ()) = some (0, ()) := by
  unfold r66
  have e1 : decide ((200 : Int) < (r.length : Int)) = false := decide_eq_false (by omega)
  have e2 : decide ((r.length : Int) < 3) = false := decide_eq_false (by omega)
  simp only [e1, e2, cond_false, far_none r hr hl, Option.bind_some]
  refine loop_is (fun (i : Int) (_ : Unit) => ((i, ()), ())) r.length (fun i => ()) (fun _ => Sum.inr (Sum.inl ((), ()))) (fun i hi => ?_) ?_ ?_ () rfl
  · simp only [dec_lt hi, cond_true]
    refine loop_is (fun (i : Int) (_ : Unit) => ((i, ()), ())) i (fun i => ()) (fun _ => Sum.inr (Sum.inl ((), ()))) (fun k hk => ?_) ?_ ?_ () rfl
    · have ha : apartD r k i = true := by
        unfold ringD at h
        rw [List.all_eq_true] at h
        have := h i (List.mem_range.2 hi)
        rw [List.all_eq_true] at this
        exact this k (List.mem_range.2 hk)
      have e3 := apart_eq r k i (by omega) hi hr hl
      rw [ha] at e3
      simp only [dec_lt hk, cond_true, e3, Option.bind_some, Bool.not_true, cond_false]
      rw [wrapS hk (by omega)]
    · simp only [dec_nlt, cond_false]
    · simp only [sumE]
      rw [wrapS hi (by omega)]
  · simp only [dec_nlt, cond_false]
  · rfl
structure RingOk (r : List DPt) : Prop where
  near : NearL r
  min : 3 ≤ r.length
  max : r.length ≤ 200
  ok : ringD r = true
theorem area_zero (l : List (List DPt)) (hl : l.length ≤ 20) (hr : ∀ r ∈ l, RingOk r) (hf : ∀ (i j : Nat) r s, j < i → l[i]? = some r → l[j]? = some s → fitsD r s = true) : r57 (l, ()) = some (0, ()) := by
  unfold r57
  have e1 : decide ((20 : Int) < (l.length : Int)) = false := decide_eq_false (by omega)
  simp only [e1, cond_false]
  refine loop_is (fun (i : Int) (_ : Unit) => ((i, ()), ())) l.length (fun i => ()) (fun _ => Sum.inr (Sum.inl ((), ()))) (fun i hi => ?_) ?_ ?_ () rfl
  · obtain ⟨r, hq⟩ := get_lt hi
    have hm := hr r (List.mem_of_getElem? hq)
    simp only [dec_lt hi, inB_lt hi, Int.toNat_natCast, hq, cond_true, Option.bind_some, ring_zero r hm.near hm.min hm.max hm.ok, decide_true, Bool.not_true, cond_false]
    rw [wrapS hi (by omega)]
  · simp only [dec_nlt, cond_false]
  · simp only [sumE]
    refine loop_is (fun (i : Int) (_ : Unit) => ((i, ()), ())) l.length (fun i => ()) (fun _ => Sum.inr (Sum.inl ((), ()))) (fun i hi => ?_) ?_ ?_ () rfl
    · obtain ⟨r, hq⟩ := get_lt hi
      have hm := hr r (List.mem_of_getElem? hq)
      have hu : upTo (i : Int) (l.length : Int) = true := by unfold upTo; simp; omega
      have ht : (l.take i).length = i := by rw [List.length_take]; omega
      simp only [dec_lt hi, inB_lt hi, Int.toNat_natCast, hq, cond_true, Option.bind_some, hu, ht]
      refine loop_is (fun (i : Int) (_ : Unit) => ((i, ()), ())) i (fun i => ()) (fun _ => Sum.inr (Sum.inl ((), ()))) (fun k hk => ?_) ?_ ?_ () rfl
      · obtain ⟨s, hs⟩ := get_lt (show k < l.length by omega)
        have hms := hr s (List.mem_of_getElem? hs)
        have hs2 : (l.take i)[k]? = some s := by rw [List.getElem?_take, if_pos hk, hs]
        have e5 := fits_eq r s hm.near hms.near hm.max hms.max (by have := hm.min; omega) (by have := hms.min; omega) (hf i k r s hk hq hs)
        simp only [dec_lt hk, inB_lt hk, Int.toNat_natCast, hs2, cond_true, Option.bind_some, e5, Bool.not_true, cond_false]
        rw [wrapS hk (by omega)]
      · simp only [dec_nlt, cond_false]
      · simp only [sumE]
        rw [wrapS hi (by omega)]
    · simp only [dec_nlt, cond_false]
    · rfl
end Go.Proofs.Ytgabpbnndikheaa.I

namespace Go.Proofs.Ytgabpbnndikheaa.I
open Go.RowKit
set_option linter.unusedVariables false
set_option linter.constructorNameAsVariable false
def tr (x y : Int) (p : DPt) : DPt := (p.1 + x, (p.2.1 + y, ()))
section
variable (x y : Int)
theorem sub_tr (a b c : Int) : a + c - (b + c) = a - b := by omega
theorem cross_tr (a b c : DPt) : crossD (tr x y a) (tr x y b) (tr x y c) = crossD a b c := by
  unfold crossD tr
  simp only [sub_tr]
theorem dot_tr (a b c : DPt) : dotD (tr x y a) (tr x y b) (tr x y c) = dotD a b c := by
  unfold dotD tr
  simp only [sub_tr]
theorem turn_tr (a b c : DPt) : turnD (tr x y a) (tr x y b) (tr x y c) = turnD a b c := by
  unfold turnD
  rw [cross_tr]
theorem on_tr (a b c : DPt) : onD (tr x y a) (tr x y b) (tr x y c) = onD a b c := by
  unfold onD
  rw [turn_tr, dot_tr]
theorem add_iff (a b c : Int) : (a + c = b + c) = (a = b) := by
  simp only [eq_iff_iff]
  omega
theorem same_tr (a b : DPt) : sameP (tr x y a) (tr x y b) = sameP a b := by
  unfold sameP tr
  simp only [add_iff]
theorem addD_tr (d : List DPt) (p q r : DPt) : addD (d.map (tr x y)) (tr x y p) (tr x y q) (tr x y r) = (addD d p q r).map (tr x y) := by
  unfold addD
  rw [on_tr]
  have e : (d.map (tr x y)).any (fun z => sameP z (tr x y p)) = d.any (fun z => sameP z p) := by
    rw [List.any_map]
    congr 1
    funext z
    exact same_tr x y z p
  rw [e]
  cases onD q r p with
  | false => rfl
  | true => cases d.any (fun z => sameP z p) <;> simp
theorem shared_tr (a b c d : DPt) : sharedD (tr x y a) (tr x y b) (tr x y c) (tr x y d) = (sharedD a b c d).map (tr x y) := by
  unfold sharedD
  have e0 : ([] : List DPt) = ([] : List DPt).map (tr x y) := rfl
  rw [e0, addD_tr, addD_tr, addD_tr, addD_tr]
  rfl
theorem meet_tr (a b c d : DPt) : meetD (tr x y a) (tr x y b) (tr x y c) (tr x y d) = meetD a b c d := by
  unfold meetD
  rw [turn_tr, turn_tr, turn_tr, turn_tr, shared_tr, List.length_map]
theorem corners_tr (a b c d : DPt) : cornersD (tr x y a) (tr x y b) (tr x y c) (tr x y d) = cornersD a b c d := by
  unfold cornersD
  rw [meet_tr, same_tr, same_tr, same_tr, same_tr]
theorem getP_tr {r : List DPt} {i : Nat} (h : i < r.length) : getP (r.map (tr x y)) i = tr x y (getP r i) := by
  unfold getP
  rw [List.getElem?_map, List.getElem?_eq_getElem h]
  rfl
theorem nxtP_tr {r : List DPt} {i : Nat} (h : i < r.length) : nxtP (r.map (tr x y)) i = tr x y (nxtP r i) := by
  unfold nxtP
  rw [List.length_map, getP_tr x y (nxt_lt h)]
theorem stepS_tr (px py v : Int) (c d : DPt) : stepS (px + 2 * x) (py + 2 * y) (tr x y c) (tr x y d) v = stepS px py c d v := by
  unfold stepS tr
  have l1 : ∀ a b c : Int, (a + c < b + c) = (a < b) := fun a b c => by simp only [eq_iff_iff]; omega
  have l2 : ∀ a b : Int, (2 * (a + y) < b + 2 * y) = (2 * a < b) := fun a b => by simp only [eq_iff_iff]; omega
  have l3 : ∀ a b : Int, (b + 2 * y ≤ 2 * (a + y)) = (b ≤ 2 * a) := fun a b => by simp only [eq_iff_iff]; omega
  have l4 : ∀ a b : Int, b + 2 * y - 2 * (a + y) = b - 2 * a := fun a b => by omega
  have l5 : ∀ a b : Int, b + 2 * x - 2 * (a + x) = b - 2 * a := fun a b => by omega
  simp only [l1, l2, l3, l4, l5, sub_tr]
theorem sideTo_tr (px py : Int) (s : List DPt) : ∀ n, n ≤ s.length → sideTo (px + 2 * x) (py + 2 * y) (s.map (tr x y)) n = sideTo px py s n
  | 0, _ => rfl
  | n + 1, h => by
    rw [sideTo_succ, sideTo_succ, sideTo_tr px py s n (by omega), getP_tr x y (by omega), nxtP_tr x y (by omega), stepS_tr]
theorem side_tr (r s : List DPt) (i : Nat) (h : i < r.length) : sideD (r.map (tr x y)) i (s.map (tr x y)) = sideD r i s := by
  unfold sideD
  rw [getP_tr x y h, nxtP_tr x y h, List.length_map]
  have e1 : (tr x y (getP r i)).1 + (tr x y (nxtP r i)).1 = (getP r i).1 + (nxtP r i).1 + 2 * x := by unfold tr; simp only; omega
  have e2 : (tr x y (getP r i)).2.1 + (tr x y (nxtP r i)).2.1 = (getP r i).2.1 + (nxtP r i).2.1 + 2 * y := by unfold tr; simp only; omega
  rw [e1, e2, sideTo_tr x y _ _ s s.length (Nat.le_refl _)]
theorem all_congr' {n : Nat} {f g : Nat → Bool} (h : ∀ i, i < n → f i = g i) : (List.range n).all f = (List.range n).all g := by
  rw [Bool.eq_iff_iff, List.all_eq_true, List.all_eq_true]
  constructor
  · intro k i hi; rw [← h i (List.mem_range.1 hi)]; exact k i hi
  · intro k i hi; rw [h i (List.mem_range.1 hi)]; exact k i hi
theorem sidesOne_tr (r s : List DPt) : sidesOne (r.map (tr x y)) (s.map (tr x y)) = sidesOne r s := by
  unfold sidesOne
  rw [List.length_map]
  exact all_congr' fun i hi => by rw [side_tr x y r s i hi, side_tr x y r s 0 (by omega)]
theorem fits_tr (r s : List DPt) : fitsD (r.map (tr x y)) (s.map (tr x y)) = fitsD r s := by
  unfold fitsD
  rw [sidesOne_tr, sidesOne_tr, List.length_map, List.length_map]
  congr 1
  exact all_congr' fun i hi => all_congr' fun k hk => by rw [getP_tr x y hi, nxtP_tr x y hi, getP_tr x y hk, nxtP_tr x y hk, corners_tr]
theorem apart_tr (r : List DPt) (k i : Nat) (hk : k < r.length) (hi : i < r.length) : apartD (r.map (tr x y)) k i = apartD r k i := by
  unfold apartD
  rw [getP_tr x y hi, nxtP_tr x y hi, getP_tr x y hk, nxtP_tr x y hk, same_tr, same_tr, meet_tr, List.length_map]
theorem ring_tr (r : List DPt) : ringD (r.map (tr x y)) = ringD r := by
  unfold ringD
  rw [List.length_map]
  exact all_congr' fun i hi => all_congr' fun k hk => apart_tr x y r k i (by omega) hi
end
def sqA (x y r : Int) : List DPt := [(x - r, (y - r, ())), (x + r, (y - r, ())), (x + r, (y + r, ())), (x - r, (y + r, ()))]
def hoA (x y r : Int) : List DPt := [(x - r, (y - r, ())), (x - r, (y + r, ())), (x + r, (y + r, ())), (x + r, (y - r, ()))]
theorem sq_tr (x y a b r : Int) : sqA (a + x) (b + y) r = (sqA a b r).map (tr x y) := by
  unfold sqA tr
  simp only [List.map_cons, List.map_nil]
  have e1 : a + x - r = a - r + x := by omega
  have e2 : a + x + r = a + r + x := by omega
  have e3 : b + y - r = b - r + y := by omega
  have e4 : b + y + r = b + r + y := by omega
  rw [e1, e2, e3, e4]
theorem ho_tr (x y a b r : Int) : hoA (a + x) (b + y) r = (hoA a b r).map (tr x y) := by
  unfold hoA tr
  simp only [List.map_cons, List.map_nil]
  have e1 : a + x - r = a - r + x := by omega
  have e2 : a + x + r = a + r + x := by omega
  have e3 : b + y - r = b - r + y := by omega
  have e4 : b + y + r = b + r + y := by omega
  rw [e1, e2, e3, e4]
theorem all16 {f : Nat → Bool} (h : (List.range 16).all f = true) {i : Nat} (hi : i < 16) : f i = true := by
  rw [List.all_eq_true] at h
  exact h i (List.mem_range.2 hi)
theorem sq_rings : ((List.range 16).all fun r => decide (r = 0) || (ringD (sqA 0 0 (r : Int)) && ringD (hoA 0 0 (r : Int)))) = true := by decide +kernel
theorem sq_fits : ((List.range 16).all fun r => (List.range 16).all fun k => decide (k = 0) || (decide (r ≤ k + 1) || (fitsD (hoA 0 0 (k : Int)) (sqA 0 0 (r : Int)) && (fitsD (sqA 0 0 (k : Int)) (sqA 0 0 (r : Int)) && fitsD (sqA 0 0 (k : Int)) (hoA 0 0 (r : Int)))))) = true := by decide +kernel
theorem sq_beside : ((List.range 16).all fun r => (List.range 16).all fun t => decide (r = 0) || (decide (2 < t) || fitsD (sqA ((r : Int) + 3 + (t : Int)) 0 2) (sqA 0 0 (r : Int)))) = true := by decide +kernel
theorem sq_ring (x y r : Int) (h : 1 ≤ r ∧ r ≤ 15) : ringD (sqA x y r) = true := by
  have e := sq_tr x y 0 0 r
  rw [Int.zero_add, Int.zero_add] at e
  rw [e, ring_tr]
  obtain ⟨n, rfl⟩ : ∃ n : Nat, r = n := ⟨r.toNat, by omega⟩
  have := all16 sq_rings (i := n) (by omega)
  rw [decide_eq_false (show ¬ n = 0 by omega)] at this
  simp only [Bool.false_or, Bool.and_eq_true] at this
  exact this.1
theorem ho_ring (x y r : Int) (h : 1 ≤ r ∧ r ≤ 15) : ringD (hoA x y r) = true := by
  have e := ho_tr x y 0 0 r
  rw [Int.zero_add, Int.zero_add] at e
  rw [e, ring_tr]
  obtain ⟨n, rfl⟩ : ∃ n : Nat, r = n := ⟨r.toNat, by omega⟩
  have := all16 sq_rings (i := n) (by omega)
  rw [decide_eq_false (show ¬ n = 0 by omega)] at this
  simp only [Bool.false_or, Bool.and_eq_true] at this
  exact this.2
theorem fit3 (x y r k : Int) (h : 1 ≤ k ∧ k + 2 ≤ r ∧ r ≤ 15) : fitsD (hoA x y k) (sqA x y r) = true ∧ fitsD (sqA x y k) (sqA x y r) = true ∧ fitsD (sqA x y k) (hoA x y r) = true := by
  have e1 := sq_tr x y 0 0 r
  have e2 := sq_tr x y 0 0 k
  have e3 := ho_tr x y 0 0 r
  have e4 := ho_tr x y 0 0 k
  rw [Int.zero_add, Int.zero_add] at e1 e2 e3 e4
  rw [e1, e2, e3, e4, fits_tr, fits_tr, fits_tr]
  obtain ⟨n, rfl⟩ : ∃ n : Nat, r = n := ⟨r.toNat, by omega⟩
  obtain ⟨m, rfl⟩ : ∃ m : Nat, k = m := ⟨k.toNat, by omega⟩
  have := all16 (all16 sq_fits (i := n) (by omega)) (i := m) (by omega)
  rw [decide_eq_false (show ¬ m = 0 by omega), decide_eq_false (show ¬ n ≤ m + 1 by omega)] at this
  simp only [Bool.false_or, Bool.and_eq_true] at this
  exact this
theorem fit_beside (x y r t : Int) (h : 1 ≤ r ∧ r ≤ 15) (ht : 0 ≤ t ∧ t ≤ 2) : fitsD (sqA (x + r + 3 + t) y 2) (sqA x y r) = true := by
  have e1 := sq_tr x y 0 0 r
  have e2 := sq_tr x y (r + 3 + t) 0 2
  rw [Int.zero_add] at e1 e2
  rw [Int.zero_add] at e1
  rw [show r + 3 + t + x = x + r + 3 + t by omega] at e2
  rw [e1, e2, fits_tr]
  obtain ⟨n, rfl⟩ : ∃ n : Nat, r = n := ⟨r.toNat, by omega⟩
  obtain ⟨m, rfl⟩ : ∃ m : Nat, t = m := ⟨t.toNat, by omega⟩
  have := all16 (all16 sq_beside (i := n) (by omega)) (i := m) (by omega)
  rw [decide_eq_false (show ¬ n = 0 by omega), decide_eq_false (show ¬ 2 < m by omega)] at this
  simpa only [Bool.false_or] using this
theorem sq_near (x y r : Int) (h : 0 ≤ r ∧ r ≤ 40) (hx : -100 ≤ x ∧ x ≤ 100) (hy : -100 ≤ y ∧ y ≤ 100) : NearL (sqA x y r) := by
  intro q hq
  unfold sqA at hq
  simp only [List.mem_cons, List.not_mem_nil, or_false] at hq
  rcases hq with rfl | rfl | rfl | rfl <;> (unfold Near; simp only; omega)
theorem ho_near (x y r : Int) (h : 0 ≤ r ∧ r ≤ 40) (hx : -100 ≤ x ∧ x ≤ 100) (hy : -100 ≤ y ∧ y ≤ 100) : NearL (hoA x y r) := by
  intro q hq
  unfold hoA at hq
  simp only [List.mem_cons, List.not_mem_nil, or_false] at hq
  rcases hq with rfl | rfl | rfl | rfl <;> (unfold Near; simp only; omega)
theorem sq_ok (x y r : Int) (h : 1 ≤ r ∧ r ≤ 15) (hx : -100 ≤ x ∧ x ≤ 100) (hy : -100 ≤ y ∧ y ≤ 100) : RingOk (sqA x y r) := ⟨sq_near x y r (by omega) hx hy, (show 3 ≤ 4 by decide), (show 4 ≤ 200 by decide), sq_ring x y r h⟩
theorem ho_ok (x y r : Int) (h : 1 ≤ r ∧ r ≤ 15) (hx : -100 ≤ x ∧ x ≤ 100) (hy : -100 ≤ y ∧ y ≤ 100) : RingOk (hoA x y r) := ⟨ho_near x y r (by omega) hx hy, (show 3 ≤ 4 by decide), (show 4 ≤ 200 by decide), ho_ring x y r h⟩
end Go.Proofs.Ytgabpbnndikheaa.I

namespace Go.Proofs.Ytgabpbnndikheaa.I
open Go.RowKit
set_option linter.unusedVariables false
set_option linter.constructorNameAsVariable false
theorem tmod_bd {x n : Int} (hn : 1 ≤ n) : -n < Int.tmod x n ∧ Int.tmod x n < n := by
  have h1 := Int.tmod_lt_of_pos x (show 0 < n by omega)
  have h2 := Int.lt_tmod_of_pos x (show 0 < n by omega)
  exact ⟨by omega, h1⟩
theorem below_ok (x n : Int) (hn : 1 ≤ n) (hm : n ≤ 1000000000) : Yl (r22 (x, (n, ()))) (fun y => ∃ v : Int, y = (v, ()) ∧ 0 ≤ v ∧ v < n) := by
  unfold r22
  dsimp only
  have h := tmod_bd (x := x) hn
  have h0 : ¬ (n = (0 : Int)) := by omega
  refine yl_false (decide_eq_false h0) (yl_cond (fun hb => ?_) (fun hb => ?_))
  · have hb := of_decide_eq_true hb
    exact yl_some ⟨_, by rw [wrap64 (by omega) (by omega)], by omega, by omega⟩
  · have hb := of_decide_eq_false hb
    exact yl_some ⟨_, rfl, by omega, by omega⟩
abbrev NextQ (n : Int) (d : List Int) : (Int × Unit) × List Int × Unit → Prop := fun y => ∃ (v : Int) (d' : List Int), y = ((v, ()), (d', ())) ∧ 0 ≤ v ∧ v < n ∧ d'.length ≤ d.length
theorem next_ok (n : Int) (d : List Int) (hn : 1 ≤ n) (hm : n ≤ 1000000000) : Yl (r40 (n, ()) (d, ())) (NextQ n d) := by
  unfold r40
  dsimp only
  refine yl_cond (fun hb => ?_) (fun hb => yl_cond (fun hc => ?_) (fun hc => ?_))
  · exact yl_some ⟨0, d, rfl, by omega, by omega, Nat.le_refl _⟩
  · exact yl_some ⟨0, d, rfl, by omega, by omega, Nat.le_refl _⟩
  · have hb := of_decide_eq_false hb
    have hl : 0 < d.length := by omega
    obtain ⟨x, hx⟩ := get_lt hl
    have hi : inB (0 : Int) d.length = true := inB_lt (i := 0) hl
    have hu : upTo (1 : Int) (d.length : Int) = true := by unfold upTo; simp; omega
    simp only [hi, cond_true, hx, Option.bind_some, hu]
    refine yl_bind (below_ok x n hn hm) (fun y hy => ?_)
    obtain ⟨v, rfl, h1, h2⟩ := hy
    exact yl_some ⟨v, d.drop 1, rfl, h1, h2, by rw [List.length_drop]; omega⟩
abbrev NearP (q : DPt) : Prop := (-40 ≤ q.1 ∧ q.1 ≤ 41) ∧ (-40 ≤ q.2.1 ∧ q.2.1 ≤ 41)
theorem point_ok (d : List Int) : Yl (r50 () (d, ())) (fun y => ∃ (q : DPt) (d' : List Int), y = ((q, ()), (d', ())) ∧ ((-40 ≤ q.1 ∧ q.1 ≤ 40) ∧ (-40 ≤ q.2.1 ∧ q.2.1 ≤ 40)) ∧ d'.length ≤ d.length) := by
  unfold r50
  refine yl_bind (next_ok 81 d (by omega) (by omega)) (fun y hy => ?_)
  obtain ⟨a, d1, rfl, h1, h2, h3⟩ := hy
  refine yl_bind (next_ok 81 d1 (by omega) (by omega)) (fun y hy => ?_)
  obtain ⟨b, d2, rfl, h4, h5, h6⟩ := hy
  refine yl_some ⟨(a - 40, (b - 40, ())), d2, ?_, ⟨⟨by simp only; omega, by simp only; omega⟩, ⟨by simp only; omega, by simp only; omega⟩⟩, by omega⟩
  simp only
  rw [wrap64 (by omega) (by omega), wrap64 (by omega) (by omega)]
theorem adj_snoc : ∀ {l : List DPt} {q p : DPt}, adj l = false → l.getLast? = some q → ptEq q p = false → adj (l ++ [p]) = false
  | [], _, _, _, h, _ => by cases h
  | [a], q, p, _, h, hp => by
    simp only [List.getLast?_singleton, Option.some.injEq] at h
    subst h
    simp [adj, hp]
  | a :: b :: l, q, p, ha, h, hp => by
    simp only [adj, Bool.or_eq_false_iff] at ha
    have h' : (b :: l).getLast? = some q := by rw [← h]; rfl
    have := adj_snoc ha.2 h' hp
    simp only [List.cons_append, adj, Bool.or_eq_false_iff] at this ⊢
    exact ⟨ha.1, this⟩
/-- A made line. -/
structure LineOk (n : Int) (p : List DPt) : Prop where
  len : (p.length : Int) = n
  near : ∀ q ∈ p, NearP q
  adj : adj p = false
theorem line_ok (n : Int) (d : List Int) (hn : 2 ≤ n) (hm : n ≤ 100) : Yl (r51 (n, ()) (d, ())) (fun y => ∃ (p : List DPt) (d' : List Int), y = ((p, ()), (d', ())) ∧ LineOk n p ∧ d'.length ≤ d.length) := by
  unfold r51
  refine yl_bind (point_ok d) (fun y hy => ?_)
  obtain ⟨q0, d1, rfl, h1, h2⟩ := hy
  refine yl_bind (P := fun o => ∃ (p : List DPt) (d' : List Int), o = Sum.inl ((p, (d', ())), ()) ∧ LineOk n p ∧ d'.length ≤ d.length) (loop_rule (fun s : (List DPt × List Int × Unit) × Unit => (n - (s.1.1.length : Int)).toNat)
    (fun s => ∃ (p : List DPt) (e : List Int), s = ((p, (e, ())), ()) ∧ 1 ≤ p.length ∧ (p.length : Int) ≤ n ∧ (∀ q ∈ p, NearP q) ∧ adj p = false ∧ e.length ≤ d.length) _ ?_ _ ⟨[q0], d1, rfl, by simp, by simp; omega, fun q hq => ?_, rfl, h2⟩) (fun o ho => ?_)
  · rintro s ⟨p, e, rfl, hp1, hp2, hp3, hp4, he⟩
    by_cases hlt : (p.length : Int) < n
    · left
      have hd := decide_eq_true hlt
      obtain ⟨y, hy1, q, e', hy2, hq, he'⟩ := point_ok e
      subst hy2
      have hw : IntKind.wrap .i64 ((p.length : Int) - 1) = ((p.length - 1 : Nat) : Int) := by rw [wrap64 (by omega) (by omega)]; omega
      obtain ⟨z, hz⟩ := get_lt (show p.length - 1 < p.length by omega)
      have hlast : p.getLast? = some z := by rw [List.getLast?_eq_getElem?]; exact hz
      have hfit : ∀ x : DPt, fits (p.length + [x].length) 16 = true := fun x => by unfold fits; simp; omega
      simp only [hd, cond_true, hy1, Option.bind_some, hw, inB_lt (show p.length - 1 < p.length by omega), Int.toNat_natCast, hz]
      have hpt : (decide (q.1 = z.1) && decide (q.2.1 = z.2.1)) = ptEq q z := rfl
      rw [hpt]
      have hw1 : IntKind.wrap .i64 (q.1 + 1) = q.1 + 1 := wrap64 (by omega) (by omega)
      have mem : ∀ x : DPt, NearP x → ∀ u ∈ p ++ [x], NearP u := fun x hx u hu => by
        rcases List.mem_append.1 hu with h | h
        · exact hp3 u h
        · rw [List.mem_singleton.1 h]; exact hx
      have hlen : ∀ x : DPt, ((p ++ [x]).length : Int) = (p.length : Int) + 1 := fun x => by rw [List.length_append]; simp
      cases hc : ptEq q z with
      | true =>
        simp only [cond_true]
        have hf := hfit ((IntKind.wrap .i64 (q.1 + 1)), (q.2.1, ()))
        have hx : NearP (q.1 + 1, (q.2.1, ())) := by unfold NearP; simp only; omega
        have hne : ptEq z (q.1 + 1, (q.2.1, ())) = false := by
          unfold ptEq at hc ⊢
          simp only [Bool.and_eq_true, decide_eq_true_eq, Bool.and_eq_false_iff, decide_eq_false_iff_not] at hc ⊢
          omega
        simp only [hf, cond_true]
        refine ⟨_, rfl, ⟨p ++ [(q.1 + 1, (q.2.1, ()))], e', by rw [hw1], by have := hlen (q.1 + 1, (q.2.1, ())); omega, by rw [hlen]; omega, mem _ hx, adj_snoc hp4 hlast hne, by omega⟩, ?_⟩
        simp only [hw1, hlen]
        omega
      | false =>
        simp only [cond_false]
        have hf := hfit (q.1, (q.2.1, ()))
        have hx : NearP q := by unfold NearP; omega
        have hne : ptEq z q = false := by rw [ptEq_comm]; exact hc
        simp only [hf, cond_true]
        refine ⟨_, rfl, ⟨p ++ [q], e', rfl, by have := hlen q; omega, by rw [hlen]; omega, mem _ hx, adj_snoc hp4 hlast hne, by omega⟩, ?_⟩
        have := hlen (q.1, (q.2.1, ()))
        simp only [this]
        omega
    · right
      have hd := decide_eq_false hlt
      refine ⟨_, by simp only [hd, cond_false], p, e, rfl, ⟨by omega, hp3, hp4⟩, he⟩
  · rw [List.mem_singleton.1 hq]
    unfold NearP
    omega
  · obtain ⟨p, d', rfl, h3, h4⟩ := ho
    exact yl_some ⟨p, d', rfl, h3, h4⟩
theorem square_eq (x y r : Int) (h : 0 ≤ r ∧ r ≤ 100) (hx : -1000 ≤ x ∧ x ≤ 1000) (hy : -1000 ≤ y ∧ y ≤ 1000) : r60 (x, (y, (r, ()))) = some (sqA x y r, ()) := by
  unfold r60 sqA
  simp only
  rw [wrap64 (n := x - r) (by omega) (by omega), wrap64 (n := y - r) (by omega) (by omega), wrap64 (n := x + r) (by omega) (by omega), wrap64 (n := y + r) (by omega) (by omega)]
theorem hole_eq (x y r : Int) (h : 0 ≤ r ∧ r ≤ 100) (hx : -1000 ≤ x ∧ x ≤ 1000) (hy : -1000 ≤ y ∧ y ≤ 1000) : r61 (x, (y, (r, ()))) = some (hoA x y r, ()) := by
  unfold r61 hoA
  simp only
  rw [wrap64 (n := x - r) (by omega) (by omega), wrap64 (n := y - r) (by omega) (by omega), wrap64 (n := x + r) (by omega) (by omega), wrap64 (n := y + r) (by omega) (by omega)]
structure AreaOk (l : List (List DPt)) : Prop where
  ok : r57 (l, ()) = some (0, ())
  len : 1 ≤ l.length ∧ l.length ≤ 3
  rings : ∀ p ∈ l, RingOk p
theorem areaOk_one {a : List DPt} (ha : RingOk a) : AreaOk [a] :=
  ⟨area_zero [a] (by simp) (fun r hr => by rw [List.mem_singleton.1 hr]; exact ha) (fun i j r s hij hr hs => by have := lt_of_get hr; simp at this; omega), by simp, fun p hp => by rw [List.mem_singleton.1 hp]; exact ha⟩
theorem areaOk_two {a b : List DPt} (ha : RingOk a) (hb : RingOk b) (h : fitsD b a = true) : AreaOk [a, b] := by
  have hall : ∀ p ∈ [a, b], RingOk p := fun p hp => by
    simp only [List.mem_cons, List.not_mem_nil, or_false] at hp
    rcases hp with rfl | rfl <;> assumption
  refine ⟨area_zero [a, b] (by simp) hall (fun i j r s hij hr hs => ?_), by simp, hall⟩
  have h1 := lt_of_get hr
  simp only [List.length_cons, List.length_nil] at h1
  have e1 : i = 1 := by omega
  have e2 : j = 0 := by omega
  subst e1 e2
  simp at hr hs
  subst hr hs
  exact h
theorem areaOk_three {a b c : List DPt} (ha : RingOk a) (hb : RingOk b) (hc : RingOk c) (h1 : fitsD b a = true) (h2 : fitsD c a = true) (h3 : fitsD c b = true) : AreaOk [a, b, c] := by
  have hall : ∀ p ∈ [a, b, c], RingOk p := fun p hp => by
    simp only [List.mem_cons, List.not_mem_nil, or_false] at hp
    rcases hp with rfl | rfl | rfl <;> assumption
  refine ⟨area_zero [a, b, c] (by simp) hall (fun i j r s hij hr hs => ?_), by simp, hall⟩
  have hl := lt_of_get hr
  simp only [List.length_cons, List.length_nil] at hl
  have : (i = 1 ∧ j = 0) ∨ (i = 2 ∧ j = 0) ∨ (i = 2 ∧ j = 1) := by omega
  rcases this with ⟨rfl, rfl⟩ | ⟨rfl, rfl⟩ | ⟨rfl, rfl⟩ <;> simp at hr hs <;> subst hr hs <;> assumption
theorem len4 {l : List (List DPt)} (h : ∀ p ∈ l, p.length = 4) : ∀ p ∈ l, p.length ≤ 5 := fun p hp => by have := h p hp; omega
theorem area_ok (d : List Int) : Yl (r52 (d, ())) (fun y => ∃ l, y = (l, ()) ∧ AreaOk l ∧ ∀ p ∈ l, p.length ≤ 5) := by
  unfold r52
  refine yl_bind (next_ok 30 d (by omega) (by omega)) (fun y hy => ?_)
  obtain ⟨x, d1, rfl, x1, x2, _⟩ := hy
  refine yl_bind (next_ok 30 d1 (by omega) (by omega)) (fun y hy => ?_)
  obtain ⟨y, d2, rfl, y1, y2, _⟩ := hy
  refine yl_bind (next_ok 10 d2 (by omega) (by omega)) (fun y hy => ?_)
  obtain ⟨r, d3, rfl, r1, r2, _⟩ := hy
  have wx : IntKind.wrap .i64 (x - 15) = x - 15 := wrap64 (by omega) (by omega)
  have wy : IntKind.wrap .i64 (y - 15) = y - 15 := wrap64 (by omega) (by omega)
  have wr : IntKind.wrap .i64 (6 + r) = 6 + r := wrap64 (by omega) (by omega)
  have wr2 : IntKind.wrap .i64 (6 + r - 2) = 6 + r - 2 := wrap64 (by omega) (by omega)
  have wr4 : IntKind.wrap .i64 (6 + r - 4) = 6 + r - 4 := wrap64 (by omega) (by omega)
  simp only [wx, wy, wr, wr2, wr4]
  have s0 := sq_ok (x - 15) (y - 15) (6 + r) (by omega) (by omega) (by omega)
  refine yl_bind (yl_eq (square_eq (x - 15) (y - 15) (6 + r) (by omega) (by omega) (by omega))) (fun a ha => ?_)
  subst ha
  refine yl_bind (next_ok 4 d3 (by omega) (by omega)) (fun y hy => ?_)
  obtain ⟨k, d4, rfl, k1, k2, _⟩ := hy
  refine yl_cond (fun hb => ?_) (fun hb => yl_cond (fun hb2 => ?_) (fun hb2 => yl_cond (fun hb3 => ?_) (fun hb3 => ?_)))
  · refine yl_bind (next_ok (6 + r - 2) d4 (by omega) (by omega)) (fun y hy => ?_)
    obtain ⟨m, d5, rfl, m1, m2, _⟩ := hy
    have wm : IntKind.wrap .i64 (1 + m) = 1 + m := wrap64 (by omega) (by omega)
    simp only [wm]
    have h0 := ho_ok (x - 15) (y - 15) (1 + m) (by omega) (by omega) (by omega)
    refine yl_bind (yl_eq (hole_eq (x - 15) (y - 15) (1 + m) (by omega) (by omega) (by omega))) (fun b hb => ?_)
    subst hb
    exact yl_some ⟨_, rfl, areaOk_two s0 h0 (fit3 (x - 15) (y - 15) (6 + r) (1 + m) (by omega)).1, len4 (by simp [sqA, hoA])⟩
  · refine yl_bind (next_ok (6 + r - 4) d4 (by omega) (by omega)) (fun y hy => ?_)
    obtain ⟨m, d5, rfl, m1, m2, _⟩ := hy
    have wm : IntKind.wrap .i64 (3 + m) = 3 + m := wrap64 (by omega) (by omega)
    have wm2 : IntKind.wrap .i64 (3 + m - 2) = 3 + m - 2 := wrap64 (by omega) (by omega)
    simp only [wm, wm2]
    have h0 := ho_ok (x - 15) (y - 15) (3 + m) (by omega) (by omega) (by omega)
    refine yl_bind (yl_eq (hole_eq (x - 15) (y - 15) (3 + m) (by omega) (by omega) (by omega))) (fun b hb => ?_)
    subst hb
    refine yl_bind (next_ok (3 + m - 2) d5 (by omega) (by omega)) (fun y hy => ?_)
    obtain ⟨j, d6, rfl, j1, j2, _⟩ := hy
    have wj : IntKind.wrap .i64 (1 + j) = 1 + j := wrap64 (by omega) (by omega)
    simp only [wj]
    have t0 := sq_ok (x - 15) (y - 15) (1 + j) (by omega) (by omega) (by omega)
    refine yl_bind (yl_eq (square_eq (x - 15) (y - 15) (1 + j) (by omega) (by omega) (by omega))) (fun c hc => ?_)
    subst hc
    exact yl_some ⟨_, rfl, areaOk_three s0 h0 t0 (fit3 (x - 15) (y - 15) (6 + r) (3 + m) (by omega)).1 (fit3 (x - 15) (y - 15) (6 + r) (1 + j) (by omega)).2.1 (fit3 (x - 15) (y - 15) (3 + m) (1 + j) (by omega)).2.2, len4 (by simp [sqA, hoA])⟩
  · refine yl_bind (next_ok 3 d4 (by omega) (by omega)) (fun y hy => ?_)
    obtain ⟨t, d5, rfl, t1, t2, _⟩ := hy
    have w1 : IntKind.wrap .i64 (x - 15 + (6 + r)) = x - 15 + (6 + r) := wrap64 (by omega) (by omega)
    have w2 : IntKind.wrap .i64 (x - 15 + (6 + r) + 3) = x - 15 + (6 + r) + 3 := wrap64 (by omega) (by omega)
    have w3 : IntKind.wrap .i64 (x - 15 + (6 + r) + 3 + t) = x - 15 + (6 + r) + 3 + t := wrap64 (by omega) (by omega)
    simp only [w1, w2, w3]
    have t0 := sq_ok (x - 15 + (6 + r) + 3 + t) (y - 15) 2 (by omega) (by omega) (by omega)
    refine yl_bind (yl_eq (square_eq (x - 15 + (6 + r) + 3 + t) (y - 15) 2 (by omega) (by omega) (by omega))) (fun c hc => ?_)
    subst hc
    exact yl_some ⟨_, rfl, areaOk_two s0 t0 (fit_beside (x - 15) (y - 15) (6 + r) t (by omega) (by omega)), len4 (by simp [sqA])⟩
  · exact yl_some ⟨_, rfl, areaOk_one s0, len4 (by simp [sqA])⟩
end Go.Proofs.Ytgabpbnndikheaa.I

namespace Go.Proofs.Ytgabpbnndikheaa.I
open Go.RowKit
set_option linter.unusedVariables false
set_option linter.constructorNameAsVariable false
theorem wf_of {n : Int} (h : -9223372036854775808 ≤ n ∧ n ≤ 9223372036854775807) : small (.int .i64) n := by
  show (Lit.int .i64 n).wf = true
  unfold Lit.wf
  first
    | (have e := wrap64 h.1 h.2; rw [e]; simp; done)
    | (have e := wrap64 h.1 h.2; simp [e]; done)
    | (simp [IntKind.min, IntKind.max, IntKind.signed, IntKind.bits]; omega)
def GoodS (s : ByteArray) : Prop := s.size ≤ 40 ∧ s.data.toList.all okB = true
def AttAsc : ByteArray → List DAtt → Prop
  | _, [] => True
  | p, a :: l => nameOk a.1 = true ∧ strLt p a.1 = true ∧ checkV a.2.1 = 0 ∧ a.2.1.1 ≠ 0 ∧ small kAtt a ∧ AttAsc a.1 l
theorem asc_scan : ∀ {l : List DAtt} {p : ByteArray}, AttAsc p l → scan (attF false) (fun a => a.1) 0 p l = 0
  | [], _, _ => rfl
  | a :: l, p, ⟨h1, h2, h3, h4, _, h5⟩ => by
    have e : attF false p a = none := by
      unfold attF
      simp [h1, h2, h3, h4]
    simp only [scan, e]
    exact asc_scan h5
theorem asc_small : ∀ {l : List DAtt} {p : ByteArray}, AttAsc p l → ∀ a ∈ l, small kAtt a
  | a :: l, p, ⟨_, _, _, _, h, h5⟩, b, hb => by
    rcases List.mem_cons.1 hb with rfl | hb
    · exact h
    · exact asc_small h5 b hb
structure AttsOk (l : List DAtt) : Prop where
  ok : attrsE false l = 0
  sm : ∀ a ∈ l, small kAtt a
  len : l.length ≤ 4
abbrev noS : ByteArray := ⟨List.toArray []⟩
theorem atts_of {l : List DAtt} (h : AttAsc noS l) (hl : l.length ≤ 4) : AttsOk l := ⟨by
  unfold attrsE
  rw [if_neg (by omega)]
  exact asc_scan h, asc_small h, hl⟩
abbrev kHeight : ByteArray := ⟨List.toArray [104, 101, 105, 103, 104, 116]⟩
abbrev kKind : ByteArray := ⟨List.toArray [107, 105, 110, 100]⟩
abbrev kName : ByteArray := ⟨List.toArray [110, 97, 109, 101]⟩
abbrev kOpen : ByteArray := ⟨List.toArray [111, 112, 101, 110]⟩
theorem sm_str {s : ByteArray} (h : s.size ≤ 1000) : small .str s := by
  show s.size ≤ maxLen
  unfold maxLen
  omega
theorem no_size : (noS).size = 0 := rfl
theorem check_num {n : Int} (h : -1000000000000 ≤ n ∧ n ≤ 1000000000000) : checkV ((1 : Int), (n, (noS, (false, ())))) = 0 := by
  unfold checkV
  have k1 : ¬ (n < -1000000000000) := by omega
  have k2 : ¬ (1000000000000 < n) := by omega
  have e1 : ¬ (40 < ((noS).size : Int)) := by rw [no_size]; omega
  simp [k1, k2, no_size]
theorem check_txt {s : ByteArray} (h : GoodS s) : checkV ((2 : Int), ((0 : Int), (s, (false, ())))) = 0 := by
  unfold checkV
  have k1 : ¬ (40 < (s.size : Int)) := by have := h.1; omega
  have k2 : s.data.toList.all okB = true := h.2
  simp only [k2, k1]
  simp
theorem check_bool (b : Bool) : checkV ((3 : Int), ((0 : Int), (noS, (b, ())))) = 0 := by
  unfold checkV
  simp [no_size]
theorem sm_no : small .str noS := sm_str (by rw [no_size]; omega)
theorem wf0 : small (.int .i64) (0 : Int) := wf_of (by omega)
theorem wf1 : small (.int .i64) (1 : Int) := wf_of (by omega)
theorem wf2 : small (.int .i64) (2 : Int) := wf_of (by omega)
theorem wf3 : small (.int .i64) (3 : Int) := wf_of (by omega)
theorem nm0 : nameOk kHeight = true := by decide +kernel
theorem nm1 : nameOk kKind = true := by decide +kernel
theorem nm2 : nameOk kName = true := by decide +kernel
theorem nm3 : nameOk kOpen = true := by decide +kernel
theorem asc_height {n : Int} {p : ByteArray} {l : List DAtt} (h : -1000 ≤ n ∧ n ≤ 1000) (hp : strLt p kHeight = true) (hl : AttAsc kHeight l) : AttAsc p ((kHeight, (((1 : Int), (n, (noS, (false, ())))), ())) :: l) :=
  ⟨nm0, hp, check_num (by omega), (show (1 : Int) ≠ 0 by omega), ⟨sm_str (show 6 ≤ 1000 by omega), ⟨wf1, wf_of (n := n) (by omega), sm_no, trivial, trivial⟩, trivial⟩, hl⟩
theorem asc_kind {s p : ByteArray} {l : List DAtt} (h : GoodS s) (hp : strLt p kKind = true) (hl : AttAsc kKind l) : AttAsc p ((kKind, (((2 : Int), ((0 : Int), (s, (false, ())))), ())) :: l) :=
  ⟨nm1, hp, check_txt h, (show (2 : Int) ≠ 0 by omega), ⟨sm_str (show 4 ≤ 1000 by omega), ⟨wf2, wf0, sm_str (s := s) (by have := h.1; omega), trivial, trivial⟩, trivial⟩, hl⟩
theorem asc_name {s p : ByteArray} {l : List DAtt} (h : GoodS s) (hp : strLt p kName = true) (hl : AttAsc kName l) : AttAsc p ((kName, (((2 : Int), ((0 : Int), (s, (false, ())))), ())) :: l) :=
  ⟨nm2, hp, check_txt h, (show (2 : Int) ≠ 0 by omega), ⟨sm_str (show 4 ≤ 1000 by omega), ⟨wf2, wf0, sm_str (s := s) (by have := h.1; omega), trivial, trivial⟩, trivial⟩, hl⟩
theorem asc_open {b : Bool} {p : ByteArray} {l : List DAtt} (hp : strLt p kOpen = true) (hl : AttAsc kOpen l) : AttAsc p ((kOpen, (((3 : Int), ((0 : Int), (noS, (b, ())))), ())) :: l) :=
  ⟨nm3, hp, check_bool b, (show (3 : Int) ≠ 0 by omega), ⟨sm_str (show 4 ≤ 1000 by omega), ⟨wf3, wf0, sm_no, trivial, trivial⟩, trivial⟩, hl⟩
theorem lt00 : strLt noS kHeight = true := by decide +kernel
theorem lt01 : strLt noS kKind = true := by decide +kernel
theorem lt02 : strLt noS kName = true := by decide +kernel
theorem lt03 : strLt noS kOpen = true := by decide +kernel
theorem lt11 : strLt kHeight kKind = true := by decide +kernel
theorem lt12 : strLt kHeight kName = true := by decide +kernel
theorem lt13 : strLt kHeight kOpen = true := by decide +kernel
theorem lt22 : strLt kKind kName = true := by decide +kernel
theorem lt23 : strLt kKind kOpen = true := by decide +kernel
theorem lt33 : strLt kName kOpen = true := by decide +kernel
/-- What one makes of the four that are drawn. -/
def attsL (a : Option Int) (b c : Option ByteArray) (e : Option Bool) : List DAtt :=
  (match a with | some n => [(kHeight, (((1 : Int), (n, (noS, (false, ())))), ()))] | none => []) ++ ((match b with | some s => [(kKind, (((2 : Int), ((0 : Int), (s, (false, ())))), ()))] | none => []) ++
    ((match c with | some s => [(kName, (((2 : Int), ((0 : Int), (s, (false, ())))), ()))] | none => []) ++ (match e with | some b => [(kOpen, (((3 : Int), ((0 : Int), (noS, (b, ())))), ()))] | none => [])))
theorem attsL_ok (a : Option Int) (b c : Option ByteArray) (e : Option Bool) (ha : ∀ n, a = some n → -1000 ≤ n ∧ n ≤ 1000) (hb : ∀ s, b = some s → GoodS s) (hc : ∀ s, c = some s → GoodS s) : AttsOk (attsL a b c e) := by
  cases a with
  | none =>
    cases b with
    | none =>
      cases c with
      | none =>
        cases e with
        | none => exact atts_of trivial (show 0 ≤ 4 by omega)
        | some e => exact atts_of (asc_open lt03 trivial) (show 1 ≤ 4 by omega)
      | some c =>
        cases e with
        | none => exact atts_of (asc_name (hc c rfl) lt02 trivial) (show 1 ≤ 4 by omega)
        | some e => exact atts_of (asc_name (hc c rfl) lt02 (asc_open lt33 trivial)) (show 2 ≤ 4 by omega)
    | some b =>
      cases c with
      | none =>
        cases e with
        | none => exact atts_of (asc_kind (hb b rfl) lt01 trivial) (show 1 ≤ 4 by omega)
        | some e => exact atts_of (asc_kind (hb b rfl) lt01 (asc_open lt23 trivial)) (show 2 ≤ 4 by omega)
      | some c =>
        cases e with
        | none => exact atts_of (asc_kind (hb b rfl) lt01 (asc_name (hc c rfl) lt22 trivial)) (show 2 ≤ 4 by omega)
        | some e => exact atts_of (asc_kind (hb b rfl) lt01 (asc_name (hc c rfl) lt22 (asc_open lt33 trivial))) (show 3 ≤ 4 by omega)
  | some a =>
    have h := ha a rfl
    cases b with
    | none =>
      cases c with
      | none =>
        cases e with
        | none => exact atts_of (asc_height h lt00 trivial) (show 1 ≤ 4 by omega)
        | some e => exact atts_of (asc_height h lt00 (asc_open lt13 trivial)) (show 2 ≤ 4 by omega)
      | some c =>
        cases e with
        | none => exact atts_of (asc_height h lt00 (asc_name (hc c rfl) lt12 trivial)) (show 2 ≤ 4 by omega)
        | some e => exact atts_of (asc_height h lt00 (asc_name (hc c rfl) lt12 (asc_open lt33 trivial))) (show 3 ≤ 4 by omega)
    | some b =>
      cases c with
      | none =>
        cases e with
        | none => exact atts_of (asc_height h lt00 (asc_kind (hb b rfl) lt11 trivial)) (show 2 ≤ 4 by omega)
        | some e => exact atts_of (asc_height h lt00 (asc_kind (hb b rfl) lt11 (asc_open lt23 trivial))) (show 3 ≤ 4 by omega)
      | some c =>
        cases e with
        | none => exact atts_of (asc_height h lt00 (asc_kind (hb b rfl) lt11 (asc_name (hc c rfl) lt22 trivial))) (show 3 ≤ 4 by omega)
        | some e => exact atts_of (asc_height h lt00 (asc_kind (hb b rfl) lt11 (asc_name (hc c rfl) lt22 (asc_open lt33 trivial)))) (show 4 ≤ 4 by omega)
abbrev txts1 : List ByteArray := [⟨List.toArray [114, 111, 97, 100]⟩, ⟨List.toArray [108, 97, 107, 101]⟩, ⟨List.toArray [119, 111, 111, 100]⟩, ⟨List.toArray []⟩]
abbrev txts2 : List ByteArray := [⟨List.toArray [65, 108, 100, 101, 114]⟩, ⟨List.toArray [66, 105, 114, 99, 104, 32, 72, 105, 108, 108]⟩, ⟨List.toArray [67, 111, 118, 101]⟩]
theorem good_dec {s : ByteArray} (h : (decide (s.size ≤ 40) && s.data.toList.all okB) = true) : GoodS s := by
  simp only [Bool.and_eq_true, decide_eq_true_eq] at h
  exact h
theorem txt_ok {T : List ByteArray} (hT : T.all (fun s => decide (s.size ≤ 40) && s.data.toList.all okB) = true) {i : Nat} (h : i < T.length) : Yl (T[i]?) GoodS := by
  obtain ⟨s, hs⟩ := get_lt h
  refine ⟨s, hs, good_dec ?_⟩
  rw [List.all_eq_true] at hT
  exact hT s (List.mem_of_getElem? hs)
theorem txt1_ok {v : Int} (h : 0 ≤ v ∧ v < 4) : Yl (txts1[Int.toNat v]?) GoodS := txt_ok (by decide +kernel) (by show _ < 4; omega)
theorem txt2_ok {v : Int} (h : 0 ≤ v ∧ v < 3) : Yl (txts2[Int.toNat v]?) GoodS := txt_ok (by decide +kernel) (by show _ < 3; omega)
theorem inB_ok {v : Int} {n : Nat} (h : 0 ≤ v ∧ v < (n : Int)) : inB v n = true := by unfold inB; simp; omega
theorem w5 {v : Int} (h : 0 ≤ v ∧ v < 50) : IntKind.wrap .i64 (v - 5) = v - 5 := wrap64 (by omega) (by omega)
set_option maxHeartbeats 4000000 in
set_option maxRecDepth 100000 in
theorem attrs_ok (d : List Int) : Yl (r53 () (d, ())) (fun y => ∃ (l : List DAtt) (d' : List Int), y = ((l, ()), (d', ())) ∧ AttsOk l ∧ d'.length ≤ d.length) := by
  unfold r53
  have leaf : ∀ (a : Option Int) (b c : Option ByteArray) (e : Option Bool) (d' : List Int), (∀ n, a = some n → -1000 ≤ n ∧ n ≤ 1000) → (∀ s, b = some s → GoodS s) → (∀ s, c = some s → GoodS s) → d'.length ≤ d.length → Yl (some ((attsL a b c e, ()), (d', ()))) (fun y : (List DAtt × Unit) × List Int × Unit => ∃ (l : List DAtt) (d' : List Int), y = ((l, ()), (d', ())) ∧ AttsOk l ∧ d'.length ≤ d.length) := fun a b c e d' h1 h2 h3 h4 => yl_some ⟨attsL a b c e, d', rfl, attsL_ok a b c e h1 h2 h3, h4⟩
  refine yl_bind (next_ok 3 d (by omega) (by omega)) (fun y hy => ?_)
  obtain ⟨v0, e0, rfl, _, _, l0⟩ := hy
  refine yl_cond (fun hb => ?_) (fun hb => ?_)
  · refine yl_bind (next_ok 50 e0 (by omega) (by omega)) (fun y hy => ?_)
    obtain ⟨v1, e1, rfl, m1, n1, l1⟩ := hy
    have w1 : IntKind.wrap .i64 (v1 - 5) = v1 - 5 := wrap64 (by omega) (by omega)
    refine yl_bind (next_ok 3 e1 (by omega) (by omega)) (fun y hy => ?_)
    obtain ⟨v2, e2, rfl, _, _, l2⟩ := hy
    refine yl_cond (fun hb => ?_) (fun hb => ?_)
    · refine yl_bind (next_ok 4 e2 (by omega) (by omega)) (fun y hy => ?_)
      obtain ⟨v3, e3, rfl, m3, n3, l3⟩ := hy
      refine yl_true (inB_ok (v := v3) (n := 4) ⟨m3, n3⟩) ?_
      refine yl_bind (txt1_ok (v := v3) ⟨m3, n3⟩) (fun s3 g3 => ?_)
      refine yl_bind (next_ok 3 e3 (by omega) (by omega)) (fun y hy => ?_)
      obtain ⟨v5, e5, rfl, _, _, l5⟩ := hy
      refine yl_cond (fun hb => ?_) (fun hb => ?_)
      · refine yl_bind (next_ok 3 e5 (by omega) (by omega)) (fun y hy => ?_)
        obtain ⟨v6, e6, rfl, m6, n6, l6⟩ := hy
        refine yl_true (inB_ok (v := v6) (n := 3) ⟨m6, n6⟩) ?_
        refine yl_bind (txt2_ok (v := v6) ⟨m6, n6⟩) (fun s6 g6 => ?_)
        refine yl_bind (next_ok 3 e6 (by omega) (by omega)) (fun y hy => ?_)
        obtain ⟨v8, e8, rfl, _, _, l8⟩ := hy
        refine yl_cond (fun hb => ?_) (fun hb => ?_)
        · refine yl_bind (next_ok 2 e8 (by omega) (by omega)) (fun y hy => ?_)
          obtain ⟨v9, e9, rfl, _, _, l9⟩ := hy
          exact leaf (some (IntKind.wrap .i64 (v1 - 5))) (some s3) (some s6) (some (decide (v9 = 1))) e9 (fun n hn => by rw [w1] at hn; injection hn with hn; omega) (fun s hs => by injection hs with hs; rw [← hs]; exact g3) (fun s hs => by injection hs with hs; rw [← hs]; exact g6) (by omega)
        · exact leaf (some (IntKind.wrap .i64 (v1 - 5))) (some s3) (some s6) none e8 (fun n hn => by rw [w1] at hn; injection hn with hn; omega) (fun s hs => by injection hs with hs; rw [← hs]; exact g3) (fun s hs => by injection hs with hs; rw [← hs]; exact g6) (by omega)
      · skip
        refine yl_bind (next_ok 3 e5 (by omega) (by omega)) (fun y hy => ?_)
        obtain ⟨v8, e8, rfl, _, _, l8⟩ := hy
        refine yl_cond (fun hb => ?_) (fun hb => ?_)
        · refine yl_bind (next_ok 2 e8 (by omega) (by omega)) (fun y hy => ?_)
          obtain ⟨v9, e9, rfl, _, _, l9⟩ := hy
          exact leaf (some (IntKind.wrap .i64 (v1 - 5))) (some s3) none (some (decide (v9 = 1))) e9 (fun n hn => by rw [w1] at hn; injection hn with hn; omega) (fun s hs => by injection hs with hs; rw [← hs]; exact g3) (fun s hs => by cases hs) (by omega)
        · exact leaf (some (IntKind.wrap .i64 (v1 - 5))) (some s3) none none e8 (fun n hn => by rw [w1] at hn; injection hn with hn; omega) (fun s hs => by injection hs with hs; rw [← hs]; exact g3) (fun s hs => by cases hs) (by omega)
    · skip
      refine yl_bind (next_ok 3 e2 (by omega) (by omega)) (fun y hy => ?_)
      obtain ⟨v5, e5, rfl, _, _, l5⟩ := hy
      refine yl_cond (fun hb => ?_) (fun hb => ?_)
      · refine yl_bind (next_ok 3 e5 (by omega) (by omega)) (fun y hy => ?_)
        obtain ⟨v6, e6, rfl, m6, n6, l6⟩ := hy
        refine yl_true (inB_ok (v := v6) (n := 3) ⟨m6, n6⟩) ?_
        refine yl_bind (txt2_ok (v := v6) ⟨m6, n6⟩) (fun s6 g6 => ?_)
        refine yl_bind (next_ok 3 e6 (by omega) (by omega)) (fun y hy => ?_)
        obtain ⟨v8, e8, rfl, _, _, l8⟩ := hy
        refine yl_cond (fun hb => ?_) (fun hb => ?_)
        · refine yl_bind (next_ok 2 e8 (by omega) (by omega)) (fun y hy => ?_)
          obtain ⟨v9, e9, rfl, _, _, l9⟩ := hy
          exact leaf (some (IntKind.wrap .i64 (v1 - 5))) none (some s6) (some (decide (v9 = 1))) e9 (fun n hn => by rw [w1] at hn; injection hn with hn; omega) (fun s hs => by cases hs) (fun s hs => by injection hs with hs; rw [← hs]; exact g6) (by omega)
        · exact leaf (some (IntKind.wrap .i64 (v1 - 5))) none (some s6) none e8 (fun n hn => by rw [w1] at hn; injection hn with hn; omega) (fun s hs => by cases hs) (fun s hs => by injection hs with hs; rw [← hs]; exact g6) (by omega)
      · skip
        refine yl_bind (next_ok 3 e5 (by omega) (by omega)) (fun y hy => ?_)
        obtain ⟨v8, e8, rfl, _, _, l8⟩ := hy
        refine yl_cond (fun hb => ?_) (fun hb => ?_)
        · refine yl_bind (next_ok 2 e8 (by omega) (by omega)) (fun y hy => ?_)
          obtain ⟨v9, e9, rfl, _, _, l9⟩ := hy
          exact leaf (some (IntKind.wrap .i64 (v1 - 5))) none none (some (decide (v9 = 1))) e9 (fun n hn => by rw [w1] at hn; injection hn with hn; omega) (fun s hs => by cases hs) (fun s hs => by cases hs) (by omega)
        · exact leaf (some (IntKind.wrap .i64 (v1 - 5))) none none none e8 (fun n hn => by rw [w1] at hn; injection hn with hn; omega) (fun s hs => by cases hs) (fun s hs => by cases hs) (by omega)
  · skip
    refine yl_bind (next_ok 3 e0 (by omega) (by omega)) (fun y hy => ?_)
    obtain ⟨v2, e2, rfl, _, _, l2⟩ := hy
    refine yl_cond (fun hb => ?_) (fun hb => ?_)
    · refine yl_bind (next_ok 4 e2 (by omega) (by omega)) (fun y hy => ?_)
      obtain ⟨v3, e3, rfl, m3, n3, l3⟩ := hy
      refine yl_true (inB_ok (v := v3) (n := 4) ⟨m3, n3⟩) ?_
      refine yl_bind (txt1_ok (v := v3) ⟨m3, n3⟩) (fun s3 g3 => ?_)
      refine yl_bind (next_ok 3 e3 (by omega) (by omega)) (fun y hy => ?_)
      obtain ⟨v5, e5, rfl, _, _, l5⟩ := hy
      refine yl_cond (fun hb => ?_) (fun hb => ?_)
      · refine yl_bind (next_ok 3 e5 (by omega) (by omega)) (fun y hy => ?_)
        obtain ⟨v6, e6, rfl, m6, n6, l6⟩ := hy
        refine yl_true (inB_ok (v := v6) (n := 3) ⟨m6, n6⟩) ?_
        refine yl_bind (txt2_ok (v := v6) ⟨m6, n6⟩) (fun s6 g6 => ?_)
        refine yl_bind (next_ok 3 e6 (by omega) (by omega)) (fun y hy => ?_)
        obtain ⟨v8, e8, rfl, _, _, l8⟩ := hy
        refine yl_cond (fun hb => ?_) (fun hb => ?_)
        · refine yl_bind (next_ok 2 e8 (by omega) (by omega)) (fun y hy => ?_)
          obtain ⟨v9, e9, rfl, _, _, l9⟩ := hy
          exact leaf none (some s3) (some s6) (some (decide (v9 = 1))) e9 (fun n hn => by cases hn) (fun s hs => by injection hs with hs; rw [← hs]; exact g3) (fun s hs => by injection hs with hs; rw [← hs]; exact g6) (by omega)
        · exact leaf none (some s3) (some s6) none e8 (fun n hn => by cases hn) (fun s hs => by injection hs with hs; rw [← hs]; exact g3) (fun s hs => by injection hs with hs; rw [← hs]; exact g6) (by omega)
      · skip
        refine yl_bind (next_ok 3 e5 (by omega) (by omega)) (fun y hy => ?_)
        obtain ⟨v8, e8, rfl, _, _, l8⟩ := hy
        refine yl_cond (fun hb => ?_) (fun hb => ?_)
        · refine yl_bind (next_ok 2 e8 (by omega) (by omega)) (fun y hy => ?_)
          obtain ⟨v9, e9, rfl, _, _, l9⟩ := hy
          exact leaf none (some s3) none (some (decide (v9 = 1))) e9 (fun n hn => by cases hn) (fun s hs => by injection hs with hs; rw [← hs]; exact g3) (fun s hs => by cases hs) (by omega)
        · exact leaf none (some s3) none none e8 (fun n hn => by cases hn) (fun s hs => by injection hs with hs; rw [← hs]; exact g3) (fun s hs => by cases hs) (by omega)
    · skip
      refine yl_bind (next_ok 3 e2 (by omega) (by omega)) (fun y hy => ?_)
      obtain ⟨v5, e5, rfl, _, _, l5⟩ := hy
      refine yl_cond (fun hb => ?_) (fun hb => ?_)
      · refine yl_bind (next_ok 3 e5 (by omega) (by omega)) (fun y hy => ?_)
        obtain ⟨v6, e6, rfl, m6, n6, l6⟩ := hy
        refine yl_true (inB_ok (v := v6) (n := 3) ⟨m6, n6⟩) ?_
        refine yl_bind (txt2_ok (v := v6) ⟨m6, n6⟩) (fun s6 g6 => ?_)
        refine yl_bind (next_ok 3 e6 (by omega) (by omega)) (fun y hy => ?_)
        obtain ⟨v8, e8, rfl, _, _, l8⟩ := hy
        refine yl_cond (fun hb => ?_) (fun hb => ?_)
        · refine yl_bind (next_ok 2 e8 (by omega) (by omega)) (fun y hy => ?_)
          obtain ⟨v9, e9, rfl, _, _, l9⟩ := hy
          exact leaf none none (some s6) (some (decide (v9 = 1))) e9 (fun n hn => by cases hn) (fun s hs => by cases hs) (fun s hs => by injection hs with hs; rw [← hs]; exact g6) (by omega)
        · exact leaf none none (some s6) none e8 (fun n hn => by cases hn) (fun s hs => by cases hs) (fun s hs => by injection hs with hs; rw [← hs]; exact g6) (by omega)
      · skip
        refine yl_bind (next_ok 3 e5 (by omega) (by omega)) (fun y hy => ?_)
        obtain ⟨v8, e8, rfl, _, _, l8⟩ := hy
        refine yl_cond (fun hb => ?_) (fun hb => ?_)
        · refine yl_bind (next_ok 2 e8 (by omega) (by omega)) (fun y hy => ?_)
          obtain ⟨v9, e9, rfl, _, _, l9⟩ := hy
          exact leaf none none none (some (decide (v9 = 1))) e9 (fun n hn => by cases hn) (fun s hs => by cases hs) (fun s hs => by cases hs) (by omega)
        · exact leaf none none none none e8 (fun n hn => by cases hn) (fun s hs => by cases hs) (fun s hs => by cases hs) (by omega)
end Go.Proofs.Ytgabpbnndikheaa.I

namespace Go.Proofs.Ytgabpbnndikheaa.I
open Go.RowKit
set_option linter.unusedVariables false
set_option linter.constructorNameAsVariable false
structure PartsMade (kind : Int) (l : List (List DPt)) : Prop where
  zero : partsV kind l = 0
  len : 1 ≤ l.length ∧ l.length ≤ 3
  pts : ∀ p ∈ l, 1 ≤ p.length ∧ p.length ≤ 5
  near : ∀ p ∈ l, NearL p
theorem findSome_zero {F : List DPt → Int} : ∀ {l : List (List DPt)}, (∀ p ∈ l, F p = 0) → l.findSome? (fun p => if F p = 0 then none else some (F p)) = none
  | [], _ => rfl
  | p :: l, h => by
    simp only [List.findSome?_cons, h p (by simp), if_true]
    exact findSome_zero fun q hq => h q (by simp [hq])
theorem partsV_zero {kind : Int} {l : List (List DPt)} (hk : 1 ≤ kind ∧ kind ≤ 3) (hl : 1 ≤ l.length ∧ l.length ≤ 20) (hp : ∀ p ∈ l, p.length ≤ 200) (hz : ∀ p ∈ l, partE kind p = 0) (ha : kind = 3 → r57 (l, ()) = some (0, ())) : partsV kind l = 0 := by
  unfold partsV partsE
  have h3 : ¬ (l.any (fun p => decide ((200 : Int) < (p.length : Int))) = true) := by
    rw [List.any_eq_true]
    rintro ⟨p, hp1, hp2⟩
    have := hp p hp1
    simp at hp2
    omega
  rw [if_neg (by omega), if_neg (by omega), if_neg (by omega), if_neg h3, if_neg (by omega), findSome_zero hz]
  by_cases h : kind = 3
  · rw [if_pos h]
    unfold areaO
    rw [ha h]
    rfl
  · rw [if_neg h]
    rfl
theorem far_near {q : DPt} (h : Near q) : far q = false := by
  unfold far
  obtain ⟨⟨h1, h2⟩, h3, h4⟩ := h
  rw [decide_eq_false (by omega), decide_eq_false (by omega), decide_eq_false (by omega), decide_eq_false (by omega)]
  rfl
theorem any_far {p : List DPt} (h : NearL p) : ¬ (p.any far = true) := by
  rw [List.any_eq_true]
  rintro ⟨q, h1, h2⟩
  rw [far_near (h q h1)] at h2
  cases h2
theorem made_dots {l : List (List DPt)} (hl : 1 ≤ l.length ∧ l.length ≤ 3) (h : ∀ p ∈ l, p.length = 1 ∧ NearL p) : PartsMade 1 l :=
  ⟨partsV_zero (by omega) (by omega) (fun p hp => by have := (h p hp).1; omega) (fun p hp => by
    unfold partE
    rw [if_neg (any_far (h p hp).2), if_pos rfl, if_pos (h p hp).1]) (fun h => by omega), hl, fun p hp => by have := (h p hp).1; omega, fun p hp => (h p hp).2⟩
theorem made_lines {l : List (List DPt)} (hl : 1 ≤ l.length ∧ l.length ≤ 3) (h : ∀ p ∈ l, 2 ≤ p.length ∧ p.length ≤ 5 ∧ NearL p ∧ adj p = false) : PartsMade 2 l :=
  ⟨partsV_zero (by omega) (by omega) (fun p hp => by have := (h p hp).2.1; omega) (fun p hp => by
    unfold partE
    have h1 := (h p hp).1
    have h2 := (h p hp).2.2.2
    rw [if_neg (any_far (h p hp).2.2.1), if_neg (by omega), if_pos rfl, if_neg (by omega), h2, if_neg (by simp)]) (fun h => by omega), hl, fun p hp => by have := h p hp; omega, fun p hp => (h p hp).2.2.1⟩
theorem made_area {l : List (List DPt)} (h : AreaOk l) (h5 : ∀ p ∈ l, p.length ≤ 5) : PartsMade 3 l :=
  ⟨partsV_zero (by omega) (by have := h.len; omega) (fun p hp => (h.rings p hp).max) (fun p hp => by
    unfold partE
    rw [if_neg (any_far (h.rings p hp).near), if_neg (by omega), if_neg (by omega)]) (fun _ => h.ok), h.len, fun p hp => ⟨by have := (h.rings p hp).min; omega, h5 p hp⟩, fun p hp => (h.rings p hp).near⟩
structure Made (f : DFea) : Prop where
  ok : featV f = 0
  sm : small kFea f
  kind : 1 ≤ f.2.1 ∧ f.2.1 ≤ 3
  parts : PartsMade f.2.1 f.2.2.1
  atts : AttsOk f.2.2.2.1
  times : 0 ≤ f.2.2.2.2.1 ∧ f.2.2.2.2.1 < f.2.2.2.2.2.1 ∧ f.2.2.2.2.2.1 ≤ 100
theorem sm_pt {q : DPt} (h : Near q) : small kPt q := ⟨wf_of (by have := h.1; omega), wf_of (by have := h.2; omega), trivial⟩
theorem made_of {id kind fr upto : Int} {l : List (List DPt)} {ats : List DAtt} (hid : 1 ≤ id ∧ id ≤ 1073741824) (hk : 1 ≤ kind ∧ kind ≤ 3) (hl : PartsMade kind l) (ha : AttsOk ats) (ht : 0 ≤ fr ∧ fr < upto ∧ upto ≤ 100) : Made (id, (kind, (l, (ats, (fr, (upto, ())))))) := by
  refine ⟨?_, ?_, hk, hl, ha, ht⟩
  · unfold featV
    simp only
    rw [if_neg (by omega), if_neg (by omega), hl.zero, ha.ok]
    simp only [ne_eq, not_true_eq_false, if_false]
    rw [if_neg (by omega), if_neg (by omega), if_neg (by omega)]
  · refine ⟨wf_of (n := id) (by omega), wf_of (n := kind) (by omega), ⟨by show l.length ≤ maxLen; unfold maxLen; have := hl.len; omega, fun p hp => ⟨by show p.length ≤ maxLen; unfold maxLen; have := hl.pts p hp; omega, fun q hq => sm_pt (hl.near p hp q hq)⟩⟩, ⟨by show ats.length ≤ maxLen; unfold maxLen; have := ha.len; omega, fun a h => ha.sm a h⟩, wf_of (n := fr) (by omega), wf_of (n := upto) (by omega), trivial⟩
@[reducible] def embM (id kind fr upto : Int) (i : Int) (s : List (List DPt) × List Int) : (Int × Int × Int × List (List DPt) × Unit × Int × Int × List Int × Unit) × Unit := ((i, (id, (kind, (s.1, ((), (fr, (upto, (s.2, ())))))))), ())
@[reducible] def outM (id kind fr upto : Int) (s : List (List DPt) × List Int) : ((Int × Int × List (List DPt) × Unit × Int × Int × List Int × Unit) × Unit) ⊕ Empty := Sum.inl ((id, (kind, (s.1, ((), (fr, (upto, (s.2, ()))))))), ())
theorem fits24 {k : Nat} (h : k ≤ 1000) : fits k 24 = true := by unfold fits; simp; omega
theorem near_of {q : DPt} (h : (-40 ≤ q.1 ∧ q.1 ≤ 41) ∧ (-40 ≤ q.2.1 ∧ q.2.1 ≤ 41)) : Near q := by unfold Near; omega
set_option maxHeartbeats 2000000 in
theorem feature_ok (id : Int) (d : List Int) (hid : 1 ≤ id ∧ id ≤ 1073741824) : Yl (r41 (id, ()) (d, ())) (fun y => ∃ (f : DFea) (d' : List Int), y = ((f, ()), (d', ())) ∧ f.1 = id ∧ Made f ∧ d'.length ≤ d.length) := by
  unfold r41
  refine yl_bind (next_ok 3 d (by omega) (by omega)) (fun y hy => ?_)
  obtain ⟨k, d1, rfl, k1, k2, l1⟩ := hy
  refine yl_bind (next_ok 20 d1 (by omega) (by omega)) (fun y hy => ?_)
  obtain ⟨fr, d2, rfl, f1, f2, l2⟩ := hy
  refine yl_bind (next_ok 40 d2 (by omega) (by omega)) (fun y hy => ?_)
  obtain ⟨t, d3, rfl, t1, t2, l3⟩ := hy
  have wk : IntKind.wrap .i64 (1 + k) = 1 + k := wrap64 (by omega) (by omega)
  have wf : IntKind.wrap .i64 (fr + 1) = fr + 1 := wrap64 (by omega) (by omega)
  have wt : IntKind.wrap .i64 (fr + 1 + t) = fr + 1 + t := wrap64 (by omega) (by omega)
  simp only [wk, wf, wt]
  have fin : ∀ (l : List (List DPt)) (e : List Int), PartsMade (1 + k) l → e.length ≤ d.length → Yl (Option.bind (r53 () (e, ())) (fun x5 => some (((id, (1 + k, (l, (x5.1.1, (fr, (fr + 1 + t, ())))))), ()), (x5.2.1, ())))) (fun y : (DFea × Unit) × List Int × Unit => ∃ (f : DFea) (d' : List Int), y = ((f, ()), (d', ())) ∧ f.1 = id ∧ Made f ∧ d'.length ≤ d.length) := by
    intro l e hl he
    refine yl_bind (attrs_ok e) (fun y hy => ?_)
    obtain ⟨ats, e', rfl, h1, h2⟩ := hy
    exact yl_some ⟨_, e', rfl, rfl, made_of hid (by omega) hl h1 (by omega), by omega⟩
  refine yl_cond (fun hb => ?_) (fun hb => yl_cond (fun hb2 => ?_) (fun hb2 => ?_))
  · have hb : 1 + k = 1 := of_decide_eq_true hb
    refine yl_bind (next_ok 3 d3 (by omega) (by omega)) (fun y hy => ?_)
    obtain ⟨c, d4, rfl, c1, c2, l4⟩ := hy
    obtain ⟨n, hn⟩ : ∃ n : Nat, 1 + c = (n : Int) := ⟨(1 + c).toNat, by omega⟩
    have wc : IntKind.wrap .i64 (1 + c) = (n : Int) := by rw [wrap64 (by omega) (by omega), hn]
    simp only [wc]
    refine yl_bind (P := fun o => ∃ s : List (List DPt) × List Int, o = outM id (1 + k) fr (fr + 1 + t) s ∧ s.1.length = n ∧ (∀ p ∈ s.1, p.length = 1 ∧ NearL p) ∧ s.2.length ≤ d.length)
      (loop_up (embM id (1 + k) fr (fr + 1 + t)) n (fun i s => s.1.length = i ∧ (∀ p ∈ s.1, p.length = 1 ∧ NearL p) ∧ s.2.length ≤ d.length) _ (fun i s hi hI => ?_) (fun s hI => ?_) 0 ([], d4) (Nat.zero_le _) ⟨rfl, (fun p hp => by cases hp), by simp only; omega⟩) (fun o ho => ?_)
    · left
      obtain ⟨h1, h2, h3⟩ := hI
      obtain ⟨y, hy1, q, e', hy2, hq, he'⟩ := point_ok s.2
      subst hy2
      have hf : fits (s.1.length + [[(q.1, (q.2.1, ()))]].length) 24 = true := fits24 (by simp; omega)
      refine ⟨(s.1 ++ [[q]], e'), ?_, ?_, fun p hp => ?_, by simp only; omega⟩
      · simp only [embM, dec_lt hi, cond_true, hy1, Option.bind_some, hf]
        rw [wrapS hi (by omega)]
      · rw [List.length_append]; simp; omega
      · rcases List.mem_append.1 hp with hp | hp
        · exact h2 p hp
        · rw [List.mem_singleton.1 hp]
          exact ⟨rfl, fun u hu => by rw [List.mem_singleton.1 hu]; exact near_of (by omega)⟩
    · obtain ⟨h1, h2, h3⟩ := hI
      refine ⟨_, ?_, s, rfl, h1, h2, h3⟩
      simp only [embM, dec_nlt, cond_false]
    · obtain ⟨s, rfl, h1, h2, h3⟩ := ho
      exact fin s.1 s.2 (by rw [hb]; exact made_dots (by omega) h2) h3
  · have hb2 : 1 + k = 2 := of_decide_eq_true hb2
    refine yl_bind (next_ok 2 d3 (by omega) (by omega)) (fun y hy => ?_)
    obtain ⟨c, d4, rfl, c1, c2, l4⟩ := hy
    obtain ⟨n, hn⟩ : ∃ n : Nat, 1 + c = (n : Int) := ⟨(1 + c).toNat, by omega⟩
    have wc : IntKind.wrap .i64 (1 + c) = (n : Int) := by rw [wrap64 (by omega) (by omega), hn]
    simp only [wc]
    refine yl_bind (P := fun o => ∃ s : List (List DPt) × List Int, o = outM id (1 + k) fr (fr + 1 + t) s ∧ s.1.length = n ∧ (∀ p ∈ s.1, 2 ≤ p.length ∧ p.length ≤ 5 ∧ NearL p ∧ adj p = false) ∧ s.2.length ≤ d.length)
      (loop_up (embM id (1 + k) fr (fr + 1 + t)) n (fun i s => s.1.length = i ∧ (∀ p ∈ s.1, 2 ≤ p.length ∧ p.length ≤ 5 ∧ NearL p ∧ adj p = false) ∧ s.2.length ≤ d.length) _ (fun i s hi hI => ?_) (fun s hI => ?_) 0 ([], d4) (Nat.zero_le _) ⟨rfl, (fun p hp => by cases hp), by simp only; omega⟩) (fun o ho => ?_)
    · left
      obtain ⟨h1, h2, h3⟩ := hI
      obtain ⟨y, hy1, v, e1, hy2, v1, v2, he1⟩ := next_ok 4 s.2 (by omega) (by omega)
      subst hy2
      have wv : IntKind.wrap .i64 (2 + v) = 2 + v := wrap64 (by omega) (by omega)
      obtain ⟨y, hz1, p, e', hz2, hp, he'⟩ := line_ok (2 + v) e1 (by omega) (by omega)
      subst hz2
      have hf : fits (s.1.length + [p].length) 24 = true := fits24 (by simp; omega)
      refine ⟨(s.1 ++ [p], e'), ?_, ?_, fun u hu => ?_, by simp only; omega⟩
      · simp only [embM, dec_lt hi, cond_true, hy1, Option.bind_some, wv, hz1, hf]
        rw [wrapS hi (by omega)]
      · rw [List.length_append]; simp; omega
      · rcases List.mem_append.1 hu with hu | hu
        · exact h2 u hu
        · rw [List.mem_singleton.1 hu]
          have := hp.len
          exact ⟨by omega, by omega, fun w hw => near_of (hp.near w hw), hp.adj⟩
    · obtain ⟨h1, h2, h3⟩ := hI
      refine ⟨_, ?_, s, rfl, h1, h2, h3⟩
      simp only [embM, dec_nlt, cond_false]
    · obtain ⟨s, rfl, h1, h2, h3⟩ := ho
      exact fin s.1 s.2 (by rw [hb2]; exact made_lines (by omega) h2) h3
  · have hb : ¬ (1 + k = 1) := of_decide_eq_false hb
    have hb2 : ¬ (1 + k = 2) := of_decide_eq_false hb2
    obtain ⟨m, hm, hm2⟩ : ∃ m : Nat, minI (d3.length : Int) 8 = (m : Int) ∧ m ≤ d3.length := by
      unfold minI
      split
      · exact ⟨8, rfl, by omega⟩
      · exact ⟨d3.length, rfl, Nat.le_refl _⟩
    have hu : upTo (m : Int) (d3.length : Int) = true := by unfold upTo; simp; omega
    simp only [hm, hu, cond_true, Int.toNat_natCast]
    refine yl_bind (area_ok (d3.take m)) (fun y hy => ?_)
    obtain ⟨l, rfl, hl⟩ := hy
    exact fin l (d3.drop m) (by
      have e : (1 : Int) + k = 3 := by omega
      rw [e]
      exact made_area hl.1 hl.2) (by rw [List.length_drop]; omega)
@[reducible] def embQ (i : Int) (s : Int × List DFea × List Int) : (Int × List DFea × Int × List Int × Unit) × Unit := ((s.1, (s.2.1, (i, (s.2.2, ())))), ())
theorem asc_snoc : ∀ {l : List DFea} {p : Int} {f : DFea}, Asc p l → featV f = 0 → (∀ g ∈ l, g.1 < f.1) → p < f.1 → Asc p (l ++ [f])
  | [], p, f, _, h1, _, h3 => ⟨h1, h3, trivial⟩
  | g :: l, p, f, ⟨a, b, c⟩, h1, h2, h3 => ⟨a, b, asc_snoc c h1 (fun x hx => h2 x (by simp [hx])) (h2 g (by simp))⟩
structure MadeS (l : List DFea) : Prop where
  len : l.length ≤ 6
  made : ∀ f ∈ l, Made f
  asc : Asc 0 l
  ids : ∀ f ∈ l, f.1 ≤ 18
theorem fits80 {k : Nat} (h : k ≤ 1000) : fits k 80 = true := by unfold fits; simp; omega
theorem survey_ok (raw : List Int) : Yl (r28 (raw, ())) (fun y => ∃ l, y = (l, ()) ∧ MadeS l) := by
  unfold r28
  refine yl_bind (next_ok 7 raw (by omega) (by omega)) (fun y hy => ?_)
  obtain ⟨c, d1, rfl, c1, c2, l1⟩ := hy
  obtain ⟨n, rfl⟩ : ∃ n : Nat, c = (n : Int) := ⟨c.toNat, by omega⟩
  refine yl_bind (P := fun o => ∃ (l : List DFea) (e : List Int), o = Sum.inl ((l, (e, ())), ()) ∧ MadeS l)
    (loop_up embQ n (fun i s => s.2.1.length = i ∧ (∀ f ∈ s.2.1, Made f) ∧ Asc 0 s.2.1 ∧ (∀ f ∈ s.2.1, f.1 ≤ s.1) ∧ 0 ≤ s.1 ∧ s.1 ≤ 3 * i) _ (fun i s hi hI => ?_) (fun s hI => ?_) 0 (0, [], d1) (Nat.zero_le _) ⟨rfl, (fun p hp => by cases hp), trivial, (fun p hp => by cases hp), by simp only; omega, by simp only; omega⟩) (fun o ho => ?_)
  · left
    obtain ⟨id, l, e⟩ := s
    obtain ⟨h1, h2, h3, h4, h5, h6⟩ := hI
    simp only at h1 h2 h3 h4 h5 h6
    obtain ⟨y, hy1, v, e1, hy2, v1, v2, he1⟩ := next_ok 3 e (by omega) (by omega)
    subst hy2
    have wv : IntKind.wrap .i64 (1 + v) = 1 + v := wrap64 (by omega) (by omega)
    have wi : IntKind.wrap .i64 (id + (1 + v)) = id + (1 + v) := wrap64 (by omega) (by omega)
    obtain ⟨y, hz1, f, e', hz2, hfid, hf, he'⟩ := feature_ok (id + (1 + v)) e1 (by omega)
    subst hz2
    have hfit : fits (l.length + [(f.1, (f.2.1, (f.2.2.1, (f.2.2.2.1, (f.2.2.2.2.1, (f.2.2.2.2.2.1, ()))))))].length) 80 = true := fits80 (by simp; omega)
    refine ⟨(id + (1 + v), l ++ [f], e'), ?_, ?_, fun g hg => ?_, asc_snoc h3 hf.ok (fun g hg => by have := h4 g hg; omega) (by omega), fun g hg => ?_, by simp only; omega, by simp only; omega⟩
    · simp only [embQ, dec_lt hi, cond_true, hy1, Option.bind_some, wv, wi, hz1, hfit]
      rw [wrapS hi (by omega)]
    · simp only [List.length_append, List.length_cons, List.length_nil]; omega
    · rcases List.mem_append.1 hg with hg | hg
      · exact h2 g hg
      · rw [List.mem_singleton.1 hg]; exact hf
    · rcases List.mem_append.1 hg with hg | hg
      · have := h4 g hg; simp only; omega
      · rw [List.mem_singleton.1 hg, hfid]; exact Int.le_refl _
  · obtain ⟨id, l, e⟩ := s
    obtain ⟨h1, h2, h3, h4, h5, h6⟩ := hI
    simp only at h1 h2 h3 h4 h5 h6
    refine ⟨_, ?_, l, e, rfl, by omega, h2, h3, fun f hf => by have := h4 f hf; omega⟩
    simp only [embQ, dec_nlt, cond_false]
  · obtain ⟨l, e, rfl, h⟩ := ho
    exact yl_some ⟨l, rfl, h⟩
end Go.Proofs.Ytgabpbnndikheaa.I

namespace Go.Proofs.Ytgabpbnndikheaa.I
open Go.RowKit
set_option linter.unusedVariables false
set_option linter.constructorNameAsVariable false
theorem foldE_all {α O : Type} (F : α → Bool) (o1 o2 : O) : ∀ (l : List α), foldE (fun (_ : Unit) a => cond (F a) (.inl ()) (.inr o1)) (fun _ => o2) l () = cond (l.all F) o2 o1
  | [] => rfl
  | a :: l => by
    have ih := foldE_all F o1 o2 l
    simp only [foldE, List.all_cons]
    cases F a with
    | true => simpa using ih
    | false => simp
theorem eq_loop {α D O : Type} {step : D → Option (D ⊕ O)} (emb : Int → D) (eqv : α → α → Bool) (xs ys : List α) (hl : xs.length = ys.length) (o1 o2 : O)
    (hin : ∀ (i : Nat) a b, xs[i]? = some a → ys[i]? = some b → step (emb i) = some (cond (eqv a b) (.inl (emb ((i : Int) + 1))) (.inr o1)))
    (hend : step (emb (xs.length : Int)) = some (.inr o2)) : loop step (emb 0) = some (cond ((xs.zip ys).all (fun p => eqv p.1 p.2)) o2 o1) := by
  have hz : (xs.zip ys).length = xs.length := by rw [List.length_zip]; omega
  have := loop_exit (step := step) (fun i (_ : Unit) => emb i) (fun _ (p : α × α) => cond (eqv p.1 p.2) (.inl ()) (.inr o1)) (fun _ _ => True) (fun _ => o2) (xs.zip ys) (fun i p s hp _ => ?_) (fun s _ => ?_) () trivial
  · rw [this, foldE_all (fun p : α × α => eqv p.1 p.2)]
  · obtain ⟨h1, h2⟩ := List.getElem?_zip_eq_some.1 hp
    refine ⟨?_, fun _ _ => trivial⟩
    rw [hin i p.1 p.2 h1 h2]
    cases eqv p.1 p.2 <;> rfl
  · rw [hz, hend]
theorem zip_all {α : Type} (eqv : α → α → Bool) (he : ∀ a b, eqv a b = true ↔ a = b) : ∀ (xs ys : List α), xs.length = ys.length → ((xs.zip ys).all (fun p => eqv p.1 p.2) = true ↔ xs = ys)
  | [], [], _ => by simp
  | [], b :: ys, h => by simp at h
  | a :: xs, [], h => by simp at h
  | a :: xs, b :: ys, h => by
    have ih := zip_all eqv he xs ys (by simpa using h)
    simp only [List.zip_cons_cons, List.all_cons, Bool.and_eq_true, he, ih, List.cons.injEq]
def eqPt (a b : DPt) : Bool := decide (a.1 = b.1) && decide (a.2.1 = b.2.1)
theorem eqPt_iff (a b : DPt) : eqPt a b = true ↔ a = b := by
  obtain ⟨x, y, ⟨⟩⟩ := a
  obtain ⟨x', y', ⟨⟩⟩ := b
  simp [eqPt]
def eqAt (a b : DAtt) : Bool := decide (a.1 = b.1) && (decide (a.2.1.1 = b.2.1.1) && (decide (a.2.1.2.1 = b.2.1.2.1) && (decide (a.2.1.2.2.1 = b.2.1.2.2.1) && decide (a.2.1.2.2.2.1 = b.2.1.2.2.2.1))))
theorem eqAt_iff (a b : DAtt) : eqAt a b = true ↔ a = b := by
  obtain ⟨k, ⟨v1, v2, v3, v4, ⟨⟩⟩, ⟨⟩⟩ := a
  obtain ⟨k', ⟨w1, w2, w3, w4, ⟨⟩⟩, ⟨⟩⟩ := b
  simp [eqAt]
instance decAtt : DecidableEq DAtt := fun a b => decidable_of_iff (eqAt a b = true) (eqAt_iff a b)
theorem len_ne {α : Type} [DecidableEq α] {xs ys : List α} (h : ¬ (xs.length : Int) = (ys.length : Int)) : decide (xs = ys) = false := decide_eq_false (fun e => h (by rw [e]))
abbrev embU (i : Int) : (Int × Unit) × Unit := ((i, ()), ())
theorem eqPts_eq (xs ys : List DPt) (hl : xs.length ≤ 1048576) : r35 (xs, (ys, ())) = some (decide (xs = ys), ()) := by
  unfold r35
  by_cases hq : (xs.length : Int) = (ys.length : Int)
  · have hq' : xs.length = ys.length := by omega
    simp only [decide_eq_true hq, Bool.not_true, cond_false]
    refine (congrArg (fun z => Option.bind z _) (eq_loop embU eqPt xs ys hq' (Sum.inl ((false, ()), ())) (Sum.inr (Sum.inl ((), ()))) (fun i a b ha hb => ?_) ?_)).trans ?_
    · have hlt := lt_of_get ha
      have hlt2 := lt_of_get hb
      simp only [embU, dec_lt hlt, inB_lt hlt, inB_lt hlt2, Int.toNat_natCast, ha, hb, cond_true, Option.bind_some]
      rw [wrapS hlt (by omega)]
      show cond (!eqPt a b) _ _ = _
      cases eqPt a b <;> rfl
    · simp only [embU, dec_nlt, cond_false]
    · simp only [Option.bind_some]
      by_cases h : xs = ys
      · rw [(zip_all eqPt eqPt_iff xs ys hq').2 h, decide_eq_true h]; rfl
      · rw [Bool.eq_false_iff.2 (fun hh => h ((zip_all eqPt eqPt_iff xs ys hq').1 hh)), decide_eq_false h]; rfl
  · simp only [decide_eq_false hq, Bool.not_false, cond_true]
    rw [len_ne hq]
theorem eqAtts_eq (xs ys : List DAtt) (hl : xs.length ≤ 1048576) : r33 (xs, (ys, ())) = some (decide (xs = ys), ()) := by
  unfold r33
  by_cases hq : (xs.length : Int) = (ys.length : Int)
  · have hq' : xs.length = ys.length := by omega
    simp only [decide_eq_true hq, Bool.not_true, cond_false]
    refine (congrArg (fun z => Option.bind z _) (eq_loop embU eqAt xs ys hq' (Sum.inl ((false, ()), ())) (Sum.inr (Sum.inl ((), ()))) (fun i a b ha hb => ?_) ?_)).trans ?_
    · have hlt := lt_of_get ha
      have hlt2 := lt_of_get hb
      simp only [embU, dec_lt hlt, inB_lt hlt, inB_lt hlt2, Int.toNat_natCast, ha, hb, cond_true, Option.bind_some]
      rw [wrapS hlt (by omega)]
      show cond (!eqAt a b) _ _ = _
      cases eqAt a b <;> rfl
    · simp only [embU, dec_nlt, cond_false]
    · simp only [Option.bind_some]
      by_cases h : xs = ys
      · rw [(zip_all eqAt eqAt_iff xs ys hq').2 h, decide_eq_true h]; rfl
      · rw [Bool.eq_false_iff.2 (fun hh => h ((zip_all eqAt eqAt_iff xs ys hq').1 hh)), decide_eq_false h]; rfl
  · simp only [decide_eq_false hq, Bool.not_false, cond_true]
    rw [len_ne hq]
theorem eqParts_eq (xs ys : List (List DPt)) (hl : xs.length ≤ 1048576) (hp : ∀ p ∈ xs, p.length ≤ 1048576) : r34_35 (xs, (ys, ((), ()))) = some (decide (xs = ys), ()) := by
  unfold r34_35
  have hiff : ∀ a b : List DPt, decide (a = b) = true ↔ a = b := fun a b => by simp
  by_cases hq : (xs.length : Int) = (ys.length : Int)
  · have hq' : xs.length = ys.length := by omega
    simp only [decide_eq_true hq, Bool.not_true, cond_false]
    refine (congrArg (fun z => Option.bind z _) (eq_loop embU (fun a b => decide (a = b)) xs ys hq' (Sum.inl ((false, ()), ())) (Sum.inr (Sum.inl ((), ()))) (fun i a b ha hb => ?_) ?_)).trans ?_
    · have hlt := lt_of_get ha
      have hlt2 := lt_of_get hb
      simp only [embU, dec_lt hlt, inB_lt hlt, inB_lt hlt2, Int.toNat_natCast, ha, hb, cond_true, Option.bind_some]
      rw [wrapS hlt (by omega), eqPts_eq a b (hp a (List.mem_of_getElem? ha))]
      simp only [Option.bind_some]
      cases decide (a = b) <;> rfl
    · simp only [embU, dec_nlt, cond_false]
    · simp only [Option.bind_some]
      by_cases h : xs = ys
      · rw [(zip_all (fun a b => decide (a = b)) hiff xs ys hq').2 h, decide_eq_true h]; rfl
      · rw [Bool.eq_false_iff.2 (fun hh => h ((zip_all (fun a b => decide (a = b)) hiff xs ys hq').1 hh)), decide_eq_false h]; rfl
  · simp only [decide_eq_false hq, Bool.not_false, cond_true]
    rw [len_ne hq]
def eqFe (a b : DFea) : Bool := decide (a.1 = b.1) && (decide (a.2.1 = b.2.1) && (decide (a.2.2.1 = b.2.2.1) && (decide (a.2.2.2.1 = b.2.2.2.1) && (decide (a.2.2.2.2.1 = b.2.2.2.2.1) && decide (a.2.2.2.2.2.1 = b.2.2.2.2.2.1)))))
theorem eqFe_iff (a b : DFea) : eqFe a b = true ↔ a = b := by
  obtain ⟨i, k, ps, ats, fr, up, ⟨⟩⟩ := a
  obtain ⟨i', k', ps', ats', fr', up', ⟨⟩⟩ := b
  simp [eqFe]
instance decFea : DecidableEq DFea := fun a b => decidable_of_iff (eqFe a b = true) (eqFe_iff a b)
structure Few (f : DFea) : Prop where
  parts : f.2.2.1.length ≤ 1048576
  pts : ∀ p ∈ f.2.2.1, p.length ≤ 1048576
  atts : f.2.2.2.1.length ≤ 1048576
theorem same_eq (a b : DFea) (h : Few a) : r19 (a, (b, ())) = some (decide (a = b), ()) := by
  unfold r19
  have e1 : r33 (a.2.2.2.1, (b.2.2.2.1, ())) = some (decide (a.2.2.2.1 = b.2.2.2.1), ()) := eqAtts_eq _ _ h.atts
  have e2 : r34_35 (a.2.2.1, (b.2.2.1, ((), ()))) = some (decide (a.2.2.1 = b.2.2.1), ()) := eqParts_eq _ _ h.parts h.pts
  simp only [e1, e2, Option.bind_some]
  obtain ⟨i, k, ps, ats, fr, up, ⟨⟩⟩ := a
  obtain ⟨i', k', ps', ats', fr', up', ⟨⟩⟩ := b
  simp only
  by_cases k1 : i = i' <;> by_cases k2 : k = k' <;> by_cases k3 : fr = fr' <;> by_cases k4 : up = up' <;> by_cases k5 : ats = ats' <;> by_cases k6 : ps = ps' <;> simp [k1, k2, k3, k4, k5, k6]
end Go.Proofs.Ytgabpbnndikheaa.I

namespace Go.Proofs.Ytgabpbnndikheaa.I
open Go.RowKit
set_option linter.unusedVariables false
set_option linter.constructorNameAsVariable false
theorem few_made {f : DFea} (h : Made f) : Few f := ⟨by have := h.parts.len; omega, fun p hp => by have := h.parts.pts p hp; omega, by have := h.atts.len; omega⟩
theorem small_madeS {l : List DFea} (h : MadeS l) : small (.slice kFea) l := ⟨by have := h.len; unfold maxLen; omega, fun f hf => (h.made f hf).sm⟩
theorem zeroF_eq : r29 (((0 : Int), ((0 : Int), ([], ([], ((0 : Int), ((0 : Int), ())))))), ()) = some ((1 : Int), ()) := by
  unfold r29
  rfl
theorem begunK_ok (raw : List Int) : Yl (r16 (raw, ())) (fun y => ∃ l, y = (l, (true, ())) ∧ MadeS l) := by
  unfold r16
  refine yl_bind (survey_ok raw) (fun y hy => ?_)
  obtain ⟨l, rfl, hl⟩ := hy
  have h0 : survV l = 0 := survV_of (by have := hl.len; omega) hl.asc
  have e1 := r16_eq l (small_madeS hl)
  rw [h0] at e1
  refine yl_bind (yl_eq e1) (fun x hx => ?_)
  subst hx
  refine yl_true rfl (yl_bind (yl_eq zeroF_eq) (fun x hx => ?_))
  subst hx
  exact yl_some ⟨l, rfl, hl⟩
end Go.Proofs.Ytgabpbnndikheaa.I

namespace Go.Proofs.Ytgabpbnndikheaa.I
open Go.RowKit
set_option linter.unusedVariables false
set_option linter.constructorNameAsVariable false
theorem feat_zero {f : DFea} (h : featV f = 0) : partsV f.2.1 f.2.2.1 = 0 ∧ attrsE false f.2.2.2.1 = 0 := by
  unfold featV at h
  by_cases k1 : f.1 < 1
  · simp [k1] at h
  by_cases k2 : 1073741824 < f.1
  · simp [k1, k2] at h
  by_cases k3 : partsV f.2.1 f.2.2.1 = 0
  · by_cases k4 : attrsE false f.2.2.2.1 = 0
    · exact ⟨k3, k4⟩
    · simp [k1, k2, k3, k4] at h
  · simp [k1, k2, k3] at h
theorem parts_zero {kind : Int} {l : List (List DPt)} (h : partsV kind l = 0) : l.length ≤ 20 ∧ ∀ p ∈ l, p.length ≤ 200 := by
  unfold partsV partsE at h
  by_cases k1 : kind < 1
  · simp [k1] at h
  by_cases k2 : 3 < kind
  · simp [k1, k2] at h
  by_cases k3 : 20 < l.length
  · simp [k1, k2, k3] at h
  by_cases k4 : l.any (fun p => decide ((200 : Int) < (p.length : Int))) = true
  · simp only [k1, k2, k3, k4, if_true, if_false] at h
    simp at h
  · refine ⟨by omega, fun p hp => ?_⟩
    rcases Nat.lt_or_ge 200 p.length with hl | hl
    · exact absurd (List.any_eq_true.2 ⟨p, hp, by simp; omega⟩) k4
    · exact hl
theorem name_size {s : ByteArray} (h : nameOk s = true) : s.size ≤ 12 := by
  unfold nameOk at h
  simp at h
  omega
theorem check_size {v : DVal} (h : checkV v = 0) : v.2.2.1.size ≤ 40 := by
  unfold checkV at h
  rcases Nat.lt_or_ge 40 v.2.2.1.size with hl | hl
  · have hl' : (40 : Int) < (v.2.2.1.size : Int) := by omega
    simp only [hl', if_true] at h
    split at h
    · cases h
    split at h
    · cases h
    split at h
    · cases h
    split at h
    · cases h
    split at h
    · cases h
    split at h
    · cases h
    split at h <;> cases h
  · exact hl
theorem attr_scan (l : List DAtt) (p : ByteArray) (h : scan (attF false) (fun a => a.1) 0 p l = 0) : ∀ a ∈ l, nameOk a.1 = true ∧ checkV a.2.1 = 0 := by
  induction l generalizing p with
  | nil => intro f hf; cases hf
  | cons a l ih =>
    simp only [scan] at h
    cases hno : nameOk a.1 with
    | false => simp [attF, hno] at h
    | true =>
      cases hless : strLt p a.1 with
      | false => simp [attF, hno, hless] at h
      | true =>
        by_cases hc : checkV a.2.1 = 0
        · by_cases hk : a.2.1.1 = 0
          · simp [attF, hno, hless, hc, hk] at h
          · simp only [attF, hno, hless, hc, hk, ne_eq, not_true, if_false, and_false, Bool.true_eq_false, reduceCtorEq] at h
            intro b hb
            rcases List.mem_cons.1 hb with rfl | hb
            · exact ⟨hno, hc⟩
            · exact ih _ h b hb
        · simp [attF, hno, hless, hc] at h
theorem attr_zero {l : List DAtt} (h : attrsE false l = 0) : l.length ≤ 8 ∧ ∀ a ∈ l, nameOk a.1 = true ∧ checkV a.2.1 = 0 := by
  unfold attrsE at h
  by_cases h8 : 8 < l.length
  · simp [h8] at h
  · rw [if_neg h8] at h
    exact ⟨by omega, attr_scan l _ h⟩
theorem fea_ok {f : DFea} (hs : small kFea f) (h : featV f = 0) : FeaOk f := by
  obtain ⟨h1, h2⟩ := feat_zero h
  obtain ⟨p1, p2⟩ := parts_zero h1
  obtain ⟨a1, a2⟩ := attr_zero h2
  have hs2 : small (.slice kAtt) f.2.2.2.1 := (fea_small hs).2
  refine ⟨p1, p2, a1, fun a ha => ?_, wf_in hs.2.1, wf_in hs.2.2.2.2.1⟩
  obtain ⟨n1, n2⟩ := a2 a ha
  have hsa : small kAtt a := hs2.2 a ha
  exact ⟨name_size n1, check_size n2, wf_in hsa.2.1.1, wf_in hsa.2.1.2.1⟩
end Go.Proofs.Ytgabpbnndikheaa.I

namespace Go.Proofs.Ytgabpbnndikheaa.I
open Go.RowKit
set_option linter.unusedVariables false
set_option linter.constructorNameAsVariable false
theorem encPts_len : ∀ (p : List DPt) (x y : Int), (encPts x y p).length ≤ 20 * p.length
  | [], _, _ => by simp [encPts]
  | q :: l, x, y => by
    have h1 := encPts_len l q.1 q.2.1
    have h2 := encAll_len [W64 (q.1 - x), W64 (q.2.1 - y)] (in_cons (in_wrap _) (in_cons (in_wrap _) in_nil))
    simp only [encPts, List.length_append, List.length_cons, List.length_nil] at h2 ⊢
    omega
theorem encParts_len (k : Nat) : ∀ (l : List (List DPt)) (x y : Int), (∀ p ∈ l, p.length ≤ k) → k ≤ 1000 → (encParts x y l).length ≤ (20 * k + 10) * l.length
  | [], _, _, _, _ => by simp [encParts]
  | p :: l, x, y, h, hk => by
    have h0 := h p (by simp)
    have h1 := encParts_len k l (endPt x y p).1 (endPt x y p).2 (fun q hq => h q (by simp [hq])) hk
    have h2 := encPts_len p x y
    have h3 := encAll_len [(p.length : Int)] (in_cons (by omega) in_nil)
    simp only [encParts, List.length_append, List.length_cons, List.length_nil, Nat.mul_add, Nat.mul_one] at h3 ⊢
    omega
theorem encAtt_len {a : DAtt} (h : AttOk a) : (encAtt a).length ≤ 82 := by
  have := attB_len (d := []) h
  rw [batt_eq] at this
  simpa using this
theorem flat_len82 : ∀ (l : List DAtt), (∀ a ∈ l, AttOk a) → (l.flatMap encAtt).length ≤ 82 * l.length
  | [], _ => by simp
  | a :: l, h => by
    have h1 := encAtt_len (h a (by simp))
    have h2 := flat_len82 l (fun b hb => h b (by simp [hb]))
    rw [List.flatMap_cons, List.length_append, List.length_cons, Nat.mul_add]
    omega
theorem feaV_of {f : DFea} (hs : small kFea f) (h : featV f = 0) : FeaV f := by
  obtain ⟨h1, h2, h3, h4, h5, h6, h7⟩ := featV_ok hs h
  refine ⟨fea_ok hs h, by omega, by omega, fun p hp q hq => ?_, fun a ha => valV_of ((attr_zero h4).2 a ha).2⟩
  have := h1.inp p hp q hq
  unfold InR
  omega
theorem feaV_made {f : DFea} (h : Made f) : FeaV f := feaV_of h.sm h.ok
theorem encFea_len {f : DFea} (h : Made f) (last : Int) : (encFea last f).length ≤ 1000 := by
  have hv := feaV_made h
  have h1 := encAll_len (heads last f) (heads_in hv.ok)
  have h2 := encParts_len 5 f.2.2.1 0 0 (fun p hp => (h.parts.pts p hp).2) (by omega)
  have h3 := encAll_len [(f.2.2.2.1.length : Int)] (in_cons (by have := h.atts.len; omega) in_nil)
  have h4 := flat_len82 f.2.2.2.1 hv.ok.att
  have h5 := h.parts.len
  have h6 := h.atts.len
  have h7 : (heads last f).length = 5 := rfl
  unfold encFea
  simp only [List.length_append, List.length_cons, List.length_nil] at h3 ⊢
  omega
theorem encFs_len : ∀ (l : List DFea) (last : Int), (∀ f ∈ l, Made f) → (encFs last l).length ≤ 1000 * l.length
  | [], _, _ => by simp [encFs]
  | f :: l, last, h => by
    have h1 := encFea_len (h f (by simp)) last
    have h2 := encFs_len l f.1 (fun g hg => h g (by simp [hg]))
    simp only [encFs, List.length_append, List.length_cons, Nat.mul_add]
    omega
theorem total_made {l : List DFea} (h : MadeS l) : (total l).length ≤ 65536 := by
  have h1 := encFs_len l 0 h.made
  have h2 := encAll_len [(l.length : Int)] (in_cons (by have := h.len; omega) in_nil)
  have h3 := h.len
  rw [enc_one] at h2
  rw [total_len, surB_eq]
  simp only [List.length_append, List.length_cons, List.length_nil] at h2 ⊢
  omega
theorem write_made {l : List DFea} (h : MadeS l) : r23 (l, ()) = some (toI (total l), (0, ())) := by
  have h0 : survV l = 0 := survV_of (by have := h.len; omega) h.asc
  have := r33_eq l (small_madeS h) (fun f hf => (feaV_made (h.made f hf)).ok) (by have := h.len; omega) h0
  rw [if_neg (by have := total_made h; omega)] at this
  exact this
theorem read_made {l : List DFea} (h : MadeS l) : r25 (toI (total l), ()) = some (l, (0, ())) :=
  read_total l (small_madeS h) (fun f hf => feaV_made (h.made f hf)) (by have := h.len; omega) (survV_of (by have := h.len; omega) h.asc) (total_made h)
theorem put_m1 : r9 (([] : List Int), ((-1 : Int), ())) = some ([1], ()) := by
  unfold r9
  refine bind_of (x := ([] : List Int)) rfl ?_
  rw [loop_eq]
  rfl
theorem packed_eq : r24 () = some (true, ()) := by
  unfold r24
  have e1 : r25 (([] : List Int), ()) = some ([], (14, ())) := read_bad [] 14 rfl
  refine bind_of e1 ?_
  refine bind_of put_m1 ?_
  have e3 : r15 ([1], ([1], ())) = some (true, ()) := eqBytes_same [1] (by simp)
  exact bind_of e3 rfl
theorem eqFeas_same (l : List DFea) (hl : l.length ≤ 1048576) (h : ∀ f ∈ l, Few f) : r27_19 (l, (l, ((), ()))) = some (true, ()) := by
  unfold r27_19
  simp only [decide_true, Bool.not_true, cond_false]
  refine loop_is (fun (i : Int) (_ : Unit) => ((i, ()), ())) l.length (fun i => ()) (fun _ => Sum.inr (Sum.inl ((), ()))) (fun i hi => ?_) ?_ ?_ () rfl
  · obtain ⟨f, hf⟩ := get_lt hi
    have e : r19 ((f.1, (f.2.1, (f.2.2.1, (f.2.2.2.1, (f.2.2.2.2.1, (f.2.2.2.2.2.1, ())))))), ((f.1, (f.2.1, (f.2.2.1, (f.2.2.2.1, (f.2.2.2.2.1, (f.2.2.2.2.2.1, ())))))), ())) = some (decide (f = f), ()) := same_eq f f (h f (List.mem_of_getElem? hf))
    simp only [dec_lt hi, inB_lt hi, Int.toNat_natCast, hf, cond_true, Option.bind_some, e, decide_true, Bool.not_true, cond_false]
    rw [wrapS hi (by omega)]
  · simp only [dec_nlt, cond_false]
  · rfl
theorem toI_set (l : List UInt8) (i : Nat) (x : UInt8) : (toI l).set i (x.toNat : Int) = toI (l.set i x) := by
  unfold toI
  rw [List.map_set]
theorem xor_byte (c : UInt8) (k : Int) (h : 1 ≤ k ∧ k ≤ 255) : ∃ x : UInt8, x ≠ c ∧ IntKind.wrap IntKind.u8 (((BitVec.ofInt 8 ((c.toNat : Nat) : Int) ^^^ BitVec.ofInt 8 (IntKind.wrap IntKind.u8 k)).toNat : Nat) : Int) = (x.toNat : Int) := by
  obtain ⟨n, rfl⟩ : ∃ n : Nat, k = n := ⟨k.toNat, by omega⟩
  have hn : n < 256 := by omega
  have hc := c.toNat_lt
  have hx : c.toNat ^^^ n < 256 := Nat.xor_lt_two_pow (n := 8) (by omega) (by omega)
  have e1 : IntKind.wrap IntKind.u8 (n : Int) = (n : Int) := by rw [wu8]; omega
  have e2 : (BitVec.ofInt 8 ((c.toNat : Nat) : Int)).toNat = c.toNat := by rw [BitVec.toNat_ofInt]; omega
  have e3 : (BitVec.ofInt 8 ((n : Nat) : Int)).toNat = n := by rw [BitVec.toNat_ofInt]; omega
  refine ⟨UInt8.ofNat (c.toNat ^^^ n), ?_, ?_⟩
  · intro he
    have h1 := congrArg UInt8.toNat he
    rw [UInt8.toNat_ofNat', Nat.mod_eq_of_lt (by omega)] at h1
    have h2 := congrArg (fun z => c.toNat ^^^ z) h1
    simp only [← Nat.xor_assoc, Nat.xor_self, Nat.zero_xor] at h2
    omega
  · rw [e1, BitVec.toNat_xor, e2, e3, wu8, UInt8.toNat_ofNat']
    omega
set_option maxHeartbeats 2000000 in
theorem binBack_raw (raw : List Int) (at' by' : Int) (_ : small (.slice (.int .i64)) raw) (_ : small (.int .i64) at') (_ : small (.int .i64) by') : r6 (raw, (at', (by', ()))) = some (true, ()) := by
  have key : Yl (r6 (raw, (at', (by', ())))) (fun y => y = (true, ())) := by
    unfold r6
    refine yl_bind (begunK_ok raw) (fun y hy => ?_)
    obtain ⟨l', rfl, hl'⟩ := hy
    obtain ⟨l, hl, rfl⟩ : ∃ l : List DFea, MadeS l ∧ l = l' := ⟨l', hl', rfl⟩
    clear hl'
    have hT := total_made hl
    have hm := surB_min l
    have ht := total_len l
    refine yl_bind (yl_eq (write_made hl)) (fun x hx => ?_)
    subst hx
    refine yl_false rfl (yl_bind (yl_eq packed_eq) (fun x hx => ?_))
    subst hx
    refine yl_false rfl (yl_false rfl (yl_false (decide_eq_false (by simp only [toI_len]; omega)) ?_))
    refine yl_bind (yl_eq (read_made hl)) (fun x hx => ?_)
    subst hx
    have ec : cloneByR (toI (total l), ()) = some (toI (total l)) := by
      unfold cloneByR
      have : fits (toI (total l)).length 1 = true := fitsB (by rw [toI_len]; omega)
      simp only [this, cond_true]
    refine yl_bind (yl_eq ec) (fun x hx => ?_)
    subst hx
    refine yl_bind (below_ok at' ((toI (total l)).length : Int) (by rw [toI_len]; omega) (by rw [toI_len]; omega)) (fun y hy => ?_)
    obtain ⟨v, rfl, v1, v2⟩ := hy
    rw [toI_len] at v2
    obtain ⟨i, rfl⟩ : ∃ i : Nat, v = i := ⟨v.toNat, by omega⟩
    have hi : i < (total l).length := by omega
    obtain ⟨c, hc⟩ := get_lt hi
    have hi2 : i < (toI (total l)).length := by rw [toI_len]; exact hi
    refine yl_true (inB_lt hi2) ?_
    have hg : (toI (total l))[Int.toNat (i : Int)]? = some (c.toNat : Int) := toI_get hc
    refine yl_bind (yl_eq hg) (fun x hx => ?_)
    subst hx
    refine yl_bind (below_ok by' 255 (by omega) (by omega)) (fun y hy => ?_)
    obtain ⟨k, rfl, k1, k2⟩ := hy
    refine yl_true (inB_lt hi2) (yl_bind (yl_eq hg) (fun x hx => ?_))
    subst hx
    have wk : IntKind.wrap .i64 (1 + k) = 1 + k := wrap64 (by omega) (by omega)
    obtain ⟨x, hx1, hx2⟩ := xor_byte c (1 + k) (by omega)
    simp only [wk, hx2, Int.toNat_natCast, toI_set]
    obtain ⟨e, he1, he2⟩ := head_changed (head_total l hT) hc hx1
    refine yl_bind (yl_eq (read_bad _ e he1)) (fun z hz => ?_)
    subst hz
    refine yl_true rfl ?_
    refine yl_bind (yl_eq (eqFeas_same l (by have := hl.len; omega) (fun f hf => few_made (hl.made f hf)))) (fun z hz => ?_)
    subst hz
    refine yl_true rfl (yl_some ?_)
    rw [decide_eq_false he2]
    rfl
  obtain ⟨y, h1, rfl⟩ := key
  exact h1
end Go.Proofs.Ytgabpbnndikheaa.I
