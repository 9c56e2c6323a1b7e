import Derived.Test.YtdfgfjnpllncdaaGreatDoorXr5
import Derived.Below
import Derived.IntWalk
import Derived.Laws.BitsAllLaws
import Derived.Laws.BitsLemmas
import Derived.Test.YtdfgfjnpllncdaaGreatDoorRows
import Derived.Lib.LaidU8
import Derived.Lib.SmallJoins
set_option linter.unusedSimpArgs false
set_option linter.unusedVariables false
namespace Go.Proofs.YtdfgfjnpllncdaaGreatDoor.I
open Go.RowKit
set_option linter.unusedVariables false
set_option linter.unusedSimpArgs false
set_option linter.constructorNameAsVariable false
noncomputable def marksL : List ByteArray := ((r33 ()).getD ([], ())).1
theorem marks_eq : r33 () = some (marksL, ()) := rfl
def domL : List Nat := [3, 4, 6, 7, 8, 9, 10, 11, 12, 13, 14, 15, 16]
theorem marks_at : ∀ k ∈ domL, marksL[k]? = some (sgn k) ∧ sgn k ≠ emptyS ∧ opOf (sgn k) = some k ∧ r31 ((k : Int), ()) = some ((lev k : Int), ()) ∧ lev k ≤ 6 ∧ 1 ≤ lev k ∧ lev k ≠ 3 := by decide +kernel
theorem marks_len : marksL.length = 22 := rfl
def opHd : Toks → Option Nat
  | [] => none
  | s :: _ => opOf s
theorem opHd_dom {l : Toks} {op : Nat} (h : opHd l = some op) : op ∈ domL ∧ l.head? = some (sgn op) := by
  cases l with
  | nil => cases h
  | cons s l =>
    have h : opOf s = some op := h
    unfold opOf at h
    obtain ⟨p, hp, rfl⟩ := Option.map_eq_some_iff.1 h
    have hm := List.mem_of_find?_eq_some hp
    have hs := List.find?_some hp
    have hs : s = p.2 := of_decide_eq_true hs
    have key : ∀ p ∈ signL, p.1 ∈ domL := by decide
    exact ⟨key p hm, by rw [List.head?_cons, hs, (signL_ok p hm).1]⟩
theorem opAt_hd {n : Nat} {l : Toks} {op : Nat} : opAt n l = some op ↔ opHd l = some op ∧ lev op = n := by
  cases l with
  | nil => simp [opAt, opHd]
  | cons s l =>
    simp only [opAt, opHd]
    cases ho : opOf s with
    | none => simp
    | some o =>
      simp only [Option.some.injEq]
      by_cases hl : lev o = n
      · rw [if_pos hl]
        constructor
        · intro h; injection h with h; subst h; exact ⟨rfl, hl⟩
        · rintro ⟨rfl, _⟩; rfl
      · rw [if_neg hl]
        constructor
        · intro h; cases h
        · rintro ⟨rfl, h2⟩; exact absurd h2 hl
theorem mark_iff {k : Nat} (hk : k ∈ domL) (l : Toks) : sgn k = peekS l ↔ opHd l = some k := by
  obtain ⟨_, h2, h3, _⟩ := marks_at k hk
  cases l with
  | nil =>
    simp only [peekS, List.headD_nil, opHd]
    exact ⟨fun h => absurd h h2, fun h => by cases h⟩
  | cons s l =>
    simp only [peekS, List.headD_cons, opHd]
    constructor
    · intro h; rw [← h]; exact h3
    · intro h
      have := (opHd_dom (l := s :: l) h).2
      simp only [List.head?_cons, Option.some.injEq] at this
      exact this.symm
def bestI (j : Nat) (l : Toks) : Int := match opHd l with
  | some op => if op < j then (op : Int) else -1
  | none => -1
theorem best_skip {j : Nat} {l : Toks} (h : opHd l ≠ some j) : bestI (j + 1) l = bestI j l := by
  unfold bestI
  cases ho : opHd l with
  | none => rfl
  | some op =>
    have : op ≠ j := fun e => h (by rw [ho, e])
    show (if op < j + 1 then (op : Int) else -1) = (if op < j then (op : Int) else -1)
    by_cases h1 : op < j
    · rw [if_pos h1, if_pos (by omega)]
    · rw [if_neg h1, if_neg (by omega)]
theorem best_hit {j : Nat} {l : Toks} (h : opHd l = some j) : bestI (j + 1) l = (j : Int) := by
  unfold bestI
  rw [h]
  exact if_pos (by omega)
@[reducible] def embSe (i : Int) (s : Int × RMem) : (Int × Int × RMem) × Unit := ((s.1, (i, s.2)), ())
theorem search_eq (step : (Int × Int × RMem) × Unit → Option (((Int × Int × RMem) × Unit) ⊕ (((Int × RMem) × Unit) ⊕ Empty)))
    (hs : ∀ (o k : Int) (d : RMem), step ((o, (k, d)), ()) = cond (decide (k ≤ (16 : Int))) (cond (Bool.not (decide (k = (5 : Int)))) (Option.bind (r33 ()) fun x2 => cond (inB k x2.1.length) (Option.bind (x2.1[Int.toNat k]?) fun x3 => Option.bind (r78 () d) fun x4 => cond (decide (x3 = x4.1.1)) (some (Sum.inl ((k, (IntKind.wrap .i64 (k + 1), x4.2)), ()))) (some (Sum.inl ((o, (IntKind.wrap .i64 (k + 1), x4.2)), ())))) none) (some (Sum.inl ((o, (IntKind.wrap .i64 (k + 1), d)), ())))) (some (Sum.inr (Sum.inl ((o, d), ())))))
    (l : Toks) (b : Bool) : loop step (((-1 : Int), ((3 : Int), (l, (b, ())))), ()) = some (.inl ((bestI 17 l, (l, (b, ()))), ())) := by
  have H : ∃ o, loop step (embSe ((3 : Nat) : Int) (bestI 3 l, (l, (b, ())))) = some o ∧ o = .inl ((bestI 17 l, (l, (b, ()))), ()) := by
    refine loop_up (step := step) embSe 17 (fun j s => 3 ≤ j ∧ s = (bestI j l, (l, (b, ())))) (fun o => o = .inl ((bestI 17 l, (l, (b, ()))), ())) (fun j s hj hI => ?_) (fun s hI => ?_) 3 _ (by omega) ⟨by omega, rfl⟩
    · obtain ⟨h3, rfl⟩ := hI
      refine .inl ⟨(bestI (j + 1) l, (l, (b, ()))), ?_, by omega, rfl⟩
      have hw : IntKind.wrap .i64 ((j : Int) + 1) = (j : Int) + 1 := wrap64 (by omega) (by omega)
      rw [hs]
      refine (c_true (decide_eq_true (by omega))).trans ?_
      by_cases h5 : j = 5
      · refine (c_false (by rw [decide_eq_true (by omega)]; rfl)).trans ?_
        rw [hw, best_skip (by
          intro h
          have := (opHd_dom h).1
          rw [h5] at this
          revert this
          decide)]
      · refine (c_true (by rw [decide_eq_false (by omega)]; rfl)).trans ?_
        have hd : j ∈ domL := by
          unfold domL
          simp only [List.mem_cons, List.not_mem_nil, or_false]
          omega
        obtain ⟨g1, _⟩ := marks_at j hd
        refine bind_of marks_eq ?_
        refine (c_true (by show inB (j : Int) marksL.length = true; exact inB_lt (by rw [marks_len]; omega))).trans ?_
        refine bind_of (x := sgn j) (by rw [Int.toNat_natCast]; exact g1) ?_
        refine bind_of (rpeek_eq l b) ?_
        by_cases hh : opHd l = some j
        · refine (c_true (decide_eq_true ((mark_iff hd l).2 hh))).trans ?_
          rw [hw, best_hit hh]
        · refine (c_false (decide_eq_false (fun e => hh ((mark_iff hd l).1 e)))).trans ?_
          rw [hw, best_skip hh]
    · obtain ⟨_, rfl⟩ := hI
      refine ⟨_, ?_, rfl⟩
      rw [hs]
      exact (c_false (decide_eq_false (by omega))).trans rfl
  have h3 : bestI 3 l = -1 := by
    unfold bestI
    cases ho : opHd l with
    | none => rfl
    | some op =>
      have hd := (opHd_dom ho).1
      have : 3 ≤ op := by
        unfold domL at hd
        simp only [List.mem_cons, List.not_mem_nil, or_false] at hd
        omega
      exact if_neg (by omega)
  obtain ⟨o, h1, rfl⟩ := H
  rw [h3] at h1
  exact h1
theorem best_none {l : Toks} (h : opHd l = none) : bestI 17 l = -1 := by unfold bestI; rw [h]
theorem best_some {l : Toks} {op : Nat} (h : opHd l = some op) : bestI 17 l = (op : Int) := by
  have hd := (opHd_dom h).1
  have : op < 17 := by
    unfold domL at hd
    simp only [List.mem_cons, List.not_mem_nil, or_false] at hd
    omega
  unfold bestI
  rw [h]
  exact if_pos this
abbrev fld7 (T : Type) := Int × Int × Int × ByteArray × Bool × ByteArray × List DExp × T
def flds {T : Type} (e : DExp) (t : T) : fld7 T := ((Tree.val e).1, ((Tree.val e).2.1.1, ((Tree.val e).2.1.2.1, ((Tree.val e).2.1.2.2.1, ((Tree.val e).2.1.2.2.2.1, ((Tree.val e).2.2.1, (Tree.kids e, t)))))))
def osL (e : DExp) (l : Toks) (b : Bool) : (Toks × Bool × fld7 (fld7 Unit)) × Unit := ((l, (b, flds e (flds e ()))), ())
def osR (e : DExp) (l : Toks) (b : Bool) : (Toks × Bool × fld7 Unit) × Unit := ((l, (b, flds e ())), ())
theorem after_bad (m : Nat) (e : DExp) (least top : Int) (l : Toks) : r80 (m + 1) (e, (least, (top, ()))) (l, (true, ())) = some ((e, ()), (l, (true, ()))) := by
  rw [r80_succ]
  unfold r80B
  refine bind_of (x := .inr (.inl (osR e l true))) (loop_inr ((c_false rfl).trans rfl)) ?_
  show some ((Tree.node _ _, ()), _) = _
  exact congrArg (fun z => some ((z, ()), (l, (true, ())))) (nd_eta e)
/-- Nothing follows that binds so. -/
def StopsAt (least top : Nat) (l : Toks) : Prop := ∀ op, opHd l = some op → lev op < least ∨ top < lev op ∨ (lev op = 4 ∧ top = 4)
theorem after_stop (m : Nat) (e : DExp) (least top : Nat) (l : Toks) (h : StopsAt least top l) : r80 (m + 1) (e, ((least : Int), ((top : Int), ()))) (l, (false, ())) = some ((e, ()), (l, (false, ()))) := by
  rw [r80_succ]
  unfold r80B
  have fin : ∀ (e : DExp), some ((Tree.node ((Tree.val e).1, (((Tree.val e).2.1.1, ((Tree.val e).2.1.2.1, ((Tree.val e).2.1.2.2.1, ((Tree.val e).2.1.2.2.2.1, ())))), ((Tree.val e).2.2.1, ()))) (Tree.kids e), ()), ((l, (false, ())) : RMem)) = some ((e, ()), (l, (false, ()))) := fun e => congrArg (fun z => some ((z, ()), (l, (false, ())))) (nd_eta e)
  cases ho : opHd l with
  | none =>
    refine bind_of (x := .inl (osL e l false)) (loop_inr ((c_true rfl).trans (bind_of (search_eq _ (by intros; rfl) l false) ?_))) ?_
    · refine (c_true (decide_eq_true (by show bestI 17 l < 0; rw [best_none ho]; omega))).trans ?_
      rfl
    · exact fin e
  | some op =>
    obtain ⟨hd, _⟩ := opHd_dom ho
    obtain ⟨_, _, _, hst, _⟩ := marks_at op hd
    have hb := best_some ho
    have hst' : r31 (bestI 17 l, ()) = some ((lev op : Int), ()) := by rw [hb]; exact hst
    refine bind_of (x := .inl (osL e l false)) (loop_inr ((c_true rfl).trans (bind_of (search_eq _ (by intros; rfl) l false) ?_))) ?_
    · refine (c_false (decide_eq_false (by show ¬ bestI 17 l < 0; rw [hb]; omega))).trans ?_
      refine bind_of hst' ?_
      by_cases h1 : lev op < least
      · exact (c_true (decide_eq_true (by show (lev op : Int) < (least : Int); omega))).trans rfl
      · refine (c_false (decide_eq_false (by show ¬ (lev op : Int) < (least : Int); omega))).trans ?_
        by_cases h2 : top < lev op
        · exact (c_true (decide_eq_true (by show (top : Int) < (lev op : Int); omega))).trans rfl
        · refine (c_false (decide_eq_false (by show ¬ (top : Int) < (lev op : Int); omega))).trans ?_
          have h3 := (h op ho).resolve_left h1
          have h3 := h3.resolve_left h2
          refine (c_true (decide_eq_true (by show (lev op : Int) = 4; omega))).trans ?_
          exact (c_true (decide_eq_true (by show (top : Int) = 4; omega))).trans rfl
    · exact fin e
theorem after_go (m : Nat) (e : DExp) (least top : Nat) (s : ByteArray) (l : Toks) {op : Nat} (ho : opHd (s :: l) = some op) (h1 : least ≤ lev op) (h2 : lev op ≤ top) (h3 : ¬ (lev op = 4 ∧ top = 4)) {e2 : DExp} {d2 : RMem}
    (hat : r45 m (((lev op + 1 : Nat) : Int), ()) (l, (false, ())) = some ((e2, ()), d2)) :
    r80 (m + 1) (e, ((least : Int), ((top : Int), ()))) (s :: l, (false, ())) = r80 (m + 1) (nodeO (op : Int) [e, e2], ((least : Int), ((lev op : Int), ()))) d2 := by
  rw [r80_succ]
  unfold r80B
  obtain ⟨hd, _⟩ := opHd_dom ho
  obtain ⟨_, _, _, hst, h6, _⟩ := marks_at op hd
  have hb := best_some ho
  have hst' : r31 (bestI 17 (s :: l), ()) = some ((lev op : Int), ()) := by rw [hb]; exact hst
  have hw : IntKind.wrap .i64 ((lev op : Int) + 1) = ((lev op + 1 : Nat) : Int) := by rw [wrap64 (by omega) (by omega)]; omega
  refine congrArg (fun z => Option.bind z _) (loop_inl ?_)
  refine (c_true rfl).trans (bind_of (search_eq _ (by intros; rfl) (s :: l) false) ?_)
  refine (c_false (decide_eq_false (by show ¬ bestI 17 (s :: l) < 0; rw [hb]; omega))).trans ?_
  refine bind_of hst' ?_
  refine (c_false (decide_eq_false (by show ¬ (lev op : Int) < (least : Int); omega))).trans ?_
  refine (c_false (decide_eq_false (by show ¬ (top : Int) < (lev op : Int); omega))).trans ?_
  have hat' : r45 m (IntKind.wrap .i64 ((lev op : Int) + 1), ()) (l, (false, ())) = some ((e2, ()), d2) := by rw [hw]; exact hat
  have e1 := nd_eta e
  have e2' := nd_eta2 e2
  by_cases h4 : lev op = 4
  · refine (c_true (decide_eq_true (by show (lev op : Int) = 4; omega))).trans ?_
    refine (c_false (decide_eq_false (by show ¬ (top : Int) = 4; omega))).trans ?_
    refine bind_of (rnext_cons s l false) (bind_of hat' ?_)
    show some (Sum.inl (((lev op : Int), (bestI 17 (s :: l), ((0 : Int), ((0 : Int), (emptyS, (false, (emptyS, ([Tree.node ((Tree.val e).1, (((Tree.val e).2.1.1, ((Tree.val e).2.1.2.1, ((Tree.val e).2.1.2.2.1, ((Tree.val e).2.1.2.2.2.1, ())))), ((Tree.val e).2.2.1, ()))) (Tree.kids e), Tree.node (Tree.val e2) (Tree.kids e2)], d2)))))))), ())) = _
    rw [e1, e2', hb]
    rfl
  · refine (c_false (decide_eq_false (by show ¬ (lev op : Int) = 4; omega))).trans ?_
    refine bind_of (rnext_cons s l false) (bind_of hat' ?_)
    show some (Sum.inl (((lev op : Int), (bestI 17 (s :: l), ((0 : Int), ((0 : Int), (emptyS, (false, (emptyS, ([Tree.node ((Tree.val e).1, (((Tree.val e).2.1.1, ((Tree.val e).2.1.2.1, ((Tree.val e).2.1.2.2.1, ((Tree.val e).2.1.2.2.2.1, ())))), ((Tree.val e).2.2.1, ()))) (Tree.kids e), Tree.node (Tree.val e2) (Tree.kids e2)], d2)))))))), ())) = _
    rw [e1, e2', hb]
    rfl
end Go.Proofs.YtdfgfjnpllncdaaGreatDoor.I

namespace Go.Proofs.YtdfgfjnpllncdaaGreatDoor.I
open Go.RowKit
set_option linter.unusedVariables false
set_option linter.unusedSimpArgs false
set_option linter.constructorNameAsVariable false
theorem upto_bad (m : Nat) (n : Int) (l : Toks) : r45 (m + 1) (n, ()) (l, (true, ())) = some ((zE, ()), (l, (true, ()))) := by
  rw [r45_succ]
  unfold r45B
  exact bind_of (rpeek_eq l true) ((c_true rfl).trans rfl)
theorem peekS_iff {s : ByteArray} (hs : s ≠ emptyS) (l : Toks) : peekS l = s ↔ l.head? = some s := by
  cases l with
  | nil => simp only [peekS, List.headD_nil, List.head?_nil]; exact ⟨fun h => absurd h.symm hs, fun h => by cases h⟩
  | cons t l => simp only [peekS, List.headD_cons, List.head?_cons, Option.some.injEq]
theorem ne_not : tNot ≠ emptyS := by decide +kernel
theorem ne_minus : tMinus ≠ emptyS := by decide +kernel
theorem ne_close : tClose ≠ emptyS := by decide +kernel
theorem ne_comma : tComma ≠ emptyS := by decide +kernel
theorem ne_open : tOpen ≠ emptyS := by decide +kernel
theorem not_minus : tMinus ≠ tNot := by decide +kernel
theorem upto_not (m : Nat) (least : Nat) (h3 : least ≤ 3) (l : Toks) : r45 (m + 1) ((least : Int), ()) (tNot :: l, (false, ())) = Option.bind (r45 m ((3 : Int), ()) (l, (false, ()))) fun x2 => Option.bind (r80 m (nodeO 5 [Tree.node (Tree.val x2.1.1) (Tree.kids x2.1.1)], ((least : Int), ((3 : Int), ()))) x2.2) etaR := by
  rw [r45_succ]
  unfold r45B
  rw [rpeek_eq, Option.bind_some]
  refine (c_false (by rfl)).trans ?_
  refine (c_true (decide_eq_true (show peekS (tNot :: l) = tNot from rfl))).trans ?_
  refine (c_true (decide_eq_true (show (least : Int) ≤ 3 by omega))).trans ?_
  show Option.bind (r79 () (tNot :: l, (false, ()))) _ = _
  rw [rnext_cons, Option.bind_some]
  rfl
/-- Not a 'not' that counts. -/
def noNot (least : Nat) (l : Toks) : Prop := least ≤ 3 → l.head? ≠ some tNot
theorem upto_else (m : Nat) (least : Nat) (l : Toks) (h1 : noNot least l) (h2 : l.head? ≠ some tMinus) : r45 (m + 1) ((least : Int), ()) (l, (false, ())) = Option.bind (r82 m () (l, (false, ()))) fun x1 => Option.bind (r80 m (Tree.node (Tree.val x1.1.1) (Tree.kids x1.1.1), ((least : Int), ((9 : Int), ()))) x1.2) etaR := by
  rw [r45_succ]
  unfold r45B
  have hm : ¬ peekS l = tMinus := fun e => h2 ((peekS_iff ne_minus l).1 e)
  have dm : decide (peekS l = tMinus) = false := decide_eq_false hm
  rw [rpeek_eq, Option.bind_some]
  refine (c_false (by rfl)).trans ?_
  by_cases hn : peekS l = tNot
  · have h3 : ¬ least ≤ 3 := fun h => h1 h ((peekS_iff ne_not l).1 hn)
    refine (c_true (decide_eq_true hn)).trans ?_
    refine (c_false (decide_eq_false (show ¬ (least : Int) ≤ 3 by omega))).trans ?_
    exact (c_false dm).trans rfl
  · refine (c_false (decide_eq_false hn)).trans ?_
    exact (c_false dm).trans rfl
theorem numHead_char {l : Toks} : numHead l = true ↔ ∃ d r c t, l = d :: r ∧ d.data.toList = c :: t ∧ 48 ≤ c.toNat ∧ c.toNat ≤ 57 := by
  cases l with
  | nil => simp [numHead]
  | cons d r =>
    simp only [numHead, decide_eq_true_eq]
    constructor
    · intro h
      obtain ⟨c, t, h1, h2⟩ := kind_digit h
      exact ⟨d, r, c, t, rfl, h1, h2⟩
    · rintro ⟨d', r', c, t, he, h1, h2⟩
      injection he with e1 e2
      subst e1
      unfold kindB
      rw [h1]
      simp only
      rw [if_neg (by omega), if_pos h2]
theorem upto_minus (m : Nat) (least : Nat) (l : Toks) (hsz : ∀ s ∈ l, s.size ≤ 4000) : r45 (m + 1) ((least : Int), ()) (tMinus :: l, (false, ())) = if numHead l = true then Option.bind (r81 (tMinus ++ peekS l, ()) (l.drop 1, (false, ()))) (fun x6 => Option.bind (r80 m (Tree.node (Tree.val x6.1.1) (Tree.kids x6.1.1), ((least : Int), ((9 : Int), ()))) x6.2) etaR)
    else Option.bind (r45 m ((7 : Int), ()) (l, (false, ()))) fun x5 => Option.bind (r80 m (nodeO 17 [Tree.node (Tree.val x5.1.1) (Tree.kids x5.1.1)], ((least : Int), ((9 : Int), ()))) x5.2) etaR := by
  rw [r45_succ]
  unfold r45B
  have d0 : decide (peekS (tMinus :: l) = tNot) = false := decide_eq_false not_minus
  rw [rpeek_eq, Option.bind_some]
  refine (c_false (by rfl)).trans ?_
  refine (c_false d0).trans ?_
  refine (c_true (decide_eq_true (show peekS (tMinus :: l) = tMinus from rfl))).trans ?_
  show Option.bind (r79 () (tMinus :: l, (false, ()))) _ = _
  rw [rnext_cons, Option.bind_some]
  show Option.bind (r78 () (l, (false, ()))) _ = _
  rw [rpeek_eq, Option.bind_some]
  by_cases he : peekS l = emptyS
  · have hn : ¬ numHead l = true := by
      rw [numHead_char]
      rintro ⟨d, r, c, t, rfl, h1, _⟩
      have he : d = emptyS := he
      rw [he] at h1
      cases h1
    rw [if_neg hn]
    exact (c_false (show (Bool.not (decide (peekS l = emptyS))) = false by rw [decide_eq_true he]; rfl)).trans rfl
  · refine (c_true (show (Bool.not (decide (peekS l = emptyS))) = true by rw [decide_eq_false he]; rfl)).trans ?_
    obtain ⟨d, r, rfl⟩ : ∃ d r, l = d :: r := by
      cases l with
      | nil => exact absurd rfl he
      | cons d r => exact ⟨d, r, rfl⟩
    have he : d ≠ emptyS := he
    obtain ⟨c, t, hc⟩ : ∃ c t, d.data.toList = c :: t := by
      cases hd : d.data.toList with
      | nil =>
        exfalso
        apply he
        have : d = bs d.data.toList := rfl
        rw [this, hd]
        rfl
      | cons c t => exact ⟨c, t, rfl⟩
    have hs0 : strAt d (0 : Int) = some c := by rw [str0, hc]; rfl
    have hz : decide (9223372036854775807 < tMinus.size + d.size) = false := by
      have h1 := hsz d (by simp)
      have : tMinus.size = 1 := rfl
      exact decide_eq_false (by omega)
    have hnx := rnext_cons d r false
    show Option.bind (strAt d (0 : Int)) _ = _
    rw [hs0, Option.bind_some]
    by_cases h1 : 48 ≤ c.toNat
    · refine (c_true (decide_eq_true (show (48 : Int) ≤ ((c.toNat : Nat) : Int) by omega))).trans ?_
      show Option.bind (strAt d (0 : Int)) _ = _
      rw [hs0, Option.bind_some]
      by_cases h2 : c.toNat ≤ 57
      · rw [if_pos (numHead_char.2 ⟨d, r, c, t, rfl, hc, h1, h2⟩)]
        refine (c_true (decide_eq_true (show ((c.toNat : Nat) : Int) ≤ 57 by omega))).trans ?_
        show Option.bind (r79 () (d :: r, (false, ()))) _ = _
        rw [hnx, Option.bind_some]
        exact (c_false hz).trans rfl
      · rw [if_neg (by rw [numHead_char]; rintro ⟨d', r', c', t', he', h1', _, h4⟩; injection he' with e1 e2; subst e1; rw [hc] at h1'; injection h1' with e3 e4; subst e3; exact h2 h4)]
        exact (c_false (decide_eq_false (show ¬ ((c.toNat : Nat) : Int) ≤ 57 by omega))).trans rfl
    · rw [if_neg (by rw [numHead_char]; rintro ⟨d', r', c', t', he', h1', h3, _⟩; injection he' with e1 e2; subst e1; rw [hc] at h1'; injection h1' with e3 e4; subst e3; exact h1 h3)]
      exact (c_false (decide_eq_false (show ¬ (48 : Int) ≤ ((c.toNat : Nat) : Int) by omega))).trans rfl
theorem atom_nil (m : Nat) : r82 (m + 1) () ([], (false, ())) = some ((zE, ()), ([], (true, ()))) := by
  rw [r82_succ]
  exact bind_of (rnext_nil false) ((c_true rfl).trans rfl)
theorem atom_open (m : Nat) (l : Toks) : r82 (m + 1) () (tOpen :: l, (false, ())) = Option.bind (r45 m ((1 : Int), ()) (l, (false, ()))) fun x1 => Option.bind (r110 (tClose, ()) x1.2) fun x2 => some ((Tree.node (Tree.val x1.1.1) (Tree.kids x1.1.1), ()), x2.2) := by
  rw [r82_succ]
  unfold r82B
  rw [rnext_cons, Option.bind_some]
  refine (c_false (by rfl)).trans ?_
  exact (c_true (decide_eq_true (show tOpen = tOpen from rfl))).trans rfl
theorem dot_open : tDot ≠ tOpen := by decide +kernel
theorem fields_ne : inL emptyS fieldsL = false := by decide +kernel
theorem atom_dot (m : Nat) (l : Toks) : resR (match l with
    | [] => none
    | f :: l2 => if inL f fieldsL = true then some (nodeN 2 f, l2) else none) (r82 (m + 1) () (tDot :: l, (false, ()))) := by
  rw [r82_succ]
  unfold r82B
  have key : ∀ (R : Option (DExp × Toks)) (z : Option ((DExp × Unit) × RMem)), z = (Option.bind (r79 () (l, (false, ()))) fun x1 => Option.bind (r28 ()) fun x2 => Option.bind (r26 (x2.1, (x1.1.1, ()))) fun x3 => cond x3.1 (some ((nodeN 2 x1.1.1, ()), x1.2)) (some ((zE, ()), (x1.2.1, (true, ()))))) → resR (match l with
    | [] => none
    | f :: l2 => if inL f fieldsL = true then some (nodeN 2 f, l2) else none) z := by
    intro R z hz
    subst hz
    cases l with
    | nil =>
      have hf := contains_str fieldsL emptyS (by rw [fields_len]; omega)
      rw [fields_ne] at hf
      refine ⟨zE, [], bind_of (rnext_nil false) (bind_of rfields_eq (bind_of hf ?_))⟩
      exact (c_false rfl).trans rfl
    | cons f l2 =>
      have hf := contains_str fieldsL f (by rw [fields_len]; omega)
      cases hin : inL f fieldsL
      · show resR (if inL f fieldsL = true then _ else none) _
        rw [if_neg (by rw [hin]; simp)]
        rw [hin] at hf
        refine ⟨zE, l2, bind_of (rnext_cons f l2 false) (bind_of rfields_eq (bind_of hf ?_))⟩
        exact (c_false rfl).trans rfl
      · show resR (if inL f fieldsL = true then _ else none) _
        rw [if_pos hin]
        rw [hin] at hf
        exact bind_of (rnext_cons f l2 false) (bind_of rfields_eq (bind_of hf ((c_true rfl).trans rfl)))
  refine key none _ ?_
  rw [rnext_cons, Option.bind_some]
  refine (c_false (by rfl)).trans ?_
  refine (c_false (decide_eq_false dot_open)).trans ?_
  exact (c_true (decide_eq_true (show tDot = tDot from rfl))).trans rfl
end Go.Proofs.YtdfgfjnpllncdaaGreatDoor.I

namespace Go.Proofs.YtdfgfjnpllncdaaGreatDoor.I
open Go.RowKit
set_option linter.unusedVariables false
set_option linter.unusedSimpArgs false
set_option linter.constructorNameAsVariable false
abbrev ASr := Int × Int × Int × Int × ByteArray × Bool × ByteArray × List DExp × RMem
def asr (i op : Int) (acc : List DExp) (d : RMem) : ASr × Unit := ((i, (op, ((0 : Int), ((0 : Int), (emptyS, (false, (emptyS, (acc, d)))))))), ())
noncomputable def stepR (m : Nat) (k : Int) : ASr × Unit → Option ((ASr × Unit) ⊕ (((Toks × Bool × fld7 Unit) × Unit) ⊕ Empty)) := fun x4 =>
  cond (decide (x4.1.1 < k))
    (cond (decide ((0 : Int) < x4.1.1))
      (Option.bind (r110 (tComma, ()) x4.1.2.2.2.2.2.2.2.2) fun x5 => Option.bind (r45 m ((1 : Int), ()) x5.2) fun x6 =>
        cond (fits (x4.1.2.2.2.2.2.2.2.1.length + [Tree.node (Tree.val x6.1.1) (Tree.kids x6.1.1)].length) 88)
          (some (Sum.inl ((IntKind.wrap .i64 (x4.1.1 + 1), (x4.1.2.1, (x4.1.2.2.1, (x4.1.2.2.2.1, (x4.1.2.2.2.2.1, (x4.1.2.2.2.2.2.1, (x4.1.2.2.2.2.2.2.1, (x4.1.2.2.2.2.2.2.2.1 ++ [Tree.node (Tree.val x6.1.1) (Tree.kids x6.1.1)], x6.2)))))))), ()))) none)
      (Option.bind (r45 m ((1 : Int), ()) x4.1.2.2.2.2.2.2.2.2) fun x5 =>
        cond (fits (x4.1.2.2.2.2.2.2.2.1.length + [Tree.node (Tree.val x5.1.1) (Tree.kids x5.1.1)].length) 88)
          (some (Sum.inl ((IntKind.wrap .i64 (x4.1.1 + 1), (x4.1.2.1, (x4.1.2.2.1, (x4.1.2.2.2.1, (x4.1.2.2.2.2.1, (x4.1.2.2.2.2.2.1, (x4.1.2.2.2.2.2.2.1, (x4.1.2.2.2.2.2.2.2.1 ++ [Tree.node (Tree.val x5.1.1) (Tree.kids x5.1.1)], x5.2)))))))), ()))) none))
    (some (Sum.inr (Sum.inl ((x4.1.2.2.2.2.2.2.2.2.1, (x4.1.2.2.2.2.2.2.2.2.2.1, (x4.1.2.1, (x4.1.2.2.1, (x4.1.2.2.2.1, (x4.1.2.2.2.2.1, (x4.1.2.2.2.2.2.1, (x4.1.2.2.2.2.2.2.1, (x4.1.2.2.2.2.2.2.2.1, ()))))))))), ()))))
noncomputable def closeR : (((Toks × Bool × fld7 Unit) × Unit) ⊕ Empty) → Option ((DExp × Unit) × RMem) := sumE (fun x11 => Option.bind (r110 (tClose, ()) (x11.1.1, (x11.1.2.1, ()))) fun x12 => some ((Tree.node (x11.1.2.2.1, ((x11.1.2.2.2.1, (x11.1.2.2.2.2.1, (x11.1.2.2.2.2.2.1, (x11.1.2.2.2.2.2.2.1, ())))), (x11.1.2.2.2.2.2.2.2.1, ()))) x11.1.2.2.2.2.2.2.2.2.1, ()), x12.2)) emptyE
theorem stepR_end (m : Nat) (k : Nat) (op : Int) (acc : List DExp) (d : RMem) : stepR m k (asr (k : Int) op acc d) = some (.inr (.inl (osR (nodeO op acc) d.1 d.2.1))) := by
  unfold stepR
  refine (c_false (decide_eq_false (show ¬ (k : Int) < (k : Int) by omega))).trans ?_
  rfl
theorem stepR_one {m : Nat} {k : Nat} (hk : 0 < k) (op : Int) (d : RMem) {e : DExp} {d2 : RMem} (hat : r45 m ((1 : Int), ()) d = some ((e, ()), d2)) : stepR m k (asr ((0 : Nat) : Int) op [] d) = some (.inl (asr ((1 : Nat) : Int) op [e] d2)) := by
  unfold stepR
  refine (c_true (decide_eq_true (show ((0 : Nat) : Int) < (k : Int) by omega))).trans ?_
  refine (c_false (by rfl)).trans ?_
  show Option.bind (r45 m ((1 : Int), ()) d) _ = _
  rw [hat, Option.bind_some]
  refine (c_true (fits88 (show 0 + 1 ≤ 100 by omega))).trans ?_
  have hw : IntKind.wrap .i64 (((0 : Nat) : Int) + 1) = ((1 : Nat) : Int) := by rw [wrap64 (by omega) (by omega)]; rfl
  show some (Sum.inl ((IntKind.wrap .i64 (((0 : Nat) : Int) + 1), (op, ((0 : Int), ((0 : Int), (emptyS, (false, (emptyS, ([] ++ [Tree.node (Tree.val e) (Tree.kids e)], d2)))))))), ())) = _
  rw [hw, nd_eta2]
  rfl
theorem stepR_more {m : Nat} {i k : Nat} (h0 : 0 < i) (hk : i < k) (h9 : k ≤ 9) (op : Int) (acc : List DExp) (hacc : acc.length = i) (d : RMem) {d1 : RMem} (hn : r110 (tComma, ()) d = some ((), d1)) {e : DExp} {d2 : RMem} (hat : r45 m ((1 : Int), ()) d1 = some ((e, ()), d2)) : stepR m k (asr (i : Int) op acc d) = some (.inl (asr ((i + 1 : Nat) : Int) op (acc ++ [e]) d2)) := by
  unfold stepR
  refine (c_true (decide_eq_true (show (i : Int) < (k : Int) by omega))).trans ?_
  refine (c_true (decide_eq_true (show (0 : Int) < (i : Int) by omega))).trans ?_
  show Option.bind (r110 (tComma, ()) d) _ = _
  rw [hn, Option.bind_some]
  show Option.bind (r45 m ((1 : Int), ()) d1) _ = _
  rw [hat, Option.bind_some]
  refine (c_true (fits88 (show acc.length + 1 ≤ 100 by omega))).trans ?_
  have hw : IntKind.wrap .i64 ((i : Int) + 1) = ((i + 1 : Nat) : Int) := by rw [wrap64 (by omega) (by omega)]; rfl
  show some (Sum.inl ((IntKind.wrap .i64 ((i : Int) + 1), (op, ((0 : Int), ((0 : Int), (emptyS, (false, (emptyS, (acc ++ [Tree.node (Tree.val e) (Tree.kids e)], d2)))))))), ())) = _
  rw [hw, nd_eta2]
  rfl
theorem closeR_eq (e : DExp) (d : RMem) {d1 : RMem} (h : r110 (tClose, ()) d = some ((), d1)) : closeR (.inl (osR e d.1 d.2.1)) = some ((e, ()), d1) := by
  show Option.bind (r110 (tClose, ()) d) _ = _
  rw [h, Option.bind_some]
  exact congrArg (fun z => some ((z, ()), d1)) (nd_eta e)
theorem rargs_bad (m : Nat) (op : Int) (k : Nat) (hk : k ≤ 9) : ∀ (j i : Nat) (acc : List DExp) (l : Toks), i + j = k → acc.length = i → resR none (Option.bind (loop (stepR (m + 1) k) (asr (i : Int) op acc (l, (true, ())))) closeR)
  | 0, i, acc, l, h, ha => by
    have hi : i = k := by omega
    subst hi
    rw [loop_inr (stepR_end _ _ _ _ _), Option.bind_some]
    obtain ⟨l', h⟩ := want_bad tClose l
    exact ⟨_, l', closeR_eq (nodeO op acc) (l, (true, ())) h⟩
  | j + 1, i, acc, l, h, ha => by
    by_cases hi : i = 0
    · subst hi
      obtain rfl : acc = [] := List.length_eq_zero_iff.1 ha
      rw [loop_inl (stepR_one (by omega) op _ (upto_bad m 1 l))]
      exact rargs_bad m op k hk j 1 [zE] l (by omega) rfl
    · obtain ⟨l', hn⟩ := want_bad tComma l
      rw [loop_inl (stepR_more (by omega) (by omega) hk op acc ha _ hn (upto_bad m 1 l'))]
      exact rargs_bad m op k hk j (i + 1) (acc ++ [zE]) l' (by omega) (by simp [ha])
theorem fnT_index {s : ByteArray} {op : Int} (h : fnOf s = some op) : ∃ i : Int, r49 (List.drop 18 marksL, (s, ())) = some (i, ()) ∧ 18 + i = op := by
  unfold r49
  rcases fnOf_some h with ⟨rfl, rfl⟩ | ⟨rfl, rfl⟩ | ⟨rfl, rfl⟩ | ⟨rfl, rfl⟩
  · exact ⟨0, bind_of (x := .inl (((0 : Int), ()), ())) (loop_inr rfl) rfl, rfl⟩
  · exact ⟨1, bind_of (x := .inl (((1 : Int), ()), ())) ((loop_inl (d' := (((1 : Int), ()), ())) rfl).trans (loop_inr rfl)) rfl, rfl⟩
  · exact ⟨2, bind_of (x := .inl (((2 : Int), ()), ())) ((loop_inl (d' := (((1 : Int), ()), ())) rfl).trans ((loop_inl (d' := (((2 : Int), ()), ())) rfl).trans (loop_inr rfl))) rfl, rfl⟩
  · exact ⟨3, bind_of (x := .inl (((3 : Int), ()), ())) ((loop_inl (d' := (((1 : Int), ()), ())) rfl).trans ((loop_inl (d' := (((2 : Int), ()), ())) rfl).trans ((loop_inl (d' := (((3 : Int), ()), ())) rfl).trans (loop_inr rfl)))) rfl, rfl⟩
theorem fnT_in (s : ByteArray) : inL s (List.drop 18 marksL) = true ↔ ∃ op, fnOf s = some op := by
  have hm : List.drop 18 marksL = [bs [105, 102], bs [108, 101, 110], bs [109, 105, 110], bs [109, 97, 120]] := rfl
  rw [inL_iff, hm]
  simp only [List.mem_cons, List.not_mem_nil, or_false]
  constructor
  · rintro (rfl | rfl | rfl | rfl)
    · exact ⟨18, by decide +kernel⟩
    · exact ⟨19, by decide +kernel⟩
    · exact ⟨20, by decide +kernel⟩
    · exact ⟨21, by decide +kernel⟩
  · rintro ⟨op, h⟩
    rcases fnOf_some h with ⟨_, h⟩ | ⟨_, h⟩ | ⟨_, h⟩ | ⟨_, h⟩
    · exact .inl h
    · exact .inr (.inl h)
    · exact .inr (.inr (.inl h))
    · exact .inr (.inr (.inr h))
noncomputable def wordR (m : Nat) (s : ByteArray) (d : RMem) : Option ((DExp × Unit) × RMem) :=
  Option.bind (r33 ()) fun x3 => cond (upTo (18 : Int) (x3.1.length : Int))
    (Option.bind (r26 (List.drop 18 x3.1, (s, ()))) fun x4 => cond x4.1
      (Option.bind (r33 ()) fun x5 => cond (upTo (18 : Int) (x5.1.length : Int))
        (Option.bind (r49 (List.drop 18 x5.1, (s, ()))) fun x6 => Option.bind (r110 (tOpen, ()) d) fun x7 => Option.bind (r23 ()) fun x8 =>
          cond (inB (IntKind.wrap .i64 ((18 : Int) + x6.1)) x8.1.length)
            (Option.bind (x8.1[Int.toNat (IntKind.wrap .i64 ((18 : Int) + x6.1))]?) fun x9 => Option.bind (loop (stepR m x9) (asr 0 (IntKind.wrap .i64 ((18 : Int) + x6.1)) [] x7.2)) closeR) none) none)
      (Option.bind (r25 (s, ())) fun x5 => cond x5.1
        (Option.bind (r27 ()) fun x6 => Option.bind (r26 (x6.1, (s, ()))) fun x7 => cond (Bool.not x7.1) (some ((nodeN 1 s, ()), d)) (some ((zE, ()), (d.1, (true, ())))))
        (some ((zE, ()), (d.1, (true, ()))))))
    none
noncomputable def litR (s : ByteArray) (d : RMem) : Option ((DExp × Unit) × RMem) := Option.bind (r81 (s, ()) d) etaR
def isLit (c : UInt8) (s : ByteArray) : Prop := c = 34 ∨ (48 ≤ c.toNat ∧ c.toNat ≤ 57) ∨ s = tTrue ∨ s = tFalse ∨ s = tNil
instance (c : UInt8) (s : ByteArray) : Decidable (isLit c s) := by unfold isLit; exact inferInstance
theorem atom_tok (m : Nat) {s : ByteArray} {c : UInt8} {t : List UInt8} (hc : s.data.toList = c :: t) (h1 : s ≠ tOpen) (h2 : s ≠ tDot) (l : Toks) : r82 (m + 1) () (s :: l, (false, ())) = if isLit c s then litR s (l, (false, ())) else wordR m s (l, (false, ())) := by
  rw [r82_succ]
  unfold r82B
  have hs0 : strAt s (0 : Int) = some c := by rw [str0, hc]; rfl
  rw [rnext_cons, Option.bind_some]
  refine (c_false (by rfl)).trans ?_
  refine (c_false (decide_eq_false h1)).trans ?_
  refine (c_false (decide_eq_false h2)).trans ?_
  show Option.bind (strAt s (0 : Int)) _ = _
  rw [hs0, Option.bind_some]
  by_cases q1 : c = 34
  · rw [if_pos (.inl q1)]
    exact (c_true (by rw [c34]; exact decide_eq_true q1)).trans rfl
  refine (c_false (by rw [c34]; exact decide_eq_false q1)).trans ?_
  rw [Option.bind_some]
  have words : ∀ (A B C D : Option ((DExp × Unit) × RMem)), ¬ (48 ≤ c.toNat ∧ c.toNat ≤ 57) → A = litR s (l, (false, ())) → B = litR s (l, (false, ())) → C = litR s (l, (false, ())) → D = wordR m s (l, (false, ())) → cond (decide (s = tTrue)) A (cond (decide (s = tFalse)) B (cond (decide (s = tNil)) C D)) = if isLit c s then litR s (l, (false, ())) else wordR m s (l, (false, ())) := by
    intro A B C D hnd rfl_A rfl_B rfl_C rfl_D
    subst rfl_A rfl_B rfl_C rfl_D
    by_cases w1 : s = tTrue
    · rw [if_pos (.inr (.inr (.inl w1)))]
      exact c_true (decide_eq_true w1)
    refine (c_false (decide_eq_false w1)).trans ?_
    by_cases w2 : s = tFalse
    · rw [if_pos (.inr (.inr (.inr (.inl w2))))]
      exact c_true (decide_eq_true w2)
    refine (c_false (decide_eq_false w2)).trans ?_
    by_cases w3 : s = tNil
    · rw [if_pos (.inr (.inr (.inr (.inr w3))))]
      exact c_true (decide_eq_true w3)
    rw [if_neg (by rintro (h | h | h | h | h); exact q1 h; exact hnd h; exact w1 h; exact w2 h; exact w3 h)]
    exact c_false (decide_eq_false w3)
  by_cases q2 : 48 ≤ c.toNat
  · refine (c_true (decide_eq_true (show (48 : Int) ≤ ((c.toNat : Nat) : Int) by omega))).trans ?_
    rw [Option.bind_some]
    by_cases q3 : c.toNat ≤ 57
    · rw [if_pos (.inr (.inl ⟨q2, q3⟩))]
      exact (c_true (decide_eq_true (show ((c.toNat : Nat) : Int) ≤ 57 by omega))).trans rfl
    · refine (c_false (decide_eq_false (show ¬ ((c.toNat : Nat) : Int) ≤ 57 by omega))).trans ?_
      exact words _ _ _ _ (fun h => q3 h.2) rfl rfl rfl rfl
  · refine (c_false (decide_eq_false (show ¬ (48 : Int) ≤ ((c.toNat : Nat) : Int) by omega))).trans ?_
    exact words _ _ _ _ (fun h => q2 h.1) rfl rfl rfl rfl
theorem litR_eq (s : ByteArray) (hz : s.size ≤ 4000) (l : Toks) : resR (if (vread s).2 = 0 then some (nodeL (vread s).1, l) else none) (litR s (l, (false, ()))) := by
  unfold litR
  rw [literal_eq s (by omega) l false, Option.bind_some]
  by_cases h : (vread s).2 = 0
  · rw [if_pos h, if_pos h]
    show some _ = some _
    rw [nd_eta2]
  · rw [if_neg h, if_neg h]
    exact ⟨_, _, rfl⟩
theorem wordR_fn (m : Nat) {s : ByteArray} {op : Int} (h : fnOf s = some op) (d : RMem) : wordR m s d = Option.bind (r110 (tOpen, ()) d) fun x7 => Option.bind (loop (stepR m (kidsN op)) (asr 0 op [] x7.2)) closeR := by
  obtain ⟨i, h1, h2⟩ := fnT_index h
  have hc := contains_str (List.drop 18 marksL) s (by decide)
  rw [(fnT_in s).2 ⟨op, h⟩] at hc
  have hop : 0 ≤ op ∧ op ≤ 21 := by rcases fnOf_some h with ⟨rfl, _⟩ | ⟨rfl, _⟩ | ⟨rfl, _⟩ | ⟨rfl, _⟩ <;> exact ⟨by decide, by decide⟩
  have hw : IntKind.wrap .i64 ((18 : Int) + i) = op := by rw [wrap64 (by omega) (by omega)]; exact h2
  obtain ⟨k1, k2⟩ := oper_at op hop.1 hop.2
  unfold wordR
  rw [marks_eq, Option.bind_some]
  refine (c_true (by rfl)).trans ?_
  rw [hc, Option.bind_some]
  refine (c_true (by rfl)).trans ?_
  rw [Option.bind_some]
  refine (c_true (by rfl)).trans ?_
  rw [h1, Option.bind_some]
  simp only [hw, oper_eq, Option.bind_some, k1, k2, cond_true]
theorem wordR_key (m : Nat) {s : ByteArray} (h : fnOf s = none) (hz : s.size ≤ 4000) (d : RMem) : wordR m s d = if nameOk s = true ∧ inL s wordsL = false then some ((nodeN 1 s, ()), d) else some ((zE, ()), (d.1, (true, ()))) := by
  have hc := contains_str (List.drop 18 marksL) s (by decide)
  have hni : inL s (List.drop 18 marksL) = false := by
    rw [Bool.eq_false_iff]
    intro hh
    obtain ⟨op, ho⟩ := (fnT_in s).1 hh
    rw [h] at ho
    cases ho
  rw [hni] at hc
  have hn := rname_eq s (by omega)
  have hw := contains_str wordsL s (by rw [words_len]; omega)
  unfold wordR
  rw [marks_eq, Option.bind_some]
  refine (c_true (by rfl)).trans ?_
  rw [hc, Option.bind_some]
  refine (c_false (by rfl)).trans ?_
  rw [hn, Option.bind_some]
  cases hnm : nameOk s
  · rw [if_neg (by simp)]
    exact c_false rfl
  · refine (c_true (by rfl)).trans ?_
    rw [reserved_eq, Option.bind_some, hw, Option.bind_some]
    cases hl : inL s wordsL
    · rw [if_pos ⟨rfl, rfl⟩]
      exact c_true rfl
    · rw [if_neg (by simp)]
      exact c_false rfl
/-- A word that is no value. -/
theorem letter_num {s : ByteArray} {c : UInt8} {t : List UInt8} (hc : s.data.toList = c :: t) (h1 : 97 ≤ c.toNat) (h2 : c.toNat ≤ 122) (n1 : s ≠ tNil) (n2 : s ≠ tTrue) (n3 : s ≠ tFalse) : (vread s).2 ≠ 0 := by
  rw [vread_answ, preV_eq, if_neg n1, if_neg n2, if_neg n3, if_neg (by
    rintro ⟨_, h, _⟩
    rw [hc] at h
    injection h with h
    subst h
    exact absurd h1 (by decide))]
  have hno : preN s = none := by
    unfold preN
    have ha : Lib.atoiAll s.data.toList = Lib.signless (Lib.parseMag (c :: t)) := by rw [hc]; exact Lib.atoiAll_plain c t (by omega) (by omega)
    have hp : Lib.parseMag (c :: t) = Lib.parseUint10 0 (c :: t) := by unfold Lib.parseMag; rw [if_neg (by simp)]
    rw [ha, hp, Lib.parseUint10, if_neg (by omega)]
    rfl
  rw [hno]
  show (15 : Int) ≠ 0
  decide
theorem vread_true : (vread tTrue).2 = 0 := by
  rw [vread_answ, preV_eq, if_neg (by decide +kernel), if_pos rfl]
  rfl
theorem vread_false : (vread tFalse).2 = 0 := by
  rw [vread_answ, preV_eq, if_neg (by decide +kernel), if_neg (by decide +kernel), if_pos rfl]
  rfl
theorem vread_nil : (vread tNil).2 = 0 := by
  rw [vread_answ, preV_eq, if_pos rfl]
  rfl
theorem kind_char {s : ByteArray} {c : UInt8} {t : List UInt8} (hc : s.data.toList = c :: t) : (kindB s = 119 ↔ 97 ≤ c.toNat ∧ c.toNat ≤ 122) ∧ (kindB s = 110 ↔ 48 ≤ c.toNat ∧ c.toNat ≤ 57) ∧ (kindB s = 116 ↔ c = 34) := by
  have e34 : c = 34 ↔ c.toNat = 34 := ⟨fun h => by subst h; rfl, fun h => UInt8.toNat_inj.1 (by rw [h]; rfl)⟩
  rw [e34]
  unfold kindB
  rw [hc]
  simp only
  refine ⟨?_, ?_, ?_⟩
  all_goals
    constructor
    · intro h
      repeat' split at h
      all_goals first | (cases h; done) | assumption
    · intro h
      repeat' split
      all_goals first | rfl | omega
theorem name_kind {s : ByteArray} {c : UInt8} {t : List UInt8} (hc : s.data.toList = c :: t) (h : nameOk s = true) : kindB s = 119 := by
  rw [(kind_char hc).1]
  unfold nameOk nameUpto at h
  simp only [Bool.and_eq_true, decide_eq_true_eq] at h
  obtain ⟨h1, h2, _⟩ := h
  have h0 := List.all_eq_true.1 h1 0 (by simp; omega)
  have hb : bt s 0 = c.toNat := by unfold bt; rw [hc]; rfl
  rw [hb] at h0
  unfold nameC at h0
  simp only [Bool.or_eq_true, Bool.and_eq_true, decide_eq_true_eq] at h0
  rcases h0 with h0 | h0
  · exact h0
  · exact absurd h0.1 (by simp)
theorem ne_chars {s : ByteArray} (h : s ≠ emptyS) : ∃ c t, s.data.toList = c :: t := by
  cases hd : s.data.toList with
  | nil =>
    exfalso
    apply h
    have : s = bs s.data.toList := rfl
    rw [this, hd]
    rfl
  | cons c t => exact ⟨c, t, rfl⟩
/-- What is told at once. -/
theorem leaf_ref (m : Nat) {s : ByteArray} {l : Toks} {r : Option (DExp × Toks)} (hne : s ≠ emptyS) (hz : s.size ≤ 4000) (hl : leafOf (s :: l) = some r) : resR r (r82 (m + 1) () (s :: l, (false, ()))) := by
  obtain ⟨c, t, hc⟩ := ne_chars hne
  obtain ⟨k1, k2, k3⟩ := kind_char hc
  simp only [leafOf] at hl
  by_cases e1 : s = tOpen
  · rw [if_pos e1] at hl; cases hl
  rw [if_neg e1] at hl
  by_cases e2 : s = tDot
  · rw [if_pos e2] at hl
    subst e2
    have := atom_dot m l
    injection hl with hl
    rw [← hl]
    exact this
  rw [if_neg e2] at hl
  rw [atom_tok m hc e1 e2]
  by_cases e3 : kindB s = 110
  · rw [if_pos e3] at hl
    injection hl with hl
    rw [← hl, if_pos (show isLit c s from .inr (.inl (k2.1 e3)))]
    exact litR_eq s hz l
  rw [if_neg e3] at hl
  by_cases e4 : kindB s = 119 ∨ kindB s = 116
  · rw [if_neg (not_not_intro e4)] at hl
    by_cases hlit : isLit c s
    · rw [if_pos hlit]
      have hv := litR_eq s hz l
      by_cases h0 : (vread s).2 = 0
      · rw [if_pos h0] at hl hv
        injection hl with hl
        rw [← hl]
        exact hv
      · rw [if_neg h0] at hl hv
        have h34 : c = 34 := by
          rcases hlit with h | h | h | h | h
          · exact h
          · exact absurd (k2.2 h) e3
          · subst h; exact absurd vread_true h0
          · subst h; exact absurd vread_false h0
          · subst h; exact absurd vread_nil h0
        have hk : kindB s ≠ 119 := by rw [k3.2 h34]; decide
        cases hf : fnOf s with
        | some op => exact absurd (fn_kind hf) hk
        | none =>
          rw [hf] at hl
          simp only at hl
          rw [if_neg (fun h => hk h.1)] at hl
          injection hl with hl
          rw [← hl]
          exact hv
    · rw [if_neg hlit]
      have h19 : kindB s = 119 := e4.resolve_right (fun h => hlit (.inl (k3.1 h)))
      have hw := k1.1 h19
      have h0 : (vread s).2 ≠ 0 := letter_num hc hw.1 hw.2 (fun h => hlit (.inr (.inr (.inr (.inr h))))) (fun h => hlit (.inr (.inr (.inl h)))) (fun h => hlit (.inr (.inr (.inr (.inl h)))))
      rw [if_neg h0] at hl
      cases hf : fnOf s with
      | some op => rw [hf] at hl; cases hl
      | none =>
        rw [hf] at hl
        simp only at hl
        rw [wordR_key m hf hz]
        by_cases hk : nameOk s = true ∧ inL s wordsL = false
        · rw [if_pos ⟨h19, hk.1, hk.2⟩] at hl
          rw [if_pos hk]
          injection hl with hl
          rw [← hl]
          rfl
        · rw [if_neg (fun h => hk ⟨h.2.1, h.2.2⟩)] at hl
          rw [if_neg hk]
          injection hl with hl
          rw [← hl]
          exact ⟨_, _, rfl⟩
  · rw [if_pos e4] at hl
    injection hl with hl
    rw [← hl]
    have hlit : ¬ isLit c s := by
      rintro (h | h | h | h | h)
      · exact e4 (.inr (k3.2 h))
      · exact e3 (k2.2 h)
      · subst h; exact e4 (.inl (by decide +kernel))
      · subst h; exact e4 (.inl (by decide +kernel))
      · subst h; exact e4 (.inl (by decide +kernel))
    rw [if_neg hlit]
    have hf : fnOf s = none := by
      cases hf : fnOf s with
      | none => rfl
      | some op => exact absurd (.inl (fn_kind hf)) e4
    rw [wordR_key m hf hz, if_neg (fun h => e4 (.inl (name_kind hc h.1)))]
    exact ⟨_, _, rfl⟩
end Go.Proofs.YtdfgfjnpllncdaaGreatDoor.I

namespace Go.Proofs.YtdfgfjnpllncdaaGreatDoor.I
open Go.RowKit
set_option linter.unusedVariables false
set_option linter.unusedSimpArgs false
set_option linter.constructorNameAsVariable false
def TokNe (l : Toks) : Prop := ∀ s ∈ l, s ≠ emptyS
theorem TokNe.sub {q : Req} {l : Toks} {e : DExp} {l1 : Toks} (h : TokNe l) (hp : Ps q l (some (e, l1))) : TokNe l1 := fun s hs => h s (ps_sub hp rfl s hs)
theorem TokNe.tail {s : ByteArray} {l : Toks} (h : TokNe (s :: l)) : TokNe l := fun x hx => h x (List.mem_cons_of_mem _ hx)
/-- What of the operators that follow is still taken, and what not. -/
def Rel (top n : Nat) (l : Toks) : Prop := ∀ op, opHd l = some op → (lev op < n ∧ lev op ≤ top ∧ ¬ (lev op = 4 ∧ top = 4)) ∨ (n ≤ lev op ∧ (top < lev op ∨ (lev op = 4 ∧ top = 4)))
theorem lev_ok {l : Toks} {op : Nat} (h : opHd l = some op) : 1 ≤ lev op ∧ lev op ≤ 6 ∧ lev op ≠ 3 := by
  obtain ⟨_, _, _, _, h6, h1, h3⟩ := marks_at op (opHd_dom h).1
  exact ⟨h1, h6, h3⟩
theorem Rel.stops {top n : Nat} {l : Toks} (h : Rel top n l) : StopsAt n top l := fun op ho => by
  rcases h op ho with h | h
  · exact .inl h.1
  · exact .inr h.2
def UpR (least n : Nat) (l : Toks) : Option (DExp × Toks) → Prop
  | none => Ev fun m => resR none (r45 m ((least : Int), ()) (l, (false, ())))
  | some (e, l1) => ∃ top : Nat, Rel top n l1 ∧ ∀ X, (Ev fun m => resR X (r80 m (e, ((least : Int), ((top : Int), ()))) (l1, (false, ())))) → Ev fun m => resR X (r45 m ((least : Int), ()) (l, (false, ())))
def ChR (least top n : Nat) (e : DExp) (l : Toks) : Option (DExp × Toks) → Prop
  | none => Ev fun m => resR none (r80 m (e, ((least : Int), ((top : Int), ()))) (l, (false, ())))
  | some (e', l') => ∃ top' : Nat, Rel top' n l' ∧ ∀ X, (Ev fun m => resR X (r80 m (e', ((least : Int), ((top' : Int), ()))) (l', (false, ())))) → Ev fun m => resR X (r80 m (e, ((least : Int), ((top : Int), ()))) (l, (false, ())))
noncomputable def FolR : Req → Toks → Option (DExp × Toks) → Prop
  | .at n, l, r => TokOk l → TokNe l → if n = 8 then Ev fun m => resR r (r82 m () (l, (false, ()))) else ∀ least, 1 ≤ least → least ≤ n → (4 ≤ n → noNot least l) → UpR least n l r
  | .chain n e, l, r => TokOk l → TokNe l → BinL n → ∀ least top, 1 ≤ least → least ≤ n → Rel top (n + 1) l → ChR least top n e l r
  | .args op k acc, l, r => TokOk l → TokNe l → acc.length + k ≤ 9 → Ev fun m => resR r (Option.bind (loop (stepR m ((acc.length + k : Nat) : Int)) (asr (acc.length : Int) op acc (l, (false, ())))) closeR)
theorem ev_shift {P : Nat → Prop} (h : Ev P) : Ev fun m => P (m + 1) := by
  obtain ⟨N, h⟩ := h
  exact ⟨N, fun n hn => h (n + 1) (by omega)⟩
theorem ev_from1 {P : Nat → Prop} (k : ∀ m, P (m + 1)) : Ev P := ⟨1, fun n hn => by
  obtain ⟨m, rfl⟩ : ∃ m, n = m + 1 := ⟨n - 1, by omega⟩
  exact k m⟩
/-- All of an operand. -/
theorem UpR.full {n : Nat} {l : Toks} {r : Option (DExp × Toks)} (h : UpR n n l r) : Ev fun m => resR r (r45 m ((n : Int), ()) (l, (false, ()))) := by
  cases r with
  | none => exact h
  | some p =>
    obtain ⟨e, l1⟩ := p
    obtain ⟨top, h1, h2⟩ := h
    exact h2 _ (ev_from1 fun m => after_stop m e n top l1 h1.stops)
theorem full_of {n : Nat} {l : Toks} {r : Option (DExp × Toks)} (h : FolR (.at n) l r) (hok : TokOk l) (hne : TokNe l) (h1 : 1 ≤ n) (h7 : n ≤ 7) : Ev fun m => resR r (r45 m ((n : Int), ()) (l, (false, ()))) := by
  have := h hok hne
  rw [if_neg (by omega)] at this
  exact (this n h1 (Nat.le_refl _) (fun h4 h3 => by omega)).full
/-- With an operand that comes to a fault. -/
theorem bad_after (least : Nat) (top : Int) {F : Nat → Option ((DExp × Unit) × RMem)} (g : (DExp × Unit) × RMem → DExp) (h : Ev fun m => resR none (F m)) : Ev fun m => resR none (Option.bind (F m) fun x => Option.bind (r80 m (g x, ((least : Int), (top, ()))) x.2) etaR) := by
  refine ev_mono (ev_and h (ev_from1 (P := fun m => ∃ k, m = k + 1) fun m => ⟨m, rfl⟩)) ?_
  rintro m ⟨⟨e, l', h1⟩, k, rfl⟩
  rw [h1, Option.bind_some]
  refine resR_eta ?_
  show resR none (r80 (k + 1) (g ((e, ()), (l', (true, ()))), ((least : Int), (top, ()))) (l', (true, ())))
  rw [after_bad]
  exact ⟨_, _, rfl⟩
/-- With an operand that is read. -/
theorem good_after (least : Nat) (top : Nat) {F : Nat → Option ((DExp × Unit) × RMem)} (g : (DExp × Unit) × RMem → DExp) {e : DExp} {l1 : Toks} (h : Ev fun m => resR (some (e, l1)) (F m)) {X : Option (DExp × Toks)} (k : Ev fun m => resR X (r80 m (g ((e, ()), (l1, (false, ()))), ((least : Int), ((top : Int), ()))) (l1, (false, ())))) : Ev fun m => resR X (Option.bind (F m) fun x => Option.bind (r80 m (g x, ((least : Int), ((top : Int), ()))) x.2) etaR) := by
  refine ev_mono (ev_and h k) ?_
  rintro m ⟨h1, h2⟩
  have h1 : F m = some ((e, ()), (l1, (false, ()))) := h1
  rw [h1, Option.bind_some]
  exact resR_eta h2
theorem rel9 (l : Toks) : Rel 9 7 l := fun op ho => by
  have := lev_ok ho
  exact .inl ⟨by omega, by omega, by omega⟩
set_option maxHeartbeats 4000000 in
theorem folR {q : Req} {l : Toks} {r : Option (DExp × Toks)} (h : Ps q l r) : FolR q l r := by
  induction h with
  | @bin n l e l1 r hb h1 h2 ih1 ih2 =>
    intro hok hne
    rw [if_neg (bin_lt hb)]
    intro least p1 p2 p3
    have i1 := ih1 hok hne
    rw [if_neg (at_lt hb)] at i1
    obtain ⟨top, hr, f⟩ := i1 least p1 (by omega) (fun h4 => p3 (by unfold BinL at hb; omega))
    have i2 := ih2 (hok.sub h1) (hne.sub h1) hb least top p1 p2 hr
    cases r with
    | none => exact f none i2
    | some p =>
      obtain ⟨e', l'⟩ := p
      obtain ⟨top', hr', g⟩ := i2
      exact ⟨top', hr', fun X hX => f X (g X hX)⟩
  | @binBad n l hb h1 ih1 =>
    intro hok hne
    rw [if_neg (bin_lt hb)]
    intro least p1 p2 p3
    have i1 := ih1 hok hne
    rw [if_neg (at_lt hb)] at i1
    exact i1 least p1 (by omega) (fun h4 => p3 (by unfold BinL at hb; omega))
  | @stop n e l h =>
    intro hok hne hb least top p1 p2 hr
    refine ⟨top, fun op ho => ?_, fun X hX => hX⟩
    have hn : lev op ≠ n := fun hl => by
      have := opAt_hd.2 ⟨ho, hl⟩
      rw [h] at this
      cases this
    rcases hr op ho with hh | hh
    · exact .inl ⟨by omega, hh.2⟩
    · exact .inr ⟨by omega, hh.2⟩
  | @go n e s l op e2 l2 r hb ho h4 h1 h2 ih1 ih2 =>
    intro hok hne _ least top p1 p2 hr
    obtain ⟨o1, o2⟩ := opAt_hd.1 ho
    have hn7 : n + 1 ≤ 7 := by unfold BinL at hb; omega
    have i1 := full_of ih1 hok.tail hne.tail (by omega) hn7
    have hr2 : Rel n (n + 1) l2 := fun op' ho' => by
      by_cases hl : lev op' < n + 1
      · exact .inl ⟨hl, by omega, fun hh => h4 hh.2⟩
      · exact .inr ⟨by omega, .inl (by omega)⟩
    have i2 := ih2 (hok.tail.sub h1) (hne.tail.sub h1) hb least n p1 p2 hr2
    have ht : lev op ≤ top ∧ ¬ (lev op = 4 ∧ top = 4) := by
      rcases hr op o1 with hh | hh
      · exact hh.2
      · omega
    have step : ∀ X, (Ev fun m => resR X (r80 m (nodeO (op : Int) [e, e2], ((least : Int), ((n : Int), ()))) (l2, (false, ())))) → Ev fun m => resR X (r80 m (e, ((least : Int), ((top : Int), ()))) (s :: l, (false, ()))) := fun X hX => by
      refine ev_succ (ev_and i1 (ev_shift hX)) ?_
      rintro m ⟨j1, j2⟩
      have j1 : r45 m (((n + 1 : Nat) : Int), ()) (l, (false, ())) = some ((e2, ()), (l2, (false, ()))) := j1
      rw [after_go m e least top s l o1 (by omega) ht.1 ht.2 (e2 := e2) (d2 := (l2, (false, ()))) (by rw [o2]; exact j1), o2]
      exact j2
    cases r with
    | none => exact step none i2
    | some p =>
      obtain ⟨e', l'⟩ := p
      obtain ⟨top', hr', g⟩ := i2
      exact ⟨top', hr', fun X hX => step X (g X hX)⟩
  | @go4 e s l op e2 l2 ho h1 ih1 =>
    intro hok hne hb least top p1 p2 hr
    obtain ⟨o1, o2⟩ := opAt_hd.1 ho
    have i1 := full_of ih1 hok.tail hne.tail (by omega) (by omega)
    have ht : lev op ≤ top ∧ ¬ (lev op = 4 ∧ top = 4) := by
      rcases hr op o1 with hh | hh
      · exact hh.2
      · omega
    refine ⟨4, fun op' ho' => ?_, fun X hX => ?_⟩
    · by_cases hl : lev op' < 4
      · exact .inl ⟨hl, by omega, by omega⟩
      · by_cases h4 : lev op' = 4
        · exact .inr ⟨by omega, .inr ⟨h4, rfl⟩⟩
        · exact .inr ⟨by omega, .inl (by omega)⟩
    · refine ev_succ (ev_and i1 (ev_shift hX)) ?_
      rintro m ⟨j1, j2⟩
      have j1 : r45 m (((5 : Nat) : Int), ()) (l, (false, ())) = some ((e2, ()), (l2, (false, ()))) := j1
      rw [after_go m e least top s l o1 (by omega) ht.1 ht.2 (e2 := e2) (d2 := (l2, (false, ()))) (by rw [o2]; exact j1), o2]
      exact j2
  | @goBad n e s l op hb ho h1 ih1 =>
    intro hok hne _ least top p1 p2 hr
    obtain ⟨o1, o2⟩ := opAt_hd.1 ho
    have hn7 : n + 1 ≤ 7 := by unfold BinL at hb; omega
    have i1 := full_of ih1 hok.tail hne.tail (by omega) hn7
    have ht : lev op ≤ top ∧ ¬ (lev op = 4 ∧ top = 4) := by
      rcases hr op o1 with hh | hh
      · exact hh.2
      · omega
    refine ev_succ i1 ?_
    rintro m ⟨e2, l', j1⟩
    have j1 : r45 m (((n + 1 : Nat) : Int), ()) (l, (false, ())) = some ((e2, ()), (l', (true, ()))) := j1
    rw [after_go m e least top s l o1 (by omega) ht.1 ht.2 (e2 := e2) (d2 := (l', (true, ()))) (by rw [o2]; exact j1), after_bad]
    exact ⟨_, _, rfl⟩
  | @notY l e l1 h1 ih1 =>
    intro hok hne
    rw [if_neg (by decide)]
    intro least p1 p2 p3
    have i1 := full_of ih1 hok.tail hne.tail (by omega) (by omega)
    refine ⟨3, fun op ho => ?_, fun X hX => ?_⟩
    · have := lev_ok ho
      by_cases hl : lev op < 3
      · exact .inl ⟨hl, by omega, by omega⟩
      · exact .inr ⟨by omega, .inl (by omega)⟩
    · refine ev_succ (good_after least 3 (fun x => nodeO 5 [Tree.node (Tree.val x.1.1) (Tree.kids x.1.1)]) i1 (by simp only [nd_eta2]; exact hX)) fun m j => ?_
      rw [upto_not m least p2]
      exact j
  | @notBad l h1 ih1 =>
    intro hok hne
    rw [if_neg (by decide)]
    intro least p1 p2 p3
    have i1 := full_of ih1 hok.tail hne.tail (by omega) (by omega)
    refine ev_succ (bad_after least 3 (fun x => nodeO 5 [Tree.node (Tree.val x.1.1) (Tree.kids x.1.1)]) i1) fun m j => ?_
    rw [upto_not m least p2]
    exact j
  | @nonot l r hn h1 ih1 =>
    intro hok hne
    rw [if_neg (by decide)]
    intro least p1 p2 p3
    have i1 := ih1 hok hne
    rw [if_neg (by decide)] at i1
    have i1 := i1 least p1 (by omega) (fun _ _ => hn)
    cases r with
    | none => exact i1
    | some p =>
      obtain ⟨e', l'⟩ := p
      obtain ⟨top, hr, f⟩ := i1
      refine ⟨top, fun op ho => ?_, f⟩
      have := lev_ok ho
      rcases hr op ho with hh | hh
      · exact .inl ⟨by omega, hh.2⟩
      · exact .inr ⟨by omega, hh.2⟩
  | @neg l e l1 hn h1 ih1 =>
    intro hok hne
    rw [if_neg (by decide)]
    intro least p1 p2 p3
    have i1 := full_of ih1 hok.tail hne.tail (by omega) (by omega)
    refine ⟨9, rel9 _, fun X hX => ?_⟩
    refine ev_succ (good_after least 9 (fun x => nodeO 17 [Tree.node (Tree.val x.1.1) (Tree.kids x.1.1)]) i1 (by simp only [nd_eta2]; exact hX)) fun m j => ?_
    rw [upto_minus m least l hok.tail, if_neg (by rw [hn]; simp)]
    exact j
  | @negBad l hn h1 ih1 =>
    intro hok hne
    rw [if_neg (by decide)]
    intro least p1 p2 p3
    have i1 := full_of ih1 hok.tail hne.tail (by omega) (by omega)
    refine ev_succ (bad_after least 9 (fun x => nodeO 17 [Tree.node (Tree.val x.1.1) (Tree.kids x.1.1)]) i1) fun m j => ?_
    rw [upto_minus m least l hok.tail, if_neg (by rw [hn]; simp)]
    exact j
  | @negNum d l hk hv =>
    intro hok hne
    rw [if_neg (by decide)]
    intro least p1 p2 p3
    have hz : (tMinus ++ d).size ≤ 281474976710656 := by
      have := hok d (by simp)
      rw [ByteArray.size_append]
      have : tMinus.size = 1 := rfl
      omega
    have hl := literal_eq (tMinus ++ d) hz l false
    rw [if_pos hv] at hl
    refine ⟨9, rel9 _, fun X hX => ?_⟩
    refine ev_succ (good_after least 9 (fun x => Tree.node (Tree.val x.1.1) (Tree.kids x.1.1)) (F := fun _ => r81 (tMinus ++ d, ()) (l, (false, ()))) (ev_all fun _ => hl) (by simp only [nd_eta2]; exact hX)) fun m j => ?_
    rw [upto_minus m least (d :: l) hok.tail, if_pos (show numHead (d :: l) = true from decide_eq_true hk)]
    exact j
  | @negNumBad d l hk hv =>
    intro hok hne
    rw [if_neg (by decide)]
    intro least p1 p2 p3
    have hz : (tMinus ++ d).size ≤ 281474976710656 := by
      have := hok d (by simp)
      rw [ByteArray.size_append]
      have : tMinus.size = 1 := rfl
      omega
    have hl := literal_eq (tMinus ++ d) hz l false
    rw [if_neg hv] at hl
    refine ev_succ (bad_after least 9 (fun x => Tree.node (Tree.val x.1.1) (Tree.kids x.1.1)) (F := fun _ => r81 (tMinus ++ d, ()) (l, (false, ()))) (ev_all fun _ => ⟨_, _, hl⟩)) fun m j => ?_
    rw [upto_minus m least (d :: l) hok.tail, if_pos (show numHead (d :: l) = true from decide_eq_true hk)]
    exact j
  | @prim l r hn h1 ih1 =>
    intro hok hne
    rw [if_neg (by decide)]
    intro least p1 p2 p3
    have i1 := ih1 hok hne
    rw [if_pos rfl] at i1
    cases r with
    | none =>
      refine ev_succ (bad_after least 9 (fun x => Tree.node (Tree.val x.1.1) (Tree.kids x.1.1)) i1) fun m j => ?_
      rw [upto_else m least l (p3 (by omega)) hn]
      exact j
    | some p =>
      obtain ⟨e', l'⟩ := p
      refine ⟨9, rel9 _, fun X hX => ?_⟩
      refine ev_succ (good_after least 9 (fun x => Tree.node (Tree.val x.1.1) (Tree.kids x.1.1)) i1 (by simp only [nd_eta2]; exact hX)) fun m j => ?_
      rw [upto_else m least l (p3 (by omega)) hn]
      exact j
  | @par l e l1 h1 ih1 =>
    intro hok hne
    rw [if_pos rfl]
    refine ev_succ (full_of ih1 hok.tail hne.tail (by omega) (by omega)) fun m j => ?_
    have j : r45 m ((1 : Int), ()) (l, (false, ())) = some ((e, ()), (tClose :: l1, (false, ()))) := j
    rw [atom_open, j, Option.bind_some]
    show Option.bind (r110 (tClose, ()) (tClose :: l1, (false, ()))) _ = _
    rw [want_hd, Option.bind_some, nd_eta2]
  | @parBad l h1 ih1 =>
    intro hok hne
    rw [if_pos rfl]
    refine ev_succ (full_of ih1 hok.tail hne.tail (by omega) (by omega)) ?_
    rintro m ⟨e, l', j⟩
    have j : r45 m ((1 : Int), ()) (l, (false, ())) = some ((e, ()), (l', (true, ()))) := j
    obtain ⟨l'', hw⟩ := want_bad tClose l'
    refine ⟨e, l'', ?_⟩
    rw [atom_open, j, Option.bind_some]
    show Option.bind (r110 (tClose, ()) (l', (true, ()))) _ = _
    rw [hw, Option.bind_some, nd_eta2]
  | @parNo l e l1 h1 hc ih1 =>
    intro hok hne
    rw [if_pos rfl]
    refine ev_succ (full_of ih1 hok.tail hne.tail (by omega) (by omega)) fun m j => ?_
    have j : r45 m ((1 : Int), ()) (l, (false, ())) = some ((e, ()), (l1, (false, ()))) := j
    obtain ⟨l'', hw⟩ := want_no tClose ne_close l1 false hc
    refine ⟨e, l'', ?_⟩
    rw [atom_open, j, Option.bind_some]
    show Option.bind (r110 (tClose, ()) (l1, (false, ()))) _ = _
    rw [hw, Option.bind_some, nd_eta2]
  | @leaf l r hl =>
    intro hok hne
    rw [if_pos rfl]
    refine ev_from1 fun m => ?_
    cases l with
    | nil =>
      simp only [leafOf, Option.some.injEq] at hl
      subst hl
      exact ⟨_, _, atom_nil m⟩
    | cons s l => exact leaf_ref m (hne s (by simp)) (hok s (by simp)) hl
  | @fnY s l op r hl hf h1 ih1 =>
    intro hok hne
    rw [if_pos rfl]
    obtain ⟨k3, kk⟩ := fnOf_kids hf
    obtain ⟨c, t, hc⟩ := ne_chars (hne s (by simp))
    have hk := fn_kind hf
    have n1 : s ≠ tOpen := by rintro rfl; exact absurd hk (by decide +kernel)
    have n2 : s ≠ tDot := by rintro rfl; exact absurd hk (by decide +kernel)
    have hnl : ¬ isLit c s := by
      obtain ⟨c1, c2, c3⟩ := kind_char hc
      have h0 := leaf_fn hf hl
      rintro (h | h | h | h | h)
      · rw [c3.2 h] at hk; cases hk
      · rw [c2.2 h] at hk; cases hk
      · subst h; exact h0 vread_true
      · subst h; exact h0 vread_false
      · subst h; exact h0 vread_nil
    refine ev_succ (ih1 hok.tail.tail hne.tail.tail (by simp; omega)) fun m j => ?_
    simp only [List.length_nil, Nat.zero_add] at j
    rw [kk] at j
    rw [atom_tok m hc n1 n2, if_neg hnl, wordR_fn m hf, want_hd, Option.bind_some]
    exact j
  | @fnNo s l op hl hf hcl =>
    intro hok hne
    rw [if_pos rfl]
    obtain ⟨k3, kk⟩ := fnOf_kids hf
    obtain ⟨c, t, hc⟩ := ne_chars (hne s (by simp))
    have hk := fn_kind hf
    have n1 : s ≠ tOpen := by rintro rfl; exact absurd hk (by decide +kernel)
    have n2 : s ≠ tDot := by rintro rfl; exact absurd hk (by decide +kernel)
    have hnl : ¬ isLit c s := by
      obtain ⟨c1, c2, c3⟩ := kind_char hc
      have h0 := leaf_fn hf hl
      rintro (h | h | h | h | h)
      · rw [c3.2 h] at hk; cases hk
      · rw [c2.2 h] at hk; cases hk
      · subst h; exact h0 vread_true
      · subst h; exact h0 vread_false
      · subst h; exact h0 vread_nil
    refine ⟨2, fun n hn => ?_⟩
    obtain ⟨m, rfl⟩ : ∃ m, n = m + 1 + 1 := ⟨n - 2, by omega⟩
    obtain ⟨l', hw⟩ := want_no tOpen ne_open l false hcl
    have hb := rargs_bad m op (kidsN op).toNat (by omega) (kidsN op).toNat 0 [] l' (by omega) rfl
    rw [kk] at hb
    rw [atom_tok (m + 1) hc n1 n2, if_neg hnl, wordR_fn (m + 1) hf, hw, Option.bind_some]
    exact hb
  | @argsEnd op acc l =>
    intro hok hne h9
    refine ev_all fun m => ?_
    simp only [Nat.add_zero]
    rw [loop_inr (stepR_end _ _ _ _ _), Option.bind_some]
    exact closeR_eq (nodeO op acc) (tClose :: l, (false, ())) (want_hd tClose l false)
  | @argsNo op acc l hc =>
    intro hok hne h9
    refine ev_all fun m => ?_
    simp only [Nat.add_zero]
    rw [loop_inr (stepR_end _ _ _ _ _), Option.bind_some]
    obtain ⟨l', hw⟩ := want_no tClose ne_close l false hc
    exact ⟨_, l', closeR_eq (nodeO op acc) (l, (false, ())) hw⟩
  | @argOne op k l e l1 r h1 h2 ih1 ih2 =>
    intro hok hne h9
    simp only [List.length_nil, Nat.zero_add] at h9
    refine ev_mono (ev_and (full_of ih1 hok hne (by omega) (by omega)) (ih2 (hok.sub h1) (hne.sub h1) (by simp; omega))) ?_
    rintro m ⟨j1, j2⟩
    have j1 : r45 m ((1 : Int), ()) (l, (false, ())) = some ((e, ()), (l1, (false, ()))) := j1
    simp only [List.length_nil, Nat.zero_add, List.length_cons] at j2 ⊢
    rw [loop_inl (stepR_one (by omega) op _ j1)]
    rw [Nat.add_comm 1 k] at j2
    exact j2
  | @argOneBad op k l h1 ih1 =>
    intro hok hne h9
    simp only [List.length_nil, Nat.zero_add] at h9
    refine ev_succ (ev_shift (full_of ih1 hok hne (by omega) (by omega))) ?_
    rintro m ⟨e, l', j1⟩
    have j1 : r45 (m + 1) ((1 : Int), ()) (l, (false, ())) = some ((e, ()), (l', (true, ()))) := j1
    simp only [List.length_nil, Nat.zero_add]
    rw [loop_inl (stepR_one (by omega) op _ j1)]
    exact rargs_bad m op (k + 1) (by omega) k 1 [e] l' (by omega) rfl
  | @argMore op k acc l e l1 r hna h1 h2 ih1 ih2 =>
    intro hok hne h9
    have hpos : 0 < acc.length := List.length_pos_iff.2 hna
    refine ev_mono (ev_and (full_of ih1 hok.tail hne.tail (by omega) (by omega)) (ih2 (hok.tail.sub h1) (hne.tail.sub h1) (by simp; omega))) ?_
    rintro m ⟨j1, j2⟩
    have j1 : r45 m ((1 : Int), ()) (l, (false, ())) = some ((e, ()), (l1, (false, ()))) := j1
    rw [loop_inl (stepR_more hpos (by omega) h9 op acc rfl _ (want_hd tComma l false) j1)]
    simp only [List.length_append, List.length_cons, List.length_nil, Nat.zero_add] at j2
    rw [show acc.length + 1 + k = acc.length + (k + 1) by omega] at j2
    exact j2
  | @argMoreBad op k acc l hna h1 ih1 =>
    intro hok hne h9
    have hpos : 0 < acc.length := List.length_pos_iff.2 hna
    refine ev_succ (ev_shift (full_of ih1 hok.tail hne.tail (by omega) (by omega))) ?_
    rintro m ⟨e, l', j1⟩
    have j1 : r45 (m + 1) ((1 : Int), ()) (l, (false, ())) = some ((e, ()), (l', (true, ()))) := j1
    rw [loop_inl (stepR_more hpos (by omega) h9 op acc rfl _ (want_hd tComma l false) j1)]
    exact rargs_bad m op (acc.length + (k + 1)) h9 k (acc.length + 1) (acc ++ [e]) l' (by omega) (by simp)
  | @argNo op k acc l hna hc =>
    intro hok hne h9
    have hpos : 0 < acc.length := List.length_pos_iff.2 hna
    refine ev_from1 fun m => ?_
    obtain ⟨l', hw⟩ := want_no tComma ne_comma l false hc
    rw [loop_inl (stepR_more hpos (by omega) h9 op acc rfl _ hw (upto_bad m 1 l'))]
    exact rargs_bad m op (acc.length + (k + 1)) h9 k (acc.length + 1) (acc ++ [zE]) l' (by omega) (by simp)
end Go.Proofs.YtdfgfjnpllncdaaGreatDoor.I

namespace Go.Proofs.YtdfgfjnpllncdaaGreatDoor.I
open Go.RowKit
set_option linter.unusedVariables false
set_option linter.unusedSimpArgs false
set_option linter.constructorNameAsVariable false
def isLt (c : UInt8) : Bool := decide (97 ≤ c.toNat ∧ c.toNat ≤ 122)
def isDg (c : UInt8) : Bool := decide (48 ≤ c.toNat ∧ c.toNat ≤ 57)
def isWd (c : UInt8) : Bool := isLt c || (isDg c || decide (c.toNat = 95))
def two (l : List UInt8) : Bool := Lib.hasPrefix l [33, 61] || (Lib.hasPrefix l [60, 61] || Lib.hasPrefix l [62, 61])
def oneL : List UInt8 := [61, 60, 62, 43, 45, 42, 47, 37, 40, 41, 44, 46]
/-- How long the first token is; 0: there is none. -/
def tokLen : List UInt8 → Nat
  | [] => 0
  | c :: r => if isLt c = true then ((c :: r).takeWhile isWd).length else if isDg c = true then ((c :: r).takeWhile isDg).length else if c = 34 then (if Lib.indexByte r 34 < 0 then 0 else (Lib.indexByte r 34 + 2).toNat)
    else if two (c :: r) = true then 2 else if 0 ≤ Lib.indexByte oneL c then 1 else 0
theorem index_lt : ∀ (l : List UInt8) (c : UInt8), Lib.indexByte l c < (l.length : Int)
  | [], c => by simp [Lib.indexByte]
  | b :: l, c => by
    have := index_lt l c
    have := Lib.indexByte_ge l c
    unfold Lib.indexByte
    simp only [List.length_cons]
    split
    · omega
    · split
      · omega
      · omega
theorem two_len2 {l : List UInt8} (h : two l = true) : 2 ≤ l.length := by
  match l, h with
  | [], h => revert h; decide
  | [a], h =>
    exfalso
    simp [two, Lib.hasPrefix, List.isPrefixOf] at h
  | a :: b :: l, _ => simp
theorem take_le {α : Type} (p : α → Bool) (l : List α) : (l.takeWhile p).length ≤ l.length := by
  have h := List.takeWhile_append_dropWhile (p := p) (l := l)
  have h2 := congrArg List.length h
  rw [List.length_append] at h2
  omega
theorem tokLen_cons (c : UInt8) (r : List UInt8) : tokLen (c :: r) = if isLt c = true then ((c :: r).takeWhile isWd).length else if isDg c = true then ((c :: r).takeWhile isDg).length else if c = 34 then (if Lib.indexByte r 34 < 0 then 0 else (Lib.indexByte r 34 + 2).toNat)
    else if two (c :: r) = true then 2 else if 0 ≤ Lib.indexByte oneL c then 1 else 0 := rfl
theorem tokLen_le : ∀ (l : List UInt8), tokLen l ≤ l.length
  | [] => Nat.le_refl _
  | c :: r => by
    rw [tokLen_cons]
    have h0 := index_lt r 34
    have h1 := Lib.indexByte_ge r 34
    split
    · exact take_le _ _
    split
    · exact take_le _ _
    split
    · split
      · exact Nat.zero_le _
      · simp only [List.length_cons]; omega
    split
    · rename_i h; exact two_len2 h
    split
    · simp
    · exact Nat.zero_le _
/-- The tokens of a text. -/
def lexS (l : List UInt8) : Option (List ByteArray) :=
  match l with
  | [] => some []
  | c :: r => if c = 32 then lexS r else if h : tokLen (c :: r) = 0 then none else (lexS ((c :: r).drop (tokLen (c :: r)))).map (fun ts => bs ((c :: r).take (tokLen (c :: r))) :: ts)
  termination_by l.length
  decreasing_by
    · simp
    · simp only [List.length_drop, List.length_cons]
      omega
theorem lexS_nil : lexS [] = some [] := by rw [lexS]
theorem lexS_space (r : List UInt8) : lexS (32 :: r) = lexS r := by rw [lexS, if_pos rfl]
theorem lexS_none {c : UInt8} {r : List UInt8} (hc : c ≠ 32) (h : tokLen (c :: r) = 0) : lexS (c :: r) = none := by rw [lexS, if_neg hc, dif_pos h]
theorem lexS_tok {c : UInt8} {r : List UInt8} (hc : c ≠ 32) (h : tokLen (c :: r) ≠ 0) : lexS (c :: r) = (lexS ((c :: r).drop (tokLen (c :: r)))).map (fun ts => bs ((c :: r).take (tokLen (c :: r))) :: ts) := by rw [lexS, if_neg hc, dif_neg h]
theorem lexS_trim : ∀ (l : List UInt8), lexS (Lib.trimLeftB l 32) = lexS l
  | [] => rfl
  | c :: r => by
    unfold Lib.trimLeftB
    by_cases hc : c = 32
    · subst hc
      rw [List.dropWhile_cons_of_pos (by rfl), lexS_space]
      exact lexS_trim r
    · rw [List.dropWhile_cons_of_neg (by simpa using hc)]
theorem trim_head (l : List UInt8) : (Lib.trimLeftB l 32).head? ≠ some 32 := by
  unfold Lib.trimLeftB
  induction l with
  | nil => simp
  | cons c r ih =>
    by_cases hc : c = 32
    · subst hc
      rw [List.dropWhile_cons_of_pos (by rfl)]
      exact ih
    · rw [List.dropWhile_cons_of_neg (by simpa using hc)]
      simpa using hc
theorem trim_le (l : List UInt8) : (Lib.trimLeftB l 32).length ≤ l.length := by
  unfold Lib.trimLeftB
  have h := List.takeWhile_append_dropWhile (p := (· == (32 : UInt8))) (l := l)
  have h2 := congrArg List.length h
  rw [List.length_append] at h2
  omega
theorem ba_eq {a b : ByteArray} (h : a.data.toList = b.data.toList) : a = b := by
  have e1 : a = bs a.data.toList := rfl
  have e2 : b = bs b.data.toList := rfl
  rw [e1, e2, h]
theorem ext_take (l : List UInt8) (n : Nat) : (bs l).extract 0 n = bs (l.take n) := by
  apply ba_eq
  rw [ByteArray.data_extract, Array.toList_extract]
  simp only [List.extract_eq_take_drop, List.drop_zero, Nat.sub_zero]
  rfl
theorem ext_drop (l : List UInt8) (n m : Nat) (h : l.length ≤ m) : (bs l).extract n m = bs (l.drop n) := by
  apply ba_eq
  rw [ByteArray.data_extract, Array.toList_extract]
  simp only [List.extract_eq_take_drop]
  show (l.drop n).take (m - n) = l.drop n
  rw [List.take_of_length_le]
  rw [List.length_drop]
  omega
theorem bs_size (l : List UInt8) : (bs l).size = l.length := by rw [bytes_len]; rfl
/-- How far a run of bytes goes. -/
theorem span_loop {O : Type} (l : List UInt8) (p : UInt8 → Bool) (step : (Int × Unit) × Unit → Option (((Int × Unit) × Unit) ⊕ O)) (out : Int → O)
    (h1 : ∀ (k : Nat) (b : UInt8), l[k]? = some b → p b = true → step (((k : Int), ()), ()) = some (.inl ((((k : Int) + 1), ()), ())))
    (h2 : ∀ (k : Nat) (b : UInt8), l[k]? = some b → p b = false → step (((k : Int), ()), ()) = some (.inr (out k)))
    (h3 : step (((l.length : Int), ()), ()) = some (.inr (out l.length))) : ∀ (j k : Nat), k + j = l.length → loop step (((k : Int), ()), ()) = some (out ((k + ((l.drop k).takeWhile p).length : Nat) : Int))
  | 0, k, h => by
    have : k = l.length := by omega
    subst this
    rw [loop_eq, h3, List.drop_length]
    rfl
  | j + 1, k, h => by
    have hk : k < l.length := by omega
    have hd : l.drop k = l[k] :: l.drop (k + 1) := List.drop_eq_getElem_cons hk
    cases hp : p l[k] with
    | true =>
      rw [loop_eq, h1 k l[k] (List.getElem?_eq_getElem hk) hp]
      show loop step _ = _
      have ih := span_loop l p step out h1 h2 h3 j (k + 1) (by omega)
      have e : ((k + 1 : Nat) : Int) = (k : Int) + 1 := by omega
      rw [e] at ih
      rw [ih, hd, List.takeWhile_cons_of_pos hp]
      congr 2
      simp only [List.length_cons]
      omega
    | false =>
      rw [loop_eq, h2 k l[k] (List.getElem?_eq_getElem hk) hp, hd, List.takeWhile_cons_of_neg (by rw [hp]; simp)]
      rfl
theorem wd_eq (c : UInt8) : r67 (((c.toNat : Nat) : Int), ()) = some (isWd c, ()) := by
  unfold r67 isWd isLt isDg
  have a1 : decide ((97 : Int) ≤ ((c.toNat : Nat) : Int)) = decide (97 ≤ c.toNat) := decide_eq_decide.2 (by omega)
  have a2 : decide (((c.toNat : Nat) : Int) ≤ 122) = decide (c.toNat ≤ 122) := decide_eq_decide.2 (by omega)
  have a3 : decide ((48 : Int) ≤ ((c.toNat : Nat) : Int)) = decide (48 ≤ c.toNat) := decide_eq_decide.2 (by omega)
  have a4 : decide (((c.toNat : Nat) : Int) ≤ 57) = decide (c.toNat ≤ 57) := decide_eq_decide.2 (by omega)
  have a5 : decide (((c.toNat : Nat) : Int) = 95) = decide (c.toNat = 95) := decide_eq_decide.2 (by omega)
  simp only [a1, a2, a3, a4, a5, Bool.decide_and]
  generalize decide (97 ≤ c.toNat) = x1
  generalize decide (c.toNat ≤ 122) = x2
  generalize decide (48 ≤ c.toNat) = x3
  generalize decide (c.toNat ≤ 57) = x4
  generalize decide (c.toNat = 95) = x5
  cases x1 <;> cases x2 <;> cases x3 <;> cases x4 <;> cases x5 <;> rfl
theorem dg_eq (c : UInt8) : r68 (((c.toNat : Nat) : Int), ()) = some (isDg c, ()) := by
  unfold r68 isDg
  have a3 : decide ((48 : Int) ≤ ((c.toNat : Nat) : Int)) = decide (48 ≤ c.toNat) := decide_eq_decide.2 (by omega)
  have a4 : decide (((c.toNat : Nat) : Int) ≤ 57) = decide (c.toNat ≤ 57) := decide_eq_decide.2 (by omega)
  simp only [a3, a4, Bool.decide_and]
  generalize decide (48 ≤ c.toNat) = x3
  generalize decide (c.toNat ≤ 57) = x4
  cases x3 <;> cases x4 <;> rfl
theorem span_any (l : List UInt8) (hl : l.length ≤ 1000000) (p : UInt8 → Bool) (raw : (Int × Unit) → Option (Bool × Unit)) (hp : ∀ c : UInt8, raw (((c.toNat : Nat) : Int), ()) = some (p c, ())) (step : (Int × Unit) × Unit → Option (((Int × Unit) × Unit) ⊕ (((Int × Unit) × Unit) ⊕ Empty)))
    (hs : ∀ i : Int, step ((i, ()), ()) = cond (decide (i < ((bs l).size : Int))) (Option.bind (strAt (bs l) i) fun x1 => Option.bind (raw (((x1.toNat : Nat) : Int), ())) fun x2 => cond x2.1 (some (Sum.inl ((IntKind.wrap .i64 (i + 1), ()), ()))) (some (Sum.inr (Sum.inl ((i, ()), ()))))) (some (Sum.inr (Sum.inl ((i, ()), ()))))) :
    loop step (((0 : Int), ()), ()) = some (.inl (((((l.takeWhile p).length : Nat) : Int), ()), ())) := by
  have key := span_loop l p step (fun j => Sum.inl ((j, ()), ())) (fun k b hb hpb => by
      have hk := lt_of_get hb
      rw [hs, bs_size]
      refine (c_true (decide_eq_true (by omega))).trans ?_
      refine bind_of (x := b) (by rw [bytes_get]; exact hb) (bind_of (hp b) ?_)
      refine (c_true hpb).trans ?_
      rw [wrap64 (by omega) (by omega)]) (fun k b hb hpb => by
      have hk := lt_of_get hb
      rw [hs, bs_size]
      refine (c_true (decide_eq_true (by omega))).trans ?_
      refine bind_of (x := b) (by rw [bytes_get]; exact hb) (bind_of (hp b) ?_)
      exact c_false hpb) (by
      rw [hs, bs_size]
      exact c_false (decide_eq_false (by omega))) l.length 0 (by omega)
  rw [List.drop_zero, Nat.zero_add] at key
  exact key
theorem span1_eq (l : List UInt8) (hl : l.length ≤ 1000000) (u : Unit) : r66_67 (bs l, (u, ())) = some ((((l.takeWhile isWd).length : Nat) : Int), ()) := by
  unfold r66_67
  exact bind_of (span_any l hl isWd r67 wd_eq _ (by intros; rfl)) rfl
theorem span2_eq (l : List UInt8) (hl : l.length ≤ 1000000) (u : Unit) : r66_68 (bs l, (u, ())) = some ((((l.takeWhile isDg).length : Nat) : Int), ()) := by
  unfold r66_68
  exact bind_of (span_any l hl isDg r68 dg_eq _ (by intros; rfl)) rfl
end Go.Proofs.YtdfgfjnpllncdaaGreatDoor.I

namespace Go.Proofs.YtdfgfjnpllncdaaGreatDoor.I
open Go.RowKit
set_option linter.unusedVariables false
set_option linter.unusedSimpArgs false
set_option linter.constructorNameAsVariable false
theorem bindE {α β : Type} {o : Option α} {x : α} {f : α → Option β} {z : Option β} (h : o = some x) (k : f x = z) : Option.bind o f = z := by rw [h]; exact k
theorem upTo_le {n m : Nat} (h : n ≤ m) : upTo (n : Int) (m : Int) = true := by unfold upTo; simp; omega
theorem fits24 {k : Nat} (h : k ≤ 1000000) : fits k 24 = true := by unfold fits; simp; omega
theorem trim_eq (l : List UInt8) : r65 (bs l, (bs [32], ())) = some (bs (Lib.trimLeftB l 32), ()) := rfl
theorem tok_kind {c : UInt8} {r : List UInt8} {n : Nat} (hn : n ≠ 0) : ∃ t, (bs ((c :: r).take n)).data.toList = c :: t := by
  obtain ⟨m, rfl⟩ : ∃ m, n = m + 1 := ⟨n - 1, by omega⟩
  exact ⟨r.take m, rfl⟩
abbrev LSt := TokS × ByteArray × Unit
abbrev LOut := ((TokS × Bool × Unit) × Unit) ⊕ (((TokS × Unit) × Unit) ⊕ Empty)
theorem fin_tok (c : UInt8) (r : List UInt8) (out : TokS) (n : Nat) (h1 : n ≠ 0) (h2 : n ≤ (c :: r).length) (ho : out.length ≤ 10000) (k nI : Int) (hk : k = kindB (bs ((c :: r).take n))) (hn : nI = (n : Int)) :
    cond (upTo nI ((bs (c :: r)).size : Int)) (cond (fits (out.length + [((bs (c :: r)).extract 0 (Int.toNat nI), (k, ()))].length) 24) (cond (upTo nI ((bs (c :: r)).size : Int)) (Option.bind (r65 ((bs (c :: r)).extract (Int.toNat nI) (bs (c :: r)).size, (bs [32], ()))) fun x4 => some (Sum.inl ((out ++ [((bs (c :: r)).extract 0 (Int.toNat nI), (k, ()))], (x4.1, ())), ()))) none) none) none
      = (some (Sum.inl ((out ++ [(bs ((c :: r).take n), (kindB (bs ((c :: r).take n)), ()))], (bs (Lib.trimLeftB ((c :: r).drop n) 32), ())), ())) : Option ((LSt × Unit) ⊕ LOut)) := by
  subst hn hk
  rw [Int.toNat_natCast, ext_take, ext_drop _ _ _ (by rw [bs_size]; exact Nat.le_refl _), bs_size]
  refine (c_true (upTo_le h2)).trans ?_
  refine (c_true (fits24 (by show out.length + 1 ≤ 1000000; omega))).trans ?_
  refine (c_true (upTo_le h2)).trans ?_
  exact bind_of (trim_eq _) rfl
theorem isLt_iff (c : UInt8) : isLt c = true ↔ 97 ≤ c.toNat ∧ c.toNat ≤ 122 := by unfold isLt; exact decide_eq_true_iff
theorem isDg_iff (c : UInt8) : isDg c = true ↔ 48 ≤ c.toNat ∧ c.toNat ≤ 57 := by unfold isDg; exact decide_eq_true_iff
theorem two_eq (c : UInt8) (r : List UInt8) : inL ((bs (c :: r)).extract 0 (Int.toNat (minI 2 ((bs (c :: r)).size : Int)))) [bs [33, 61], bs [60, 61], bs [62, 61]] = two (c :: r) := by
  have bsi : ∀ a b : List UInt8, bs a = bs b ↔ a = b := fun a b => ⟨fun h => by have := congrArg (fun x : ByteArray => x.data.toList) h; exact this, fun h => by rw [h]⟩
  rw [ext_take, bs_size]
  cases r with
  | nil =>
    have hm : Int.toNat (minI 2 (([c] : List UInt8).length : Int)) = 1 := rfl
    rw [hm]
    simp [inL, two, Lib.hasPrefix, List.isPrefixOf, bsi]
  | cons d r =>
    have hm : Int.toNat (minI 2 ((c :: d :: r).length : Int)) = 2 := by
      have : minI 2 ((c :: d :: r).length : Int) = 2 := by
        unfold minI
        simp only [List.length_cons]
        split <;> omega
      rw [this]; rfl
    rw [hm]
    simp only [List.take_succ_cons, List.take_zero, inL, two, Lib.hasPrefix, List.isPrefixOf, List.any_cons, List.any_nil, Bool.or_false, Bool.and_true, bsi, List.cons.injEq, and_true, Bool.decide_and]
    have e : ∀ a b : UInt8, decide (a = b) = (b == a) := fun a b => by
      by_cases h : a = b
      · subst h; simp
      · rw [decide_eq_false h]; simp [Ne.symm h]
    simp only [e]
set_option maxHeartbeats 4000000 in
theorem lexStep : ∃ (step : LSt × Unit → Option ((LSt × Unit) ⊕ LOut)) (fin : LOut → Option (TokS × Bool × Unit)),
    (∀ s, r42 (s, ()) = Option.bind (r65 (s, (bs [32], ()))) fun x0 => Option.bind (loop step (([], (x0.1, ())), ())) fin) ∧
    (∀ out, fin (.inr (.inl ((out, ()), ()))) = some (out, (true, ()))) ∧ (fin (.inl (([], (false, ())), ())) = some ([], (false, ()))) ∧
    (∀ out, step ((out, (bs [], ())), ()) = some (.inr (.inr (.inl ((out, ()), ()))))) ∧
    (∀ (c : UInt8) (r : List UInt8) (out : TokS), (c :: r).length ≤ 10000 → out.length ≤ 10000 → step ((out, (bs (c :: r), ())), ()) = if tokLen (c :: r) = 0 then some (.inr (.inl (([], (false, ())), ()))) else some (.inl ((out ++ [(bs ((c :: r).take (tokLen (c :: r))), (kindB (bs ((c :: r).take (tokLen (c :: r)))), ()))], (bs (Lib.trimLeftB ((c :: r).drop (tokLen (c :: r))) 32), ())), ()))) := by
  refine ⟨_, _, fun s => rfl, fun out => rfl, rfl, fun out => rfl, fun c r out hl ho => ?_⟩
  have hs0 : strAt (bs (c :: r)) (0 : Int) = some c := by rw [str0]; rfl
  have hsz : (bs (c :: r)).size = (c :: r).length := bs_size _
  have hne : decide (bs (c :: r) = bs []) = false := decide_eq_false (fun h => by
    have := congrArg (fun x : ByteArray => x.data.toList) h
    cases this)
  refine (c_true (show Bool.not (decide (bs (c :: r) = bs [])) = true by rw [hne]; rfl)).trans ?_
  refine bindE hs0 ?_
  have hle := tokLen_le (c :: r)
  have n97 : ∀ k : Nat, decide ((k : Int) ≤ ((c.toNat : Nat) : Int)) = decide (k ≤ c.toNat) := fun k => decide_eq_decide.2 (by omega)
  by_cases hL : isLt c = true
  · have hc := (isLt_iff c).1 hL
    have ht : tokLen (c :: r) = ((c :: r).takeWhile isWd).length := by rw [tokLen_cons, if_pos hL]
    have hw : isWd c = true := by unfold isWd; rw [hL]; rfl
    have h0 : ((c :: r).takeWhile isWd).length ≠ 0 := by rw [List.takeWhile_cons_of_pos hw]; simp
    rw [ht] at hle ⊢
    rw [if_neg h0]
    refine (c_true (decide_eq_true (show (97 : Int) ≤ ((c.toNat : Nat) : Int) by omega))).trans ?_
    refine (c_true (decide_eq_true (show ((c.toNat : Nat) : Int) ≤ 122 by omega))).trans ?_
    refine bindE (span1_eq (c :: r) (by omega) ()) ?_
    obtain ⟨t, hk⟩ := tok_kind (c := c) (r := r) h0
    exact fin_tok c r out _ h0 hle ho 119 _ ((kind_char hk).1.2 hc).symm rfl
  have nL : ¬ (97 ≤ c.toNat ∧ c.toNat ≤ 122) := fun h => hL ((isLt_iff c).2 h)
  by_cases hD : isDg c = true
  · have hc := (isDg_iff c).1 hD
    have ht : tokLen (c :: r) = ((c :: r).takeWhile isDg).length := by rw [tokLen_cons, if_neg hL, if_pos hD]
    have h0 : ((c :: r).takeWhile isDg).length ≠ 0 := by rw [List.takeWhile_cons_of_pos hD]; simp
    rw [ht] at hle ⊢
    rw [if_neg h0]
    refine (c_false (decide_eq_false (show ¬ (97 : Int) ≤ ((c.toNat : Nat) : Int) by omega))).trans ?_
    refine (c_true (decide_eq_true (show (48 : Int) ≤ ((c.toNat : Nat) : Int) by omega))).trans ?_
    refine (c_true (decide_eq_true (show ((c.toNat : Nat) : Int) ≤ 57 by omega))).trans ?_
    refine bindE (span2_eq (c :: r) (by omega) ()) ?_
    obtain ⟨t, hk⟩ := tok_kind (c := c) (r := r) h0
    exact fin_tok c r out _ h0 hle ho 110 _ ((kind_char hk).2.1.2 hc).symm rfl
  have nD : ¬ (48 ≤ c.toNat ∧ c.toNat ≤ 57) := fun h => hD ((isDg_iff c).2 h)
  have key : ∀ z : Option ((LSt × Unit) ⊕ LOut), z = cond (decide (((c.toNat : Nat) : Int) = (34 : Int)))
      (cond (upTo (1 : Int) ((bs (c :: r)).size : Int)) (Option.bind (r69 ((bs (c :: r)).extract 1 (bs (c :: r)).size, ((34 : Int), ()))) fun x3 => cond (decide (IntKind.wrap .i64 (x3.1 + 2) < (2 : Int))) (some (Sum.inr (Sum.inl (([], (false, ())), ()))))
        (cond (upTo (IntKind.wrap .i64 (x3.1 + 2)) ((bs (c :: r)).size : Int)) (cond (fits (out.length + [((bs (c :: r)).extract 0 (Int.toNat (IntKind.wrap .i64 (x3.1 + 2))), ((116 : Int), ()))].length) 24) (cond (upTo (IntKind.wrap .i64 (x3.1 + 2)) ((bs (c :: r)).size : Int)) (Option.bind (r65 ((bs (c :: r)).extract (Int.toNat (IntKind.wrap .i64 (x3.1 + 2))) (bs (c :: r)).size, (bs [32], ()))) fun x4 => some (Sum.inl ((out ++ [((bs (c :: r)).extract 0 (Int.toNat (IntKind.wrap .i64 (x3.1 + 2))), ((116 : Int), ()))], (x4.1, ())), ()))) none) none) none)) none)
      (cond (upTo (minI 2 ((bs (c :: r)).size : Int)) ((bs (c :: r)).size : Int)) (Option.bind (r26 ([bs [33, 61], bs [60, 61], bs [62, 61]], ((bs (c :: r)).extract 0 (Int.toNat (minI 2 ((bs (c :: r)).size : Int))), ()))) fun x3 => cond x3.1
        (cond (upTo (2 : Int) ((bs (c :: r)).size : Int)) (cond (fits (out.length + [((bs (c :: r)).extract 0 (Int.toNat 2), ((115 : Int), ()))].length) 24) (cond (upTo (2 : Int) ((bs (c :: r)).size : Int)) (Option.bind (r65 ((bs (c :: r)).extract (Int.toNat 2) (bs (c :: r)).size, (bs [32], ()))) fun x4 => some (Sum.inl ((out ++ [((bs (c :: r)).extract 0 (Int.toNat 2), ((115 : Int), ()))], (x4.1, ())), ()))) none) none) none)
        (Option.bind (r69 (bs oneL, (((c.toNat : Nat) : Int), ()))) fun x4 => cond (decide ((0 : Int) ≤ x4.1))
          (cond (upTo (1 : Int) ((bs (c :: r)).size : Int)) (cond (fits (out.length + [((bs (c :: r)).extract 0 (Int.toNat 1), ((115 : Int), ()))].length) 24) (cond (upTo (1 : Int) ((bs (c :: r)).size : Int)) (Option.bind (r65 ((bs (c :: r)).extract (Int.toNat 1) (bs (c :: r)).size, (bs [32], ()))) fun x5 => some (Sum.inl ((out ++ [((bs (c :: r)).extract 0 (Int.toNat 1), ((115 : Int), ()))], (x5.1, ())), ()))) none) none) none)
          (some (Sum.inr (Sum.inl (([], (false, ())), ())))))) none) →
      z = if tokLen (c :: r) = 0 then some (.inr (.inl (([], (false, ())), ()))) else some (.inl ((out ++ [(bs ((c :: r).take (tokLen (c :: r))), (kindB (bs ((c :: r).take (tokLen (c :: r)))), ()))], (bs (Lib.trimLeftB ((c :: r).drop (tokLen (c :: r))) 32), ())), ())) := by
    intro z hz
    rw [hz]
    by_cases hq : c = 34
    · have ht : tokLen (c :: r) = if Lib.indexByte r 34 < 0 then 0 else (Lib.indexByte r 34 + 2).toNat := by rw [tokLen_cons, if_neg hL, if_neg hD, if_pos hq]
      refine (c_true (by rw [c34]; exact decide_eq_true hq)).trans ?_
      refine (c_true (by rw [hsz]; exact upTo_le (n := 1) (by simp))).trans ?_
      have hix : r69 ((bs (c :: r)).extract 1 (bs (c :: r)).size, ((34 : Int), ())) = some (Lib.indexByte r 34, ()) := by
        rw [ext_drop _ _ _ (by rw [hsz]; exact Nat.le_refl _)]
        rfl
      refine bindE hix ?_
      have hge := Lib.indexByte_ge r 34
      have hlt := index_lt r 34
      simp only [List.length_cons] at hl
      have hw : IntKind.wrap .i64 (Lib.indexByte r 34 + 2) = Lib.indexByte r 34 + 2 := wrap64 (by omega) (by omega)
      by_cases hneg : Lib.indexByte r 34 < 0
      · rw [if_pos hneg] at ht
        rw [if_pos ht]
        exact c_true (decide_eq_true (by show IntKind.wrap .i64 (Lib.indexByte r 34 + 2) < 2; rw [hw]; omega))
      · rw [if_neg hneg] at ht
        have h0 : tokLen (c :: r) ≠ 0 := by rw [ht]; omega
        rw [if_neg h0]
        refine (c_false (decide_eq_false (by show ¬ IntKind.wrap .i64 (Lib.indexByte r 34 + 2) < 2; rw [hw]; omega))).trans ?_
        obtain ⟨t, hk⟩ := tok_kind (c := c) (r := r) h0
        exact fin_tok c r out _ h0 hle ho 116 _ ((kind_char hk).2.2.2 hq).symm (by rw [hw, ht]; omega)
    · refine (c_false (by rw [c34]; exact decide_eq_false hq)).trans ?_
      have hm : upTo (minI 2 ((bs (c :: r)).size : Int)) ((bs (c :: r)).size : Int) = true := by
        unfold upTo minI
        simp only [Bool.and_eq_true, decide_eq_true_eq]
        rw [hsz]
        simp only [List.length_cons]
        split <;> omega
      refine (c_true hm).trans ?_
      have hcn := contains_str [bs [33, 61], bs [60, 61], bs [62, 61]] ((bs (c :: r)).extract 0 (Int.toNat (minI 2 ((bs (c :: r)).size : Int)))) (by simp)
      rw [two_eq] at hcn
      refine bindE hcn ?_
      have k115 : ∀ n, n ≠ 0 → (115 : Int) = kindB (bs ((c :: r).take n)) := fun n hn => by
        obtain ⟨t, hk⟩ := tok_kind (c := c) (r := r) hn
        unfold kindB
        rw [hk]
        simp only
        have : c.toNat ≠ 34 := fun h => hq (UInt8.toNat_inj.1 (by rw [h]; rfl))
        rw [if_neg nL, if_neg nD, if_neg this]
      cases h2 : two (c :: r) with
      | true =>
        have ht : tokLen (c :: r) = 2 := by rw [tokLen_cons, if_neg hL, if_neg hD, if_neg hq, if_pos h2]
        refine (c_true rfl).trans ?_
        rw [ht] at hle ⊢
        rw [if_neg (by decide)]
        exact fin_tok c r out 2 (by decide) hle ho 115 2 (k115 2 (by decide)) rfl
      | false =>
        refine (c_false rfl).trans ?_
        have hix : r69 (bs oneL, (((c.toNat : Nat) : Int), ())) = some (Lib.indexByte oneL c, ()) := by
          have : (Int.toNat ((c.toNat : Nat) : Int)).toUInt8 = c := by
            rw [Int.toNat_natCast]
            exact UInt8.ofNat_toNat
          show some (Lib.indexByte oneL (Int.toNat ((c.toNat : Nat) : Int)).toUInt8, ()) = _
          rw [this]
        refine bindE hix ?_
        by_cases h1 : 0 ≤ Lib.indexByte oneL c
        · have ht : tokLen (c :: r) = 1 := by rw [tokLen_cons, if_neg hL, if_neg hD, if_neg hq, if_neg (by rw [h2]; simp), if_pos h1]
          refine (c_true (decide_eq_true h1)).trans ?_
          rw [ht] at hle ⊢
          rw [if_neg (by decide)]
          exact fin_tok c r out 1 (by decide) hle ho 115 1 (k115 1 (by decide)) rfl
        · have ht : tokLen (c :: r) = 0 := by rw [tokLen_cons, if_neg hL, if_neg hD, if_neg hq, if_neg (by rw [h2]; simp), if_neg h1]
          rw [if_pos ht]
          exact c_false (decide_eq_false h1)
  by_cases g1 : 97 ≤ c.toNat
  · refine (c_true (decide_eq_true (show (97 : Int) ≤ ((c.toNat : Nat) : Int) by omega))).trans ?_
    refine (c_false (decide_eq_false (show ¬ ((c.toNat : Nat) : Int) ≤ 122 by omega))).trans ?_
    refine (c_true (decide_eq_true (show (48 : Int) ≤ ((c.toNat : Nat) : Int) by omega))).trans ?_
    refine (c_false (decide_eq_false (show ¬ ((c.toNat : Nat) : Int) ≤ 57 by omega))).trans ?_
    exact key _ rfl
  · refine (c_false (decide_eq_false (show ¬ (97 : Int) ≤ ((c.toNat : Nat) : Int) by omega))).trans ?_
    by_cases g2 : 48 ≤ c.toNat
    · refine (c_true (decide_eq_true (show (48 : Int) ≤ ((c.toNat : Nat) : Int) by omega))).trans ?_
      refine (c_false (decide_eq_false (show ¬ ((c.toNat : Nat) : Int) ≤ 57 by omega))).trans ?_
      exact key _ rfl
    · refine (c_false (decide_eq_false (show ¬ (48 : Int) ≤ ((c.toNat : Nat) : Int) by omega))).trans ?_
      exact key _ rfl
/-- The program's tokens. -/
def lexA : Option (List ByteArray) → TokS × Bool × Unit
  | some ts => (toks ts, (true, ()))
  | none => ([], (false, ()))
theorem lex_eq (l : List UInt8) (hl : l.length ≤ 4000) : r42 (bs l, ()) = some (lexA (lexS l)) := by
  obtain ⟨step, fin, h1, h2, h3, h4, h5⟩ := lexStep
  have key : ∀ (k : Nat) (l : List UInt8) (out : Toks), l.length ≤ k → l.head? ≠ some 32 → out.length + l.length ≤ 4000 → Option.bind (loop step ((toks out, (bs l, ())), ())) fin = some (lexA ((lexS l).map (fun ts => out ++ ts))) := by
    intro k
    induction k with
    | zero =>
      intro l out hk hh ho
      obtain rfl : l = [] := List.length_eq_zero_iff.1 (by omega)
      rw [loop_inr (h4 _), Option.bind_some, h2, lexS_nil]
      simp [lexA]
    | succ k ih =>
      intro l out hk hh ho
      cases l with
      | nil =>
        rw [loop_inr (h4 _), Option.bind_some, h2, lexS_nil]
        simp [lexA]
      | cons c r =>
        have hc : c ≠ 32 := by simpa using hh
        have h5' := h5 c r (toks out) (by omega) (by unfold toks; rw [List.length_map]; omega)
        have hle := tokLen_le (c :: r)
        by_cases h0 : tokLen (c :: r) = 0
        · rw [if_pos h0] at h5'
          rw [loop_inr h5', Option.bind_some, h3, lexS_none hc h0]
          rfl
        · rw [if_neg h0] at h5'
          rw [loop_inl h5', lexS_tok hc h0]
          have e : toks out ++ [(bs ((c :: r).take (tokLen (c :: r))), (kindB (bs ((c :: r).take (tokLen (c :: r)))), ()))] = toks (out ++ [bs ((c :: r).take (tokLen (c :: r)))]) := by
            unfold toks
            rw [List.map_append]
            rfl
          have ht := trim_le ((c :: r).drop (tokLen (c :: r)))
          have hd : ((c :: r).drop (tokLen (c :: r))).length = (c :: r).length - tokLen (c :: r) := List.length_drop
          rw [e, ih _ _ (by omega) (trim_head _) (by rw [List.length_append]; simp only [List.length_cons, List.length_nil]; omega), lexS_trim]
          cases lexS ((c :: r).drop (tokLen (c :: r))) with
          | none => rfl
          | some ts => simp [lexA]
  rw [h1]
  refine bindE (trim_eq l) ?_
  have ht := trim_le l
  have := key l.length (Lib.trimLeftB l 32) [] ht (trim_head l) (by simp; omega)
  rw [lexS_trim] at this
  refine Eq.trans this ?_
  cases lexS l with
  | none => rfl
  | some ts => rfl
end Go.Proofs.YtdfgfjnpllncdaaGreatDoor.I

namespace Go.Proofs.YtdfgfjnpllncdaaGreatDoor.I
open Go.RowKit
set_option linter.unusedVariables false
set_option linter.unusedSimpArgs false
set_option linter.constructorNameAsVariable false
abbrev PSt := Int × Toks × Unit
abbrev POut := ((Toks × Bool × Unit) × Unit) ⊕ (((Toks × Unit) × Unit) ⊕ Empty)
theorem ext_mid (l : List UInt8) (i n : Nat) : (bs l).extract i (i + n) = bs ((l.drop i).take n) := by
  apply ba_eq
  rw [ByteArray.data_extract, Array.toList_extract]
  simp only [List.extract_eq_take_drop, Nat.add_sub_cancel_left]
  rfl
theorem pie_fin (l : List UInt8) (out : Toks) (i n : Nat) (h2 : i + n ≤ l.length) (ho : out.length ≤ 10000) (jI : Int) (hj : jI = ((i + n : Nat) : Int)) :
    cond (upTo jI ((bs l).size : Int)) (cond (upTo (i : Int) jI) (cond (fits (out.length + [(bs l).extract (Int.toNat (i : Int)) (Int.toNat jI)].length) 16) (some (Sum.inl ((jI, (out ++ [(bs l).extract (Int.toNat (i : Int)) (Int.toNat jI)], ())), ()))) none) none) none
      = (some (Sum.inl ((((i + n : Nat) : Int), (out ++ [bs ((l.drop i).take n)], ())), ())) : Option ((PSt × Unit) ⊕ POut)) := by
  subst hj
  rw [Int.toNat_natCast, Int.toNat_natCast, ext_mid, bs_size]
  refine (c_true (upTo_le h2)).trans ?_
  refine (c_true (upTo_le (by omega))).trans ?_
  exact c_true (fits16 (by show out.length + 1 ≤ 1000000000; omega))
theorem drop_get {l : List UInt8} {i : Nat} {c : UInt8} {r : List UInt8} (h : l.drop i = c :: r) : l[i]? = some c ∧ i < l.length ∧ l.drop (i + 1) = r := by
  have hi : i < l.length := by
    rcases Nat.lt_or_ge i l.length with h1 | h1
    · exact h1
    · rw [List.drop_eq_nil_of_le h1] at h; cases h
  have hd := List.drop_eq_getElem_cons hi
  rw [h] at hd
  injection hd with h1 h2
  exact ⟨by rw [List.getElem?_eq_getElem hi, h1], hi, h2.symm⟩
theorem pre_eq (l : List UInt8) (i : Nat) (p : List UInt8) (hi : i ≤ l.length) : r76 ((bs l).extract (Int.toNat (i : Int)) (bs l).size, (bs p, ())) = some (Lib.hasPrefix (l.drop i) p, ()) := by
  rw [Int.toNat_natCast, ext_drop _ _ _ (by rw [bs_size]; exact Nat.le_refl _)]
  rfl
set_option maxHeartbeats 8000000 in
theorem pieStep (l : List UInt8) (hl : l.length ≤ 4000) : ∃ (step : PSt × Unit → Option ((PSt × Unit) ⊕ POut)) (fin : POut → Option (Toks × Bool × Unit)),
    (r44 (bs l, ()) = Option.bind (loop step (((0 : Int), ([], ())), ())) fin) ∧
    (∀ out, fin (.inr (.inl ((out, ()), ()))) = some (out, (true, ()))) ∧ (fin (.inl (([], (false, ())), ())) = some ([], (false, ()))) ∧
    (∀ out, step (((l.length : Int), (out, ())), ()) = some (.inr (.inr (.inl ((out, ()), ()))))) ∧
    (∀ (i : Nat) (r : List UInt8) (out : Toks), l.drop i = 32 :: r → step (((i : Int), (out, ())), ()) = some (.inl ((((i + 1 : Nat) : Int), (out, ())), ()))) ∧
    (∀ (i : Nat) (c : UInt8) (r : List UInt8) (out : Toks), l.drop i = c :: r → c ≠ 32 → out.length ≤ 10000 → step (((i : Int), (out, ())), ()) = if tokLen (c :: r) = 0 then some (.inr (.inl (([], (false, ())), ()))) else some (.inl ((((i + tokLen (c :: r) : Nat) : Int), (out ++ [bs ((c :: r).take (tokLen (c :: r)))], ())), ()))) := by
  refine ⟨_, _, rfl, fun out => rfl, rfl, fun out => ?_, fun i r out hd => ?_, fun i c r out hd hc32 ho => ?_⟩
  · refine (c_false (decide_eq_false ?_)).trans rfl
    show ¬ (l.length : Int) < ((bs l).size : Int)
    rw [bs_size]; omega
  · obtain ⟨hg, hi, _⟩ := drop_get hd
    have hs0 : strAt (bs l) (i : Int) = some 32 := by rw [bytes_get]; exact hg
    refine (c_true (decide_eq_true (by show (i : Int) < ((bs l).size : Int); rw [bs_size]; omega))).trans ?_
    refine bindE hs0 ?_
    refine (c_false (by rfl)).trans ?_
    refine (c_false (by rfl)).trans ?_
    refine (c_true (by rfl)).trans ?_
    show some (Sum.inl ((IntKind.wrap .i64 ((i : Int) + 1), (out, ())), ())) = _
    rw [wrap64 (by omega) (by omega)]
    rfl
  · obtain ⟨hg, hi, hd1⟩ := drop_get hd
    have hs0 : strAt (bs l) (i : Int) = some c := by rw [bytes_get]; exact hg
    have hsz : (bs l).size = l.length := bs_size _
    have hle := tokLen_le (c :: r)
    have hlen : (c :: r).length = l.length - i := by rw [← hd]; exact List.length_drop
    refine (c_true (decide_eq_true (by show (i : Int) < ((bs l).size : Int); rw [bs_size]; omega))).trans ?_
    refine bindE hs0 ?_
    have n32 : c.toNat ≠ 32 := fun h => hc32 (UInt8.toNat_inj.1 (by rw [h]; rfl))
    by_cases hL : isLt c = true
    · have hc := (isLt_iff c).1 hL
      have ht : tokLen (c :: r) = ((c :: r).takeWhile isWd).length := by rw [tokLen_cons, if_pos hL]
      have hw : isWd c = true := by unfold isWd; rw [hL]; rfl
      have h0 : ((c :: r).takeWhile isWd).length ≠ 0 := by rw [List.takeWhile_cons_of_pos hw]; simp
      rw [ht] at hle ⊢
      rw [if_neg h0]
      refine (c_true (decide_eq_true (show (97 : Int) ≤ ((c.toNat : Nat) : Int) by omega))).trans ?_
      refine (c_true (decide_eq_true (show (48 : Int) ≤ ((c.toNat : Nat) : Int) by omega))).trans ?_
      refine (c_false (decide_eq_false (show ¬ ((c.toNat : Nat) : Int) = 32 by omega))).trans ?_
      refine (c_true (decide_eq_true (show ((c.toNat : Nat) : Int) ≤ 122 by omega))).trans ?_
      have hcc : decide (((c.toNat : Nat) : Int) ≤ 122) = true := decide_eq_true (by omega)
      refine bindE (span_loop l isWd _ (fun j => Sum.inl ((j, ()), ())) ?_ ?_ ?_ (l.length - i) i (by omega)) ?_
      · intro k b hb hp
        have hk := lt_of_get hb
        have hbs : strAt (bs l) (k : Int) = some b := by rw [bytes_get]; exact hb
        have a1 : decide ((97 : Int) ≤ ((b.toNat : Nat) : Int)) = decide (97 ≤ b.toNat) := decide_eq_decide.2 (by omega)
        have a2 : decide (((b.toNat : Nat) : Int) ≤ 122) = decide (b.toNat ≤ 122) := decide_eq_decide.2 (by omega)
        have a3 : decide ((48 : Int) ≤ ((b.toNat : Nat) : Int)) = decide (48 ≤ b.toNat) := decide_eq_decide.2 (by omega)
        have a4 : decide (((b.toNat : Nat) : Int) ≤ 57) = decide (b.toNat ≤ 57) := decide_eq_decide.2 (by omega)
        have a5 : decide (((b.toNat : Nat) : Int) = 95) = decide (b.toNat = 95) := decide_eq_decide.2 (by omega)
        refine (c_true (decide_eq_true (by show (k : Int) < ((bs l).size : Int); rw [bs_size]; omega))).trans ?_
        simp only [hbs, Option.bind_some, a1, a2, a3, a4, a5, hcc, cond_true, wrap64 (show (-9223372036854775808 : Int) ≤ (k : Int) + 1 by omega) (show (k : Int) + 1 ≤ 9223372036854775807 by omega)]
        unfold isWd isLt isDg at hp
        simp only [Bool.decide_and] at hp
        revert hp
        generalize decide (97 ≤ b.toNat) = x1
        generalize decide (b.toNat ≤ 122) = x2
        generalize decide (48 ≤ b.toNat) = x3
        generalize decide (b.toNat ≤ 57) = x4
        generalize decide (b.toNat = 95) = x5
        intro hp
        cases x1 <;> cases x2 <;> cases x3 <;> cases x4 <;> cases x5 <;> first | rfl | (cases hp; done)
      · intro k b hb hp
        have hk := lt_of_get hb
        have hbs : strAt (bs l) (k : Int) = some b := by rw [bytes_get]; exact hb
        have a1 : decide ((97 : Int) ≤ ((b.toNat : Nat) : Int)) = decide (97 ≤ b.toNat) := decide_eq_decide.2 (by omega)
        have a2 : decide (((b.toNat : Nat) : Int) ≤ 122) = decide (b.toNat ≤ 122) := decide_eq_decide.2 (by omega)
        have a3 : decide ((48 : Int) ≤ ((b.toNat : Nat) : Int)) = decide (48 ≤ b.toNat) := decide_eq_decide.2 (by omega)
        have a4 : decide (((b.toNat : Nat) : Int) ≤ 57) = decide (b.toNat ≤ 57) := decide_eq_decide.2 (by omega)
        have a5 : decide (((b.toNat : Nat) : Int) = 95) = decide (b.toNat = 95) := decide_eq_decide.2 (by omega)
        refine (c_true (decide_eq_true (by show (k : Int) < ((bs l).size : Int); rw [bs_size]; omega))).trans ?_
        simp only [hbs, Option.bind_some, a1, a2, a3, a4, a5, hcc, cond_true]
        unfold isWd isLt isDg at hp
        simp only [Bool.decide_and] at hp
        revert hp
        generalize decide (97 ≤ b.toNat) = x1
        generalize decide (b.toNat ≤ 122) = x2
        generalize decide (48 ≤ b.toNat) = x3
        generalize decide (b.toNat ≤ 57) = x4
        generalize decide (b.toNat = 95) = x5
        intro hp
        cases x1 <;> cases x2 <;> cases x3 <;> cases x4 <;> cases x5 <;> first | rfl | (cases hp; done)
      · refine (c_false (decide_eq_false (by show ¬ (l.length : Int) < ((bs l).size : Int); rw [bs_size]; omega))).trans ?_
        rfl
      · rw [← hd]
        rw [← hd] at hle
        have hdl : (l.drop i).length = l.length - i := List.length_drop
        exact pie_fin l out i _ (by omega) ho _ rfl
    have nL : ¬ (97 ≤ c.toNat ∧ c.toNat ≤ 122) := fun h => hL ((isLt_iff c).2 h)
    by_cases hD : isDg c = true
    · have hc := (isDg_iff c).1 hD
      have ht : tokLen (c :: r) = ((c :: r).takeWhile isDg).length := by rw [tokLen_cons, if_neg hL, if_pos hD]
      have h0 : ((c :: r).takeWhile isDg).length ≠ 0 := by rw [List.takeWhile_cons_of_pos hD]; simp
      rw [ht] at hle ⊢
      rw [if_neg h0]
      refine (c_false (decide_eq_false (show ¬ (97 : Int) ≤ ((c.toNat : Nat) : Int) by omega))).trans ?_
      refine (c_true (decide_eq_true (show (48 : Int) ≤ ((c.toNat : Nat) : Int) by omega))).trans ?_
      refine (c_false (decide_eq_false (show ¬ ((c.toNat : Nat) : Int) = 32 by omega))).trans ?_
      refine (c_true (decide_eq_true (show ((c.toNat : Nat) : Int) ≤ 57 by omega))).trans ?_
      refine bindE (span_loop l isDg _ (fun j => Sum.inl ((j, ()), ())) ?_ ?_ ?_ (l.length - i) i (by omega)) ?_
      · intro k b hb hp
        have hk := lt_of_get hb
        have hbs : strAt (bs l) (k : Int) = some b := by rw [bytes_get]; exact hb
        have hb2 := (isDg_iff b).1 hp
        refine (c_true (decide_eq_true (by show (k : Int) < ((bs l).size : Int); rw [bs_size]; omega))).trans ?_
        refine bindE hbs ?_
        refine (c_true (decide_eq_true (show (48 : Int) ≤ ((b.toNat : Nat) : Int) by omega))).trans ?_
        refine bindE hbs ?_
        refine (c_true (decide_eq_true (show ((b.toNat : Nat) : Int) ≤ 57 by omega))).trans ?_
        show some (Sum.inl ((IntKind.wrap .i64 ((k : Int) + 1), ()), ())) = _
        rw [wrap64 (by omega) (by omega)]
      · intro k b hb hp
        have hk := lt_of_get hb
        have hbs : strAt (bs l) (k : Int) = some b := by rw [bytes_get]; exact hb
        have hb2 : ¬ (48 ≤ b.toNat ∧ b.toNat ≤ 57) := fun h => by rw [(isDg_iff b).2 h] at hp; cases hp
        refine (c_true (decide_eq_true (by show (k : Int) < ((bs l).size : Int); rw [bs_size]; omega))).trans ?_
        refine bindE hbs ?_
        by_cases q : 48 ≤ b.toNat
        · refine (c_true (decide_eq_true (show (48 : Int) ≤ ((b.toNat : Nat) : Int) by omega))).trans ?_
          refine bindE hbs ?_
          exact (c_false (decide_eq_false (show ¬ ((b.toNat : Nat) : Int) ≤ 57 by omega))).trans rfl
        · exact (c_false (decide_eq_false (show ¬ (48 : Int) ≤ ((b.toNat : Nat) : Int) by omega))).trans rfl
      · refine (c_false (decide_eq_false (by show ¬ (l.length : Int) < ((bs l).size : Int); rw [bs_size]; omega))).trans ?_
        rfl
      · rw [← hd]
        rw [← hd] at hle
        have hdl : (l.drop i).length = l.length - i := List.length_drop
        exact pie_fin l out i _ (by omega) ho _ rfl
    have nD : ¬ (48 ≤ c.toNat ∧ c.toNat ≤ 57) := fun h => hD ((isDg_iff c).2 h)
    have pie2 : tokLen (c :: r) = 2 → cond (upTo (IntKind.wrap .i64 ((i : Int) + 2)) ((bs l).size : Int)) (cond (upTo (i : Int) (IntKind.wrap .i64 ((i : Int) + 2))) (cond (fits (out.length + [(bs l).extract (Int.toNat (i : Int)) (Int.toNat (IntKind.wrap .i64 ((i : Int) + 2)))].length) 16) (some (Sum.inl ((IntKind.wrap .i64 ((i : Int) + 2), (out ++ [(bs l).extract (Int.toNat (i : Int)) (Int.toNat (IntKind.wrap .i64 ((i : Int) + 2)))], ())), ()))) none) none) none = (some (Sum.inl ((((i + tokLen (c :: r) : Nat) : Int), (out ++ [bs ((c :: r).take (tokLen (c :: r)))], ())), ())) : Option ((PSt × Unit) ⊕ POut)) := fun ht => by
      rw [ht] at hle
      have := pie_fin l out i 2 (by omega) ho (IntKind.wrap .i64 ((i : Int) + 2)) (by rw [wrap64 (by omega) (by omega)]; rfl)
      rw [hd] at this
      rw [ht]
      exact this
    have key : ∀ z : Option ((PSt × Unit) ⊕ POut), z = cond (decide (((c.toNat : Nat) : Int) = (34 : Int)))
        (cond (upTo (IntKind.wrap .i64 ((i : Int) + 1)) ((bs l).size : Int)) (Option.bind (r75 ((bs l).extract (Int.toNat (IntKind.wrap .i64 ((i : Int) + 1))) (bs l).size, (bs [34], ()))) fun x2 => cond (decide (x2.1 < (0 : Int))) (some (Sum.inr (Sum.inl (([], (false, ())), ()))))
          (cond (upTo (IntKind.wrap .i64 ((i : Int) + IntKind.wrap .i64 (x2.1 + 2))) ((bs l).size : Int)) (cond (upTo (i : Int) (IntKind.wrap .i64 ((i : Int) + IntKind.wrap .i64 (x2.1 + 2)))) (cond (fits (out.length + [(bs l).extract (Int.toNat (i : Int)) (Int.toNat (IntKind.wrap .i64 ((i : Int) + IntKind.wrap .i64 (x2.1 + 2))))].length) 16) (some (Sum.inl ((IntKind.wrap .i64 ((i : Int) + IntKind.wrap .i64 (x2.1 + 2)), (out ++ [(bs l).extract (Int.toNat (i : Int)) (Int.toNat (IntKind.wrap .i64 ((i : Int) + IntKind.wrap .i64 (x2.1 + 2))))], ())), ()))) none) none) none)) none)
        (cond (upTo (i : Int) ((bs l).size : Int)) (Option.bind (r76 ((bs l).extract (Int.toNat (i : Int)) (bs l).size, (bs [33, 61], ()))) fun x2 => cond x2.1
          (cond (upTo (IntKind.wrap .i64 ((i : Int) + 2)) ((bs l).size : Int)) (cond (upTo (i : Int) (IntKind.wrap .i64 ((i : Int) + 2))) (cond (fits (out.length + [(bs l).extract (Int.toNat (i : Int)) (Int.toNat (IntKind.wrap .i64 ((i : Int) + 2)))].length) 16) (some (Sum.inl ((IntKind.wrap .i64 ((i : Int) + 2), (out ++ [(bs l).extract (Int.toNat (i : Int)) (Int.toNat (IntKind.wrap .i64 ((i : Int) + 2)))], ())), ()))) none) none) none)
          (cond (upTo (i : Int) ((bs l).size : Int)) (Option.bind (r76 ((bs l).extract (Int.toNat (i : Int)) (bs l).size, (bs [60, 61], ()))) fun x3 => cond x3.1
            (cond (upTo (IntKind.wrap .i64 ((i : Int) + 2)) ((bs l).size : Int)) (cond (upTo (i : Int) (IntKind.wrap .i64 ((i : Int) + 2))) (cond (fits (out.length + [(bs l).extract (Int.toNat (i : Int)) (Int.toNat (IntKind.wrap .i64 ((i : Int) + 2)))].length) 16) (some (Sum.inl ((IntKind.wrap .i64 ((i : Int) + 2), (out ++ [(bs l).extract (Int.toNat (i : Int)) (Int.toNat (IntKind.wrap .i64 ((i : Int) + 2)))], ())), ()))) none) none) none)
            (cond (upTo (i : Int) ((bs l).size : Int)) (Option.bind (r76 ((bs l).extract (Int.toNat (i : Int)) (bs l).size, (bs [62, 61], ()))) fun x4 => cond x4.1
              (cond (upTo (IntKind.wrap .i64 ((i : Int) + 2)) ((bs l).size : Int)) (cond (upTo (i : Int) (IntKind.wrap .i64 ((i : Int) + 2))) (cond (fits (out.length + [(bs l).extract (Int.toNat (i : Int)) (Int.toNat (IntKind.wrap .i64 ((i : Int) + 2)))].length) 16) (some (Sum.inl ((IntKind.wrap .i64 ((i : Int) + 2), (out ++ [(bs l).extract (Int.toNat (i : Int)) (Int.toNat (IntKind.wrap .i64 ((i : Int) + 2)))], ())), ()))) none) none) none)
              (Option.bind (r77 (bs oneL, (mkStr [((c.toNat : Nat) : Int)], ()))) fun x5 => cond x5.1
                (cond (upTo (IntKind.wrap .i64 ((i : Int) + 1)) ((bs l).size : Int)) (cond (upTo (i : Int) (IntKind.wrap .i64 ((i : Int) + 1))) (cond (fits (out.length + [(bs l).extract (Int.toNat (i : Int)) (Int.toNat (IntKind.wrap .i64 ((i : Int) + 1)))].length) 16) (some (Sum.inl ((IntKind.wrap .i64 ((i : Int) + 1), (out ++ [(bs l).extract (Int.toNat (i : Int)) (Int.toNat (IntKind.wrap .i64 ((i : Int) + 1)))], ())), ()))) none) none) none)
                (some (Sum.inr (Sum.inl (([], (false, ())), ())))))) none)) none)) none) →
        z = if tokLen (c :: r) = 0 then some (.inr (.inl (([], (false, ())), ()))) else some (.inl ((((i + tokLen (c :: r) : Nat) : Int), (out ++ [bs ((c :: r).take (tokLen (c :: r)))], ())), ())) := by
      intro z hz
      rw [hz]
      have w1 : IntKind.wrap .i64 ((i : Int) + 1) = ((i + 1 : Nat) : Int) := by rw [wrap64 (by omega) (by omega)]; rfl
      by_cases hq : c = 34
      · have ht : tokLen (c :: r) = if Lib.indexByte r 34 < 0 then 0 else (Lib.indexByte r 34 + 2).toNat := by rw [tokLen_cons, if_neg hL, if_neg hD, if_pos hq]
        refine (c_true (by rw [c34]; exact decide_eq_true hq)).trans ?_
        refine (c_true (by rw [hsz, w1]; exact upTo_le (by omega))).trans ?_
        have hix : r75 ((bs l).extract (Int.toNat (IntKind.wrap .i64 ((i : Int) + 1))) (bs l).size, (bs [34], ())) = some (Lib.indexByte r 34, ()) := by
          rw [w1, Int.toNat_natCast, ext_drop _ _ _ (by rw [hsz]; exact Nat.le_refl _), hd1]
          rfl
        refine bindE hix ?_
        have hge := Lib.indexByte_ge r 34
        have hlt := index_lt r 34
        simp only [List.length_cons] at hlen
        by_cases hneg : Lib.indexByte r 34 < 0
        · rw [if_pos hneg] at ht
          rw [if_pos ht]
          exact c_true (decide_eq_true hneg)
        · rw [if_neg hneg] at ht
          have h0 : tokLen (c :: r) ≠ 0 := by rw [ht]; omega
          rw [if_neg h0]
          refine (c_false (decide_eq_false hneg)).trans ?_
          have hw : IntKind.wrap .i64 ((i : Int) + IntKind.wrap .i64 (Lib.indexByte r 34 + 2)) = ((i + tokLen (c :: r) : Nat) : Int) := by
            rw [wrap64 (n := Lib.indexByte r 34 + 2) (by omega) (by omega), wrap64 (by omega) (by omega), ht]
            omega
          simp only [List.length_cons] at hle
          have := pie_fin l out i (tokLen (c :: r)) (by omega) ho _ hw
          rw [hd] at this
          exact this
      · refine (c_false (by rw [c34]; exact decide_eq_false hq)).trans ?_
        have hu : upTo (i : Int) ((bs l).size : Int) = true := by rw [hsz]; exact upTo_le (by omega)
        have q1 := pre_eq l i [33, 61] (by omega)
        have q2 := pre_eq l i [60, 61] (by omega)
        have q3 := pre_eq l i [62, 61] (by omega)
        rw [hd] at q1 q2 q3
        have tw : two (c :: r) = true → tokLen (c :: r) = 2 := fun h => by rw [tokLen_cons, if_neg hL, if_neg hD, if_neg hq, if_pos h]
        have fin2 : two (c :: r) = true → ∀ y, y = (some (Sum.inl ((((i + tokLen (c :: r) : Nat) : Int), (out ++ [bs ((c :: r).take (tokLen (c :: r)))], ())), ())) : Option ((PSt × Unit) ⊕ POut)) → y = if tokLen (c :: r) = 0 then some (.inr (.inl (([], (false, ())), ()))) else some (.inl ((((i + tokLen (c :: r) : Nat) : Int), (out ++ [bs ((c :: r).take (tokLen (c :: r)))], ())), ())) := fun h y hy => by
          rw [if_neg (by rw [tw h]; decide)]
          exact hy
        refine (c_true hu).trans ?_
        refine bindE q1 ?_
        cases p1 : Lib.hasPrefix (c :: r) [33, 61] with
        | true =>
          have h2 : two (c :: r) = true := by unfold two; rw [p1]; rfl
          exact fin2 h2 _ ((c_true rfl).trans (pie2 (tw h2)))
        | false =>
          refine (c_false rfl).trans ((c_true hu).trans (bindE q2 ?_))
          cases p2 : Lib.hasPrefix (c :: r) [60, 61] with
          | true =>
            have h2 : two (c :: r) = true := by unfold two; rw [p1, p2]; rfl
            exact fin2 h2 _ ((c_true rfl).trans (pie2 (tw h2)))
          | false =>
            refine (c_false rfl).trans ((c_true hu).trans (bindE q3 ?_))
            cases p3 : Lib.hasPrefix (c :: r) [62, 61] with
            | true =>
              have h2 : two (c :: r) = true := by unfold two; rw [p1, p2, p3]; rfl
              exact fin2 h2 _ ((c_true rfl).trans (pie2 (tw h2)))
            | false =>
              have h2 : ¬ two (c :: r) = true := by unfold two; rw [p1, p2, p3]; simp
              have hct : r77 (bs oneL, (mkStr [((c.toNat : Nat) : Int)], ())) = some (decide (0 ≤ Lib.indexByte oneL c), ()) := by
                have : mkStr [((c.toNat : Nat) : Int)] = bs [c] := mkStr_toI [c]
                rw [this]
                rfl
              refine (c_false rfl).trans (bindE hct ?_)
              by_cases h1 : 0 ≤ Lib.indexByte oneL c
              · have ht : tokLen (c :: r) = 1 := by rw [tokLen_cons, if_neg hL, if_neg hD, if_neg hq, if_neg h2, if_pos h1]
                rw [if_neg (by rw [ht]; decide)]
                refine (c_true (decide_eq_true h1)).trans ?_
                have := pie_fin l out i 1 (by omega) ho (IntKind.wrap .i64 ((i : Int) + 1)) w1
                rw [hd] at this
                rw [ht]
                exact this
              · have ht : tokLen (c :: r) = 0 := by rw [tokLen_cons, if_neg hL, if_neg hD, if_neg hq, if_neg h2, if_neg h1]
                rw [if_pos ht]
                exact c_false (decide_eq_false h1)
    by_cases g1 : 97 ≤ c.toNat
    · refine (c_true (decide_eq_true (show (97 : Int) ≤ ((c.toNat : Nat) : Int) by omega))).trans ?_
      refine (c_true (decide_eq_true (show (48 : Int) ≤ ((c.toNat : Nat) : Int) by omega))).trans ?_
      refine (c_false (decide_eq_false (show ¬ ((c.toNat : Nat) : Int) = 32 by omega))).trans ?_
      refine (c_false (decide_eq_false (show ¬ ((c.toNat : Nat) : Int) ≤ 122 by omega))).trans ?_
      refine (c_false (decide_eq_false (show ¬ ((c.toNat : Nat) : Int) ≤ 57 by omega))).trans ?_
      exact key _ rfl
    · refine (c_false (decide_eq_false (show ¬ (97 : Int) ≤ ((c.toNat : Nat) : Int) by omega))).trans ?_
      by_cases g2 : 48 ≤ c.toNat
      · refine (c_true (decide_eq_true (show (48 : Int) ≤ ((c.toNat : Nat) : Int) by omega))).trans ?_
        refine (c_false (decide_eq_false (show ¬ ((c.toNat : Nat) : Int) = 32 by omega))).trans ?_
        refine (c_false (decide_eq_false (show ¬ ((c.toNat : Nat) : Int) ≤ 57 by omega))).trans ?_
        exact key _ rfl
      · refine (c_false (decide_eq_false (show ¬ (48 : Int) ≤ ((c.toNat : Nat) : Int) by omega))).trans ?_
        refine (c_false (decide_eq_false (show ¬ ((c.toNat : Nat) : Int) = 32 by omega))).trans ?_
        exact key _ rfl
def pieA : Option (List ByteArray) → Toks × Bool × Unit
  | some ts => (ts, (true, ()))
  | none => ([], (false, ()))
theorem pieces_eq (l : List UInt8) (hl : l.length ≤ 4000) : r44 (bs l, ()) = some (pieA (lexS l)) := by
  obtain ⟨step, fin, h1, h2, h3, h4, h5, h6⟩ := pieStep l hl
  have key : ∀ (k i : Nat) (out : Toks), l.length - i ≤ k → i ≤ l.length → out.length ≤ i → Option.bind (loop step (((i : Int), (out, ())), ())) fin = some (pieA ((lexS (l.drop i)).map (fun ts => out ++ ts))) := by
    intro k
    induction k with
    | zero =>
      intro i out hk hi ho
      obtain rfl : i = l.length := by omega
      rw [loop_inr (h4 _), Option.bind_some, h2, List.drop_length, lexS_nil]
      simp [pieA]
    | succ k ih =>
      intro i out hk hi ho
      cases hd : l.drop i with
      | nil =>
        have : i = l.length := by
          have := congrArg List.length hd
          rw [List.length_drop] at this
          simp only [List.length_nil] at this
          omega
        subst this
        rw [loop_inr (h4 _), Option.bind_some, h2, lexS_nil]
        simp [pieA]
      | cons c r =>
        obtain ⟨_, hi2, hd1⟩ := drop_get hd
        by_cases hc : c = 32
        · subst hc
          rw [loop_inl (h5 i r out hd), ih (i + 1) out (by omega) (by omega) (by omega), hd1, lexS_space]
        · have h6' := h6 i c r out hd hc (by omega)
          have hle := tokLen_le (c :: r)
          have hlen : (c :: r).length = l.length - i := by rw [← hd]; exact List.length_drop
          by_cases h0 : tokLen (c :: r) = 0
          · rw [if_pos h0] at h6'
            rw [loop_inr h6', Option.bind_some, h3, lexS_none hc h0]
            rfl
          · rw [if_neg h0] at h6'
            rw [loop_inl h6', lexS_tok hc h0, ih (i + tokLen (c :: r)) _ (by omega) (by omega) (by rw [List.length_append]; simp only [List.length_cons, List.length_nil]; omega)]
            rw [← List.drop_drop, hd]
            cases lexS ((c :: r).drop (tokLen (c :: r))) with
            | none => rfl
            | some ts => simp [pieA]
  rw [h1]
  have := key l.length 0 [] (by omega) (by omega) (by simp)
  rw [List.drop_zero] at this
  refine Eq.trans this ?_
  cases lexS l with
  | none => rfl
  | some ts => rfl
theorem lex_ok : ∀ (k : Nat) (l : List UInt8) (ts : Toks), l.length ≤ k → lexS l = some ts → (∀ s ∈ ts, s ≠ emptyS ∧ s.size ≤ l.length) ∧ ts.length ≤ l.length := by
  intro k
  induction k with
  | zero =>
    intro l ts hk h
    obtain rfl : l = [] := List.length_eq_zero_iff.1 (by omega)
    rw [lexS_nil] at h
    injection h with h
    subst h
    exact ⟨(fun s hs => by cases hs), by simp⟩
  | succ k ih =>
    intro l ts hk h
    cases l with
    | nil =>
      rw [lexS_nil] at h
      injection h with h
      subst h
      exact ⟨(fun s hs => by cases hs), by simp⟩
    | cons c r =>
      by_cases hc : c = 32
      · subst hc
        rw [lexS_space] at h
        simp only [List.length_cons] at hk
        obtain ⟨a1, a2⟩ := ih r ts (by omega) h
        exact ⟨fun s hs => ⟨(a1 s hs).1, by have := (a1 s hs).2; simp only [List.length_cons]; omega⟩, by simp only [List.length_cons]; omega⟩
      · by_cases h0 : tokLen (c :: r) = 0
        · rw [lexS_none hc h0] at h; cases h
        · rw [lexS_tok hc h0] at h
          have hle := tokLen_le (c :: r)
          have hd : ((c :: r).drop (tokLen (c :: r))).length = (c :: r).length - tokLen (c :: r) := List.length_drop
          cases hx : lexS ((c :: r).drop (tokLen (c :: r))) with
          | none => rw [hx] at h; cases h
          | some us =>
            rw [hx] at h
            injection h with h
            subst h
            obtain ⟨a1, a2⟩ := ih _ us (by omega) hx
            refine ⟨fun s hs => ?_, by simp only [List.length_cons] at *; omega⟩
            rcases List.mem_cons.1 hs with rfl | hs
            · refine ⟨fun he => ?_, ?_⟩
              · obtain ⟨t, ht⟩ := tok_kind (c := c) (r := r) h0
                rw [he] at ht
                cases ht
              · rw [bs_size, List.length_take]; omega
            · exact ⟨(a1 s hs).1, by have := (a1 s hs).2; omega⟩
end Go.Proofs.YtdfgfjnpllncdaaGreatDoor.I

namespace Go.Proofs.YtdfgfjnpllncdaaGreatDoor
open Go.RowKit

/-- An integer's number as it is written: 7 bits a byte, the lowest first. -/
def varint (u : Nat) : List UInt8 := if h : u < 128 then [UInt8.ofNat u] else UInt8.ofNat (u % 128 + 128) :: varint (u / 128)
termination_by u
decreasing_by omega

theorem varint_lt {u : Nat} (h : u < 128) : varint u = [UInt8.ofNat u] := by rw [varint, dif_pos h]
theorem varint_ge {u : Nat} (h : 128 ≤ u) : varint u = UInt8.ofNat (u % 128 + 128) :: varint (u / 128) := by rw [varint, dif_neg (by omega)]
theorem varint_len (k u : Nat) (h : u < 128 ^ (k + 1)) : (varint u).length ≤ k + 1 := by
  induction k generalizing u with
  | zero => rw [varint_lt (by omega)]; simp
  | succ k ih =>
    by_cases hu : u < 128
    · rw [varint_lt hu]; simp
    · rw [varint_ge (by omega)]
      have := ih (u / 128) (by rw [Nat.div_lt_iff_lt_mul (by omega)]; rw [Nat.pow_succ] at h; exact h)
      simp; omega

/-- Signed numbers alternate: 0, -1, 1, -2, 2 .. -/
def zig (n : Int) : Nat := if n < 0 then (-2 * n - 1).toNat else (2 * n).toNat
theorem zig_lt {n : Int} (h0 : -9223372036854775808 ≤ n) (h1 : n ≤ 9223372036854775807) : zig n < 18446744073709551616 := by
  unfold zig; split <;> omega
theorem zig_len {n : Int} (h0 : -9223372036854775808 ≤ n) (h1 : n ≤ 9223372036854775807) : (varint (zig n)).length ≤ 10 :=
  varint_len 9 _ (by have := zig_lt h0 h1; omega)

theorem u64_xor_all (a : Nat) (ha : a < 18446744073709551616) : a ^^^ 18446744073709551615 = 18446744073709551615 - a := by
  have h := congrArg BitVec.toNat (BitVec.xor_allOnes (x := BitVec.ofNat 64 a))
  simp only [BitVec.toNat_xor, BitVec.toNat_not, BitVec.toNat_ofNat, BitVec.toNat_allOnes] at h
  rw [Nat.mod_eq_of_lt (by omega)] at h
  omega
theorem zig_not {n : Int} (h0 : -9223372036854775808 ≤ n) (h : n < 0) :
    bits BinOp.xor IntKind.u64 IntKind.u64.max (IntKind.u64.wrap (IntKind.u64.wrap n * 2)) = (zig n : Int) := by
  have e1 : ∀ x : Int, IntKind.u64.wrap x = x % 18446744073709551616 := fun x => by simp [IntKind.wrap, IntKind.bits, IntKind.signed]
  have e2 : IntKind.u64.max = 18446744073709551615 := by decide +kernel
  simp only [e1, e2]
  rw [u64_xor _ _ (by omega) (by omega) (by omega) (by omega), Nat.xor_comm]
  unfold zig
  rw [if_pos h, show (18446744073709551615 : Int).toNat = 18446744073709551615 from rfl, u64_xor_all _ (by omega)]
  omega
theorem zig_pos {n : Int} (h : ¬ n < 0) : n * 2 = (zig n : Int) := by unfold zig; rw [if_neg h]; omega
theorem ba_app (a b : List UInt8) : (⟨a.toArray⟩ : ByteArray) ++ (⟨b.toArray⟩ : ByteArray) = ⟨(a ++ b).toArray⟩ := by
  apply ByteArray.ext
  simp [ByteArray.data_append]
end Go.Proofs.YtdfgfjnpllncdaaGreatDoor

namespace Go.Proofs.YtdfgfjnpllncdaaGreatDoor.I
open Go.RowKit
set_option linter.unusedVariables false
set_option linter.unusedSimpArgs false
set_option linter.constructorNameAsVariable false
/-- A node's head. -/
def headT (nd : DNode) : List UInt8 := varint (zig nd.1) ++ (varint (zig nd.2.1.1) ++ (varint (zig nd.2.1.2.1) ++ (varint (zig ((nd.2.1.2.2.1.size : Nat) : Int)) ++ (ofS nd.2.1.2.2.1 ++ (varint (zig ((nd.2.2.1.size : Nat) : Int)) ++ (ofS nd.2.2.1 ++ (if nd.2.1.2.2.2.1 = true then [33] else [])))))))
mutual
def treeB : DExp → List UInt8
  | .node nd ks => 40 :: (headT nd ++ (treesB ks ++ [41]))
def treesB : List DExp → List UInt8
  | [] => []
  | k :: ks => treeB k ++ treesB ks
end
theorem treesB_snoc (a : List DExp) (k : DExp) : treesB (a ++ [k]) = treesB a ++ treeB k := by
  induction a with
  | nil => simp [treesB]
  | cons x a ih => simp only [List.cons_append, treesB, ih, List.append_assoc]
theorem treeB_node (t : DExp) : treeB t = 40 :: (headT (Tree.val t) ++ (treesB (Tree.kids t) ++ [41])) := by
  cases t
  simp only [treeB, Tree.val, Tree.kids]
structure NdOk (nd : DNode) : Prop where
  op : In64 nd.1
  kind : In64 nd.2.1.1
  n : In64 nd.2.1.2.1
  s : nd.2.1.2.2.1.size ≤ 9223372036854775807
  name : nd.2.2.1.size ≤ 9223372036854775807
theorem ndOk {t : DExp} (h : small kExp t) : NdOk (Tree.val t) := by
  obtain ⟨h1, h2, h3, h4, h5⟩ := exp_small h
  exact ⟨wf_in h1, wf_in h2.1, wf_in h2.2.1, h2.2.2.1, h3⟩
theorem head_len' {nd : DNode} (h : NdOk nd) : (headT nd).length ≤ 51 + nd.2.1.2.2.1.size + nd.2.2.1.size := by
  have h1 := zig_len h.op.1 h.op.2
  have h2 := zig_len h.kind.1 h.kind.2
  have h3 := zig_len h.n.1 h.n.2
  have h4 := zig_len (n := ((nd.2.1.2.2.1.size : Nat) : Int)) (by omega) (by have := h.s; omega)
  have h5 := zig_len (n := ((nd.2.2.1.size : Nat) : Int)) (by omega) (by have := h.name; omega)
  have h6 : (if nd.2.1.2.2.2.1 = true then [33] else ([] : List UInt8)).length ≤ 1 := by split <;> simp
  unfold headT
  simp only [List.length_append, ofS_len]
  omega
end Go.Proofs.YtdfgfjnpllncdaaGreatDoor.I

namespace Go.Proofs.YtdfgfjnpllncdaaGreatDoor.I
open Go.RowKit
set_option linter.unusedVariables false
set_option linter.constructorNameAsVariable false
def vpre (u : Nat) : List UInt8 := if h : u < 128 then [] else UInt8.ofNat (u % 128 + 128) :: vpre (u / 128)
def vlast (u : Nat) : Nat := if h : u < 128 then u else vlast (u / 128)
theorem varint_split (u : Nat) : varint u = vpre u ++ [UInt8.ofNat (vlast u)] := by
  induction u using Nat.strongRecOn with
  | _ u ih =>
    by_cases h : u < 128
    · rw [varint_lt h, vpre, dif_pos h, vlast, dif_pos h]; rfl
    · rw [varint_ge (by omega), vpre, dif_neg h, vlast, dif_neg h, ih (u / 128) (by omega)]; rfl
theorem vlast_lt (u : Nat) : vlast u < 128 := by
  induction u using Nat.strongRecOn with
  | _ u ih =>
    rw [vlast]
    split
    · assumption
    · exact ih _ (by omega)
theorem loop_var {D O σ : Type} {step : D → Option (D ⊕ O)} (emb : Int → σ → D) (push : σ → UInt8 → σ) (ok : σ → Nat → Prop) (out : Int → σ → O)
    (hge : ∀ (m : Nat) s, 128 ≤ m → m < 18446744073709551616 → ok s m → step (emb m s) = some (.inl (emb ((m / 128 : Nat) : Int) (push s (UInt8.ofNat (m % 128 + 128))))) ∧ ok (push s (UInt8.ofNat (m % 128 + 128))) (m / 128))
    (hlt : ∀ (m : Nat) s, m < 128 → ok s m → step (emb m s) = some (.inr (out m s))) : ∀ (m : Nat) (s : σ), m < 18446744073709551616 → ok s m → loop step (emb m s) = some (out (vlast m : Int) ((vpre m).foldl push s)) := by
  intro m
  induction m using Nat.strongRecOn with
  | _ m ih =>
    intro s hm hok
    by_cases h : m < 128
    · rw [loop_eq, hlt m s h hok, vpre, dif_pos h, vlast, dif_pos h]; rfl
    · obtain ⟨h1, h2⟩ := hge m s (by omega) hm hok
      rw [loop_eq, h1, vpre, dif_neg h, vlast, dif_neg h]
      exact ih (m / 128) (by omega) _ (by omega) h2
theorem wu8 (x : Int) : IntKind.wrap .u8 x = x % 256 := by simp [IntKind.wrap, IntKind.bits, IntKind.signed]
theorem mkStr1_size (x : Int) : (mkStr [x]).size = 1 := rfl
theorem wu64 (x : Int) : IntKind.wrap .u64 x = x % 18446744073709551616 := by simp [IntKind.wrap, IntKind.bits, IntKind.signed]
theorem byteA (m : Nat) : IntKind.wrap .u8 (IntKind.wrap .u64 (Int.tmod (m : Int) 128 + 128)) = ((UInt8.ofNat (m % 128 + 128)).toNat : Int) := by
  rw [wu8, wu64, Int.tmod_eq_emod_of_nonneg (by omega), UInt8.toNat_ofNat']
  omega
theorem divA (m : Nat) (h : m < 18446744073709551616) : IntKind.wrap .u64 (Int.tdiv (m : Int) 128) = ((m / 128 : Nat) : Int) := by
  rw [wu64, Int.tdiv_eq_ediv_of_nonneg (by omega)]
  omega
theorem byteL (m : Nat) (h : m < 128) : IntKind.wrap .u8 (m : Int) = ((UInt8.ofNat m).toNat : Int) := by
  rw [wu8, UInt8.toNat_ofNat']
  omega
theorem str_push (p : List UInt8) (b : UInt8) : (ByteArray.mk p.toArray ++ mkStr [(b.toNat : Int)]) = ⟨(p ++ [b]).toArray⟩ := by
  rw [show mkStr [(b.toNat : Int)] = ⟨[b].toArray⟩ from mkStr_toI [b], ba_app]
set_option maxHeartbeats 1000000 in
/-- A number's bytes in the reference. -/
theorem r63_eq (n : Int) (h0 : -9223372036854775808 ≤ n) (h1 : n ≤ 9223372036854775807) : r38 (n, ()) = some (⟨(varint (zig n)).toArray⟩, ()) := by
  have hz := zig_lt h0 h1
  have hl := zig_len h0 h1
  unfold r38
  have hneg : n < 0 → IntKind.wrap IntKind.u64 ((((BitVec.ofInt 64 18446744073709551615) ^^^ (BitVec.ofInt 64 (IntKind.wrap IntKind.u64 (IntKind.wrap IntKind.u64 n * 2)))).toNat : Nat) : Int) = (zig n : Int) := fun h => by
    have := zig_not h0 h
    have e2 : IntKind.u64.max = 18446744073709551615 := by decide +kernel
    rw [e2] at this
    exact this
  have hpos : ¬ n < 0 → IntKind.wrap IntKind.u64 (IntKind.wrap IntKind.u64 n * 2) = (zig n : Int) := fun h => by
    rw [wu64, wu64]
    have := zig_pos h
    omega
  have H : ∀ (step : (ByteArray × Int × Unit) × Unit → Option (((ByteArray × Int × Unit) × Unit) ⊕ (((ByteArray × Int × Unit) × Unit) ⊕ Empty))) (fin : (((ByteArray × Int × Unit) × Unit) ⊕ Empty) → Option (ByteArray × Unit)),
      (∀ s (u : Int), step ((s, (u, ())), ()) = cond (decide (127 < u)) (cond (decide (9223372036854775807 < s.size + (mkStr [IntKind.wrap .u8 (IntKind.wrap .u64 (Int.tmod u 128 + 128))]).size)) none (some (Sum.inl ((s ++ mkStr [IntKind.wrap .u8 (IntKind.wrap .u64 (Int.tmod u 128 + 128))], (IntKind.wrap .u64 (Int.tdiv u 128), ())), ())))) (some (Sum.inr (Sum.inl ((s, (u, ())), ()))))) →
      (∀ s (u : Int), fin (Sum.inl ((s, (u, ())), ())) = cond (decide (9223372036854775807 < s.size + (mkStr [IntKind.wrap .u8 u]).size)) none (some (s ++ mkStr [IntKind.wrap .u8 u], ()))) →
      Option.bind (loop step ((ByteArray.mk (List.toArray []), ((zig n : Int), ())), ())) fin = some (⟨(varint (zig n)).toArray⟩, ()) := by
    intro step fin hs hf
    have hloop := loop_var (step := step) (fun i (s : List UInt8) => ((ByteArray.mk s.toArray, (i, ())), ())) (fun s b => s ++ [b]) (fun s m => s.length + (varint m).length ≤ 100) (fun i s => Sum.inl ((ByteArray.mk s.toArray, (i, ())), ())) (fun m s hm hm2 hok => ?_) (fun m s hm hok => ?_) (zig n) [] hz (by simp; omega)
    · have hloop' : loop step ((ByteArray.mk (List.toArray []), ((zig n : Int), ())), ()) = _ := hloop
      rw [hloop', Option.bind_some, hf]
      have hfold : ∀ (l p : List UInt8), l.foldl (fun (s : List UInt8) b => s ++ [b]) p = p ++ l := by
        intro l
        induction l with
        | nil => intro p; simp
        | cons b l ih => intro p; simp [List.foldl_cons, ih]
      rw [hfold, List.nil_append, byteL _ (vlast_lt _), str_push, ← varint_split]
      have hsz : decide (9223372036854775807 < (ByteArray.mk (vpre (zig n)).toArray).size + (mkStr [((UInt8.ofNat (vlast (zig n))).toNat : Int)]).size) = false := by
        rw [size_mk, mkStr1_size]
        have := congrArg List.length (varint_split (zig n))
        simp at this
        simp; omega
      rw [hsz]
      rfl
    · have hd : decide ((127 : Int) < (m : Int)) = true := by simp; omega
      have hv := varint_ge hm
      rw [hs, hd, byteA, divA m hm2, str_push]
      have hsz : decide (9223372036854775807 < (ByteArray.mk s.toArray).size + (mkStr [((UInt8.ofNat (m % 128 + 128)).toNat : Int)]).size) = false := by
        rw [size_mk, mkStr1_size]
        simp; omega
      rw [hsz]
      refine ⟨rfl, ?_⟩
      rw [hv] at hok
      simp at hok ⊢
      omega
    · have hd : decide ((127 : Int) < (m : Int)) = false := by simp; omega
      rw [hs, hd]
      rfl
  by_cases h : n < 0
  · simp only [decide_eq_true h, cond_true, hneg h]
    exact H _ _ (fun s u => rfl) (fun s u => rfl)
  · simp only [decide_eq_false h, cond_false, hpos h]
    exact H _ _ (fun s u => rfl) (fun s u => rfl)
end Go.Proofs.YtdfgfjnpllncdaaGreatDoor.I

namespace Go.Proofs.YtdfgfjnpllncdaaGreatDoor.I
open Go.RowKit
set_option linter.unusedVariables false
set_option linter.unusedSimpArgs false
set_option linter.constructorNameAsVariable false
theorem f_true {α : Type} {b : Bool} {x y : Option α} (h : b = true) : cond b x y = x := by subst h; rfl
theorem f_false {α : Type} {b : Bool} {x y : Option α} (h : b = false) : cond b x y = y := by subst h; rfl
theorem f_bind {α β : Type} {o : Option α} {x : α} {f : α → Option β} {z : Option β} (h : o = some x) (k : f x = z) : Option.bind o f = z := by rw [h]; exact k
theorem num_raw (x : Int) (h : In64 x) : r38 (x, ()) = some (bs (varint (zig x)), ()) := r63_eq x h.1 h.2
theorem bs_app (a b : List UInt8) : bs a ++ bs b = bs (a ++ b) := ba_app a b
theorem bs_sz (l : List UInt8) : (bs l).size = l.length := by rw [bytes_len]; rfl
theorem cat_ok (a b : List UInt8) (h : a.length + b.length ≤ 1000000000) : decide (9223372036854775807 < (bs a).size + (bs b).size) = false := by
  rw [bs_sz, bs_sz]
  exact decide_eq_false (by omega)
@[reducible] def embTr (i : Int) (s : ByteArray) : (ByteArray × Int × Unit) × Unit := ((s, (i, ())), ())
theorem treesB_take (ks : List DExp) (j : Nat) : (treesB (ks.take j)).length ≤ (treesB ks).length := by
  have h : treesB ks = treesB (ks.take j) ++ treesB (ks.drop j) := by
    have : ∀ a b : List DExp, treesB (a ++ b) = treesB a ++ treesB b := by
      intro a
      induction a with
      | nil => intro b; simp [treesB]
      | cons x a ih => intro b; simp only [List.cons_append, treesB, ih, List.append_assoc]
    rw [← this, List.take_append_drop]
  rw [h, List.length_append]
  omega
theorem treesB_mem {ks : List DExp} {k : DExp} (h : k ∈ ks) : (treeB k).length ≤ (treesB ks).length := by
  induction ks with
  | nil => cases h
  | cons x ks ih =>
    simp only [treesB, List.length_append]
    rcases List.mem_cons.1 h with rfl | h
    · omega
    · have := ih h; omega
/-- The loop over the operands. -/
theorem tree_kids (n : Nat) (ks : List DExp) (IH : ∀ k ∈ ks, r16 n (k, ()) = some (bs (treeB k), ())) (hk : ks.length ≤ 9223372036854775807) (pre : List UInt8) (hp : pre.length + (treesB ks).length + 1 ≤ 1000000000) (A : ByteArray) (hA : A = bs pre)
    (step : (ByteArray × Int × Unit) × Unit → Option (((ByteArray × Int × Unit) × Unit) ⊕ (((ByteArray × Unit) × Unit) ⊕ Empty)))
    (hs : ∀ (s : ByteArray) (i : Int), step ((s, (i, ())), ()) = cond (decide (i < (ks.length : Int))) (cond (inB i ks.length) (Option.bind (ks[Int.toNat i]?) fun x6 => Option.bind (r16 n (Tree.node (Tree.val x6) (Tree.kids x6), ())) fun x7 => cond (decide (9223372036854775807 < s.size + x7.1.size)) none (some (Sum.inl ((s ++ x7.1, (IntKind.wrap .i64 (i + 1), ())), ())))) none) (some (Sum.inr (Sum.inl ((s, ()), ()))))) :
    loop step ((A, ((0 : Int), ())), ()) = some (.inl ((bs (pre ++ treesB ks), ()), ())) := by
  subst hA
  have H : ∃ o, loop step (embTr ((0 : Nat) : Int) (bs pre)) = some o ∧ o = .inl ((bs (pre ++ treesB ks), ()), ()) := by
    refine loop_up (step := step) embTr ks.length (fun j s => s = bs (pre ++ treesB (ks.take j))) (fun o => o = .inl ((bs (pre ++ treesB ks), ()), ())) (fun j s hj hI => ?_) (fun s hI => ?_) 0 _ (Nat.zero_le _) (by simp [treesB])
    · subst hI
      obtain ⟨k, hkj⟩ := get_lt hj
      have hm := List.mem_of_getElem? hkj
      have h1 := treesB_take ks (j + 1)
      rw [take_succ hkj, treesB_snoc, List.length_append] at h1
      refine .inl ⟨bs (pre ++ treesB (ks.take (j + 1))), ?_, rfl⟩
      rw [hs]
      refine (f_true (dec_lt hj)).trans ((f_true (inB_lt hj)).trans ?_)
      refine f_bind (x := k) (by rw [Int.toNat_natCast]; exact hkj) ?_
      refine f_bind (by rw [nd_eta2]; exact IH k hm) ?_
      refine (f_false (cat_ok _ _ (by rw [List.length_append]; omega))).trans ?_
      rw [wrapS hj hk, bs_app, take_succ hkj, treesB_snoc, List.append_assoc]
    · subst hI
      rw [List.take_length]
      refine ⟨_, ?_, rfl⟩
      rw [hs]
      exact f_false dec_nlt
  obtain ⟨o, h1, rfl⟩ := H
  exact h1
set_option maxHeartbeats 4000000 in
theorem tree_raw : ∀ (n : Nat) (t : DExp), sz t ≤ n → small kExp t → (treeB t).length ≤ 1000000000 → r16 n (t, ()) = some (bs (treeB t), ())
  | 0, t, hn, _, _ => by rw [sz_node] at hn; omega
  | n + 1, t, hn, hs, hlen => by
    have hnd := ndOk hs
    have hsk := (exp_small hs).2.2.2.2
    have hlk := (exp_small hs).2.2.2.1
    have hszk : ∀ k ∈ Tree.kids t, sz k ≤ n := fun k hk => by
      have := szL_mem hk
      rw [sz_node] at hn
      omega
    rw [treeB_node] at hlen ⊢
    have IH : ∀ k ∈ Tree.kids t, r16 n (k, ()) = some (bs (treeB k), ()) := fun k hk => tree_raw n k (hszk k hk) (hsk k hk) (by
      have := treesB_mem hk
      simp only [List.length_cons, List.length_append] at hlen
      omega)
    rw [r16_succ]
    unfold r16B
    generalize Tree.kids t = ks at *
    generalize Tree.val t = nd at *
    obtain ⟨op, ⟨kd, num, str, fl, ⟨⟩⟩, nm, ⟨⟩⟩ := nd
    have a1 := num_raw op hnd.op
    have a2 := num_raw kd hnd.kind
    have a3 := num_raw num hnd.n
    have a4 := num_raw ((str.size : Nat) : Int) ⟨by omega, by have := hnd.s; simp only at this; omega⟩
    have a5 := num_raw ((nm.size : Nat) : Int) ⟨by omega, by have := hnd.name; simp only at this; omega⟩
    simp only [headT, List.length_cons, List.length_append, List.length_nil] at hlen
    have es : str = bs (ofS str) := rfl
    have en : nm = bs (ofS nm) := rfl
    have q40 : (ByteArray.mk (List.toArray (List.cons (40 : UInt8) List.nil))).size = 1 := rfl
    have q33 : (ByteArray.mk (List.toArray (List.cons (33 : UInt8) List.nil))).size = 1 := rfl
    have hacc : ((((((bs [40] ++ bs (varint (zig op))) ++ bs (varint (zig kd))) ++ bs (varint (zig num))) ++ bs (varint (zig ((str.size : Nat) : Int)))) ++ str) ++ bs (varint (zig ((nm.size : Nat) : Int)))) ++ nm = bs ([40] ++ (varint (zig op) ++ (varint (zig kd) ++ (varint (zig num) ++ (varint (zig ((str.size : Nat) : Int)) ++ (ofS str ++ (varint (zig ((nm.size : Nat) : Int)) ++ ofS nm))))))) := by
      conv => lhs; rw [es, en]
      simp only [bs_app, List.append_assoc]
      rfl
    have fin : ∀ q : List UInt8, q.length + 1 ≤ 1000000000 → cond (decide (9223372036854775807 < (bs q).size + (bs [41]).size)) none (some (bs q ++ bs [41], ())) = some (bs (q ++ [41]), ()) := fun q hq => by
      rw [f_false (cat_ok q [41] (by simpa using hq)), bs_app]
    refine f_bind a1 ?_
    refine (f_false (decide_eq_false ?_)).trans ?_
    · simp only [ByteArray.size_append, bs_sz, q40, q33]
      simp only [ofS_len] at hlen
      omega
    refine f_bind a2 ?_
    refine (f_false (decide_eq_false ?_)).trans ?_
    · simp only [ByteArray.size_append, bs_sz, q40, q33]
      simp only [ofS_len] at hlen
      omega
    refine f_bind a3 ?_
    refine (f_false (decide_eq_false ?_)).trans ?_
    · simp only [ByteArray.size_append, bs_sz, q40, q33]
      simp only [ofS_len] at hlen
      omega
    refine f_bind a4 ?_
    refine (f_false (decide_eq_false ?_)).trans ?_
    · simp only [ByteArray.size_append, bs_sz, q40, q33]
      simp only [ofS_len] at hlen
      omega
    refine (f_false (decide_eq_false ?_)).trans ?_
    · simp only [ByteArray.size_append, bs_sz, q40, q33]
      simp only [ofS_len] at hlen
      omega
    refine f_bind a5 ?_
    refine (f_false (decide_eq_false ?_)).trans ?_
    · simp only [ByteArray.size_append, bs_sz, q40, q33]
      simp only [ofS_len] at hlen
      omega
    refine (f_false (decide_eq_false ?_)).trans ?_
    · simp only [ByteArray.size_append, bs_sz, q40, q33]
      simp only [ofS_len] at hlen
      omega
    cases fl
    · refine (f_false (by rfl)).trans ?_
      simp only [if_neg (show ¬ (false = true) by decide), List.length_nil] at hlen
      refine f_bind (x := .inl ((bs (([40] ++ (varint (zig op) ++ (varint (zig kd) ++ (varint (zig num) ++ (varint (zig ((str.size : Nat) : Int)) ++ (ofS str ++ (varint (zig ((nm.size : Nat) : Int)) ++ ofS nm))))))) ++ treesB ks), ()), ())) ?_ ?_
      · exact tree_kids n ks IH hlk _ (by simp only [List.length_cons, List.length_nil, List.length_append]; omega) _ hacc _ (by intros; rfl)
      · refine (fin _ (by simp only [List.length_cons, List.length_nil, List.length_append]; omega)).trans ?_
        congr 2
        simp [headT]
    · refine (f_true (by rfl)).trans ?_
      rw [if_pos (show true = true from rfl)] at hlen
      simp only [List.length_cons, List.length_nil] at hlen
      refine (f_false (decide_eq_false ?_)).trans ?_
      · simp only [ByteArray.size_append, bs_sz, q40, q33]
        simp only [ofS_len] at hlen
        omega
      refine f_bind (x := .inl ((bs ((([40] ++ (varint (zig op) ++ (varint (zig kd) ++ (varint (zig num) ++ (varint (zig ((str.size : Nat) : Int)) ++ (ofS str ++ (varint (zig ((nm.size : Nat) : Int)) ++ ofS nm))))))) ++ [33]) ++ treesB ks), ()), ())) ?_ ?_
      · have hacc2 : (((((((bs [40] ++ bs (varint (zig op))) ++ bs (varint (zig kd))) ++ bs (varint (zig num))) ++ bs (varint (zig ((str.size : Nat) : Int)))) ++ str) ++ bs (varint (zig ((nm.size : Nat) : Int)))) ++ nm) ++ bs [33] = bs (([40] ++ (varint (zig op) ++ (varint (zig kd) ++ (varint (zig num) ++ (varint (zig ((str.size : Nat) : Int)) ++ (ofS str ++ (varint (zig ((nm.size : Nat) : Int)) ++ ofS nm))))))) ++ [33]) := by rw [hacc, bs_app]
        exact tree_kids n ks IH hlk _ (by simp only [List.length_cons, List.length_nil, List.length_append]; omega) _ hacc2 _ (by intros; rfl)
      · refine (fin _ (by simp only [List.length_cons, List.length_nil, List.length_append]; omega)).trans ?_
        congr 2
        simp [headT]
end Go.Proofs.YtdfgfjnpllncdaaGreatDoor.I

namespace Go.Proofs.YtdfgfjnpllncdaaGreatDoor.I
open Go.RowKit
set_option linter.unusedVariables false
set_option linter.unusedSimpArgs false
set_option linter.constructorNameAsVariable false
theorem wf_of {n : Int} (h : In64 n) : (Lit.int .i64 n).wf = true := by
  obtain ⟨h1, h2⟩ := h
  simp [Lit.wf, IntKind.min, IntKind.max, IntKind.signed, IntKind.bits]
  omega
theorem vread_ok {s : ByteArray} (h : (vread s).2 = 0) : checkV (vread s).1 = 0 := by
  rw [vread_answ] at h ⊢
  cases hp : preV s with
  | none => rw [hp] at h; exact absurd (show (15 : Int) = 0 from h) (by decide)
  | some v =>
    rw [hp] at h
    rw [answ_some] at h ⊢
    by_cases h0 : checkV v = 0
    · rw [if_pos h0]; exact h0
    · rw [if_neg h0] at h; exact absurd h h0
theorem check_bnd {v : DVal} (h : checkV v = 0) : 0 ≤ v.1 ∧ v.1 ≤ 3 ∧ -1000000000000 ≤ v.2.1 ∧ v.2.1 ≤ 1000000000000 ∧ v.2.2.1.size ≤ 40 := by
  unfold checkV at h
  split at h
  · cases h
  split at h
  · cases h
  split at h
  · cases h
  split at h
  · cases h
  split at h
  · cases h
  split at h
  · cases h
  split at h
  · cases h
  split at h
  · cases h
  exact ⟨by omega, by omega, by omega, by omega, by omega⟩
theorem val_small {v : DVal} (h : checkV v = 0) : small kVal v := by
  obtain ⟨h1, h2, h3, h4, h5⟩ := check_bnd h
  refine ⟨wf_of ⟨by omega, by omega⟩, wf_of ⟨by omega, by omega⟩, ?_, trivial, trivial⟩
  show v.2.2.1.size ≤ maxLen
  have : maxLen = 9223372036854775807 := rfl
  omega
theorem node_small {op : Int} {v : DVal} {s : ByteArray} {ks : List DExp} (ho : In64 op) (hv : small kVal v) (hs : s.size ≤ 4000) (hl : ks.length ≤ 100) (hk : ∀ k ∈ ks, small kExp k) : small kExp (.node (op, (v, (s, ()))) ks) := by
  have hm : maxLen = 9223372036854775807 := rfl
  refine ⟨⟨wf_of ho, hv, ?_, trivial⟩, by omega, smallTs_iff.2 hk⟩
  show s.size ≤ maxLen
  omega
theorem zero_small : small kVal zeroV0 := val_small rfl
theorem nodeL_small {v : DVal} (h : checkV v = 0) : small kExp (nodeL v) := node_small ⟨by omega, by omega⟩ (val_small h) (by show (0 : Nat) ≤ 4000; omega) (by simp) (fun k hk => by cases hk)
theorem nodeN_small {op : Int} {s : ByteArray} (ho : In64 op) (hs : s.size ≤ 4000) : small kExp (nodeN op s) := node_small ho zero_small hs (by simp) (fun k hk => by cases hk)
theorem nodeO_small {op : Int} {ks : List DExp} (ho : In64 op) (hl : ks.length ≤ 100) (hk : ∀ k ∈ ks, small kExp k) : small kExp (nodeO op ks) := node_small ho zero_small (by show (0 : Nat) ≤ 4000; omega) hl hk
theorem szL_app : ∀ (a b : List DExp), szL (a ++ b) = szL a + szL b
  | [], b => by simp [szL]
  | x :: a, b => by simp only [List.cons_append, szL, szL_app a b]; omega
theorem sz_O (op : Int) (ks : List DExp) : sz (nodeO op ks) = szL ks + 1 := by rw [sz_node]; rfl
theorem sz_L (v : DVal) : sz (nodeL v) = 1 := by rw [sz_node]; rfl
theorem sz_N (op : Int) (s : ByteArray) : sz (nodeN op s) = 1 := by rw [sz_node]; rfl
theorem leaf_kind {l : Toks} {e : DExp} {l1 : Toks} (h : leafOf l = some (some (e, l1))) : (∃ s, (vread s).2 = 0 ∧ e = nodeL (vread s).1) ∨ ∃ op s, In64 op ∧ s ∈ l ∧ e = nodeN op s := by
  cases l with
  | nil => cases h
  | cons s l =>
    simp only [leafOf] at h
    by_cases e1 : s = tOpen
    · rw [if_pos e1] at h; cases h
    rw [if_neg e1] at h
    by_cases e2 : s = tDot
    · rw [if_pos e2] at h
      cases l with
      | nil => cases h
      | cons f l2 =>
        simp only at h
        by_cases hf : inL f fieldsL = true
        · rw [if_pos hf] at h
          injection h with h
          injection h with h
          obtain ⟨h1, _⟩ := Prod.mk.inj h
          exact .inr ⟨2, f, ⟨by omega, by omega⟩, by simp, h1.symm⟩
        · rw [if_neg hf] at h; cases h
    rw [if_neg e2] at h
    by_cases e3 : kindB s = 110
    · rw [if_pos e3] at h
      by_cases h0 : (vread s).2 = 0
      · rw [if_pos h0] at h
        injection h with h
        injection h with h
        obtain ⟨h1, _⟩ := Prod.mk.inj h
        exact .inl ⟨s, h0, h1.symm⟩
      · rw [if_neg h0] at h; cases h
    rw [if_neg e3] at h
    by_cases e4 : kindB s = 119 ∨ kindB s = 116
    · rw [if_neg (not_not_intro e4)] at h
      by_cases h0 : (vread s).2 = 0
      · rw [if_pos h0] at h
        injection h with h
        injection h with h
        obtain ⟨h1, _⟩ := Prod.mk.inj h
        exact .inl ⟨s, h0, h1.symm⟩
      · rw [if_neg h0] at h
        cases hf : fnOf s with
        | some op => rw [hf] at h; cases h
        | none =>
          rw [hf] at h
          simp only at h
          by_cases hc : kindB s = 119 ∧ nameOk s = true ∧ inL s wordsL = false
          · rw [if_pos hc] at h
            injection h with h
            injection h with h
            obtain ⟨h1, _⟩ := Prod.mk.inj h
            exact .inr ⟨1, s, ⟨by omega, by omega⟩, by simp, h1.symm⟩
          · rw [if_neg hc] at h; cases h
    · rw [if_pos e4] at h; cases h
/-- Each node has a token of its own; all is small. -/
theorem ps_fine {q : Req} {l : Toks} {r : Option (DExp × Toks)} (h : Ps q l r) : TokOk l → ∀ {e l1}, r = some (e, l1) → match q with
    | .at _ => sz e + l1.length ≤ l.length ∧ small kExp e
    | .chain _ e0 => small kExp e0 → sz e + l1.length ≤ sz e0 + l.length ∧ small kExp e
    | .args op k acc => In64 op → acc.length + k ≤ 9 → (∀ a ∈ acc, small kExp a) → sz e + l1.length ≤ szL acc + 1 + l.length ∧ small kExp e := by
  induction h with
  | @bin n l e l1 r hb h1 h2 ih1 ih2 =>
    intro hok e' l' hr
    obtain ⟨a1, a2⟩ := ih1 hok rfl
    obtain ⟨b1, b2⟩ := ih2 (hok.sub h1) hr a2
    exact ⟨by omega, b2⟩
  | stop h =>
    intro hok e' l' hr hs
    injection hr with hr
    obtain ⟨rfl, rfl⟩ := Prod.mk.inj hr
    exact ⟨Nat.le_refl _, hs⟩
  | @go n e s l op e2 l2 r hb ho h4 h1 h2 ih1 ih2 =>
    intro hok e' l' hr hs
    obtain ⟨a1, a2⟩ := ih1 hok.tail rfl
    obtain ⟨o1, _⟩ := opAt_hd.1 ho
    have hd := (opHd_dom o1).1
    have h16 : op ≤ 16 := by
      unfold domL at hd
      simp only [List.mem_cons, List.not_mem_nil, or_false] at hd
      omega
    obtain ⟨b1, b2⟩ := ih2 (hok.tail.sub h1) hr (nodeO_small ⟨by omega, by omega⟩ (by simp) (fun k hk => by
      simp only [List.mem_cons, List.not_mem_nil, or_false] at hk
      rcases hk with rfl | rfl
      · exact hs
      · exact a2))
    rw [sz_O] at b1
    simp only [szL] at b1
    exact ⟨by simp only [List.length_cons]; omega, b2⟩
  | @go4 e s l op e2 l2 ho h1 ih1 =>
    intro hok e' l' hr hs
    injection hr with hr
    obtain ⟨rfl, rfl⟩ := Prod.mk.inj hr
    obtain ⟨a1, a2⟩ := ih1 hok.tail rfl
    obtain ⟨o1, _⟩ := opAt_hd.1 ho
    have hd := (opHd_dom o1).1
    have h16 : op ≤ 16 := by
      unfold domL at hd
      simp only [List.mem_cons, List.not_mem_nil, or_false] at hd
      omega
    refine ⟨?_, nodeO_small ⟨by omega, by omega⟩ (by simp) (fun k hk => by
      simp only [List.mem_cons, List.not_mem_nil, or_false] at hk
      rcases hk with rfl | rfl
      · exact hs
      · exact a2)⟩
    rw [sz_O]
    simp only [szL, List.length_cons]
    omega
  | @notY l e l1 h1 ih1 =>
    intro hok e' l' hr
    injection hr with hr
    obtain ⟨rfl, rfl⟩ := Prod.mk.inj hr
    obtain ⟨a1, a2⟩ := ih1 hok.tail rfl
    refine ⟨?_, nodeO_small ⟨by omega, by omega⟩ (by simp) (fun k hk => by
      simp only [List.mem_cons, List.not_mem_nil, or_false] at hk
      rw [hk]
      exact a2)⟩
    rw [sz_O]
    simp only [szL, List.length_cons]
    omega
  | @nonot l r hn h1 ih1 => intro hok e' l' hr; exact ih1 hok hr
  | @neg l e l1 hn h1 ih1 =>
    intro hok e' l' hr
    injection hr with hr
    obtain ⟨rfl, rfl⟩ := Prod.mk.inj hr
    obtain ⟨a1, a2⟩ := ih1 hok.tail rfl
    refine ⟨?_, nodeO_small ⟨by omega, by omega⟩ (by simp) (fun k hk => by
      simp only [List.mem_cons, List.not_mem_nil, or_false] at hk
      rw [hk]
      exact a2)⟩
    rw [sz_O]
    simp only [szL, List.length_cons]
    omega
  | @negNum d l hk hv =>
    intro hok e' l' hr
    injection hr with hr
    obtain ⟨rfl, rfl⟩ := Prod.mk.inj hr
    refine ⟨?_, nodeL_small (vread_ok hv)⟩
    rw [sz_L]
    simp only [List.length_cons]
    omega
  | @prim l r hn h1 ih1 => intro hok e' l' hr; exact ih1 hok hr
  | @par l e l1 h1 ih1 =>
    intro hok e' l' hr
    injection hr with hr
    obtain ⟨rfl, rfl⟩ := Prod.mk.inj hr
    obtain ⟨a1, a2⟩ := ih1 hok.tail rfl
    simp only [List.length_cons] at a1 ⊢
    exact ⟨by omega, a2⟩
  | @leaf l r hl =>
    intro hok e' l' hr
    subst hr
    have hlen := ps_len (.leaf hl) rfl
    simp only at hlen
    rcases leaf_kind hl with ⟨s, h0, rfl⟩ | ⟨op, s, ho, hs, rfl⟩
    · exact ⟨by rw [sz_L]; omega, nodeL_small (vread_ok h0)⟩
    · exact ⟨by rw [sz_N]; omega, nodeN_small ho (hok s hs)⟩
  | @fnY s l op r hl hf h1 ih1 =>
    intro hok e' l' hr
    obtain ⟨k3, _⟩ := fnOf_kids hf
    have ho : In64 op := by rcases fnOf_some hf with ⟨rfl, _⟩ | ⟨rfl, _⟩ | ⟨rfl, _⟩ | ⟨rfl, _⟩ <;> exact ⟨by omega, by omega⟩
    obtain ⟨a1, a2⟩ := ih1 hok.tail.tail hr ho (by simp; omega) (fun a ha => by cases ha)
    simp only [szL, List.length_cons] at a1 ⊢
    exact ⟨by omega, a2⟩
  | @argsEnd op acc l =>
    intro hok e' l' hr ho h9 hs
    injection hr with hr
    obtain ⟨rfl, rfl⟩ := Prod.mk.inj hr
    refine ⟨?_, nodeO_small ho (by omega) hs⟩
    rw [sz_O]
    simp only [List.length_cons]
    omega
  | @argOne op k l e l1 r h1 h2 ih1 ih2 =>
    intro hok e' l' hr ho h9 hs
    obtain ⟨a1, a2⟩ := ih1 hok rfl
    simp only [List.length_nil] at h9
    obtain ⟨b1, b2⟩ := ih2 (hok.sub h1) hr ho (by simp; omega) (fun a ha => by
      simp only [List.mem_cons, List.not_mem_nil, or_false] at ha
      rw [ha]; exact a2)
    simp only [szL] at b1 ⊢
    exact ⟨by omega, b2⟩
  | @argMore op k acc l e l1 r hne h1 h2 ih1 ih2 =>
    intro hok e' l' hr ho h9 hs
    obtain ⟨a1, a2⟩ := ih1 hok.tail rfl
    obtain ⟨b1, b2⟩ := ih2 (hok.tail.sub h1) hr ho (by simp; omega) (fun a ha => by
      rcases List.mem_append.1 ha with ha | ha
      · exact hs a ha
      · simp only [List.mem_cons, List.not_mem_nil, or_false] at ha
        rw [ha]; exact a2)
    rw [szL_app] at b1
    simp only [szL, List.length_cons] at b1 ⊢
    exact ⟨by omega, b2⟩
  | _ => intro hok e' l' hr; cases hr
/-- A valid node's bounds. -/
theorem node_bnd {nd : DNode} {k : Nat} (h : oneE nd k = 0) : nd.2.1.2.2.1.size ≤ 40 ∧ In64 nd.2.1.2.1 ∧ nd.2.2.1.size ≤ 12 := by
  obtain ⟨g1, g2, g3⟩ := oneE_kids h
  unfold oneE at h
  rw [if_neg (kids_in g1 g2)] at h
  split at h
  · cases h
  · rename_i hn
    have hv : nd.1 ≠ 0 → nd.2.1 = (0, (0, (emptyS, (false, ())))) := fun h0 => Classical.byContradiction fun hc => hn (.inr (.inl ⟨h0, hc⟩))
    have hs : nd.1 ≠ 1 → nd.1 ≠ 2 → nd.2.2.1 = emptyS := fun h1 h2 => Classical.byContradiction fun hc => hn (.inr (.inr ⟨h1, h2, hc⟩))
    have he : emptyS.size = 0 := rfl
    have hval : nd.1 ≠ 0 → nd.2.1.2.2.1.size ≤ 40 ∧ In64 nd.2.1.2.1 := fun h0 => by
      rw [hv h0]
      exact ⟨by show (0 : Nat) ≤ 40; omega, ⟨by show (-9223372036854775808 : Int) ≤ 0; omega, by show (0 : Int) ≤ 9223372036854775807; omega⟩⟩
    by_cases h0 : nd.1 = 0
    · rw [if_pos h0] at h
      obtain ⟨_, _, b1, b2, b3⟩ := check_bnd h
      refine ⟨b3, ⟨by omega, by omega⟩, ?_⟩
      rw [hs (by omega) (by omega)]
      omega
    · obtain ⟨c1, c2⟩ := hval h0
      refine ⟨c1, c2, ?_⟩
      rw [if_neg h0] at h
      split at h
      · cases h
      · rename_i hbad
        by_cases h1 : nd.1 = 1
        · have hnm : nameOk nd.2.2.1 = true := by
            cases hx : nameOk nd.2.2.1 with
            | true => rfl
            | false => exact absurd (.inl ⟨h1, .inl hx⟩) hbad
          unfold nameOk at hnm
          simp only [Bool.and_eq_true, decide_eq_true_eq] at hnm
          exact hnm.2.2
        · by_cases h2 : nd.1 = 2
          · have hin : inL nd.2.2.1 fieldsL = true := by
              cases hx : inL nd.2.2.1 fieldsL with
              | true => rfl
              | false => exact absurd (.inr ⟨h2, hx⟩) hbad
            have key : ∀ s ∈ fieldsL, s.size ≤ 12 := by decide +kernel
            exact key _ (inL_iff.1 hin)
          · rw [hs h1 h2]
            omega
mutual
theorem treeB_le : ∀ (t : DExp), small kExp t → VE t → (treeB t).length ≤ 110 * sz t
  | .node nd ks, hs, hv => by
    have hv' := (VE_node (.node nd ks)).1 hv
    have h1 := head_len' (ndOk hs)
    obtain ⟨b1, _, b3⟩ := node_bnd hv'.1
    have h2 := treesB_le ks (exp_small hs).2.2.2.2 hv'.2
    simp only [Tree.val] at h1 b1 b3
    simp only [treeB, List.length_cons, List.length_append, List.length_nil, sz]
    omega
theorem treesB_le : ∀ (ks : List DExp), (∀ k ∈ ks, small kExp k) → (∀ k ∈ ks, VE k) → (treesB ks).length ≤ 110 * szL ks
  | [], _, _ => by simp [treesB]
  | k :: ks, hs, hv => by
    have h1 := treeB_le k (hs k (by simp)) (hv k (by simp))
    have h2 := treesB_le ks (fun x hx => hs x (by simp [hx])) (fun x hx => hv x (by simp [hx]))
    simp only [treesB, List.length_append, szL]
    omega
end
end Go.Proofs.YtdfgfjnpllncdaaGreatDoor.I

namespace Go.Proofs.YtdfgfjnpllncdaaGreatDoor.I
open Go.RowKit
set_option linter.unusedVariables false
set_option linter.unusedSimpArgs false
set_option linter.constructorNameAsVariable false
theorem zE_small : small kExp zE := nodeL_small (v := zeroV0) rfl
theorem zE_tree : (treeB zE).length ≤ 1000000000 := by
  have : VE zE := by
    rw [VE_node]
    refine ⟨?_, fun k hk => by cases hk⟩
    show oneE (0, (zeroV0, (emptyS, ()))) 0 = 0
    unfold oneE
    have hk : kidsN 0 = 0 := rfl
    have hv : checkV zeroV0 = 0 := rfl
    simp [hk, hv]
  have h := treeB_le zE zE_small this
  have : sz zE = 1 := sz_L zeroV0
  omega
theorem read_large (n : Nat) (s : ByteArray) (h : 4000 < s.size) : r20 n (s, ()) = some (zE, ((2 : Int), ())) ∧ r21 n (s, ()) = some (zE, ((2 : Int), ())) := by
  refine ⟨?_, ?_⟩
  · unfold r20
    exact c_true (decide_eq_true (by show (4000 : Int) < (s.size : Int); omega))
  · unfold r21
    exact c_true (decide_eq_true (by show (4000 : Int) < (s.size : Int); omega))
theorem read_bad (n : Nat) (l : List UInt8) (hl : l.length ≤ 4000) (h : lexS l = none) : r20 n (bs l, ()) = some (zE, ((15 : Int), ())) ∧ r21 (n + 1) (bs l, ()) = some (zE, ((15 : Int), ())) := by
  have h1 := lex_eq l hl
  have h2 := pieces_eq l hl
  rw [h] at h1 h2
  refine ⟨?_, ?_⟩
  · unfold r20
    refine (c_false (decide_eq_false (by show ¬ (4000 : Int) < ((bs l).size : Int); rw [bs_size]; omega))).trans ?_
    refine bindE h1 ?_
    exact (c_false rfl).trans (c_true rfl)
  · unfold r21
    refine (c_false (decide_eq_false (by show ¬ (4000 : Int) < ((bs l).size : Int); rw [bs_size]; omega))).trans ?_
    refine bindE h2 ?_
    refine bindE (upto_bad n 1 []) ?_
    exact c_true rfl
/-- What Read returns of what the tokens say. -/
noncomputable def readA : Option (DExp × Toks) → DExp × Int
  | some (e, []) => if expE e = 0 then (e, 0) else (zE, expE e)
  | _ => (zE, 15)
theorem read_toks {l : List UInt8} {ts : Toks} (hl : l.length ≤ 4000) (h : lexS l = some ts) {r : Option (DExp × Toks)} (hp : Ps (.at 1) ts r) : Ev fun n => r20 n (bs l, ()) = some ((readA r).1, ((readA r).2, ())) ∧ r21 n (bs l, ()) = some ((readA r).1, ((readA r).2, ())) := by
  have h1 := lex_eq l hl
  have h2 := pieces_eq l hl
  rw [h] at h1 h2
  obtain ⟨q1, q2⟩ := lex_ok l.length l ts (Nat.le_refl _) h
  have hok : TokOk ts := fun s hs => by have := (q1 s hs).2; omega
  have hne : TokNe ts := fun s hs => (q1 s hs).1
  have i1 : Ev fun m => resP r (r43 m ((1 : Int), ()) (toks ts, (false, ()))) := ev_mono (folP hp hok) fun m j => by
    rw [if_neg (by decide)] at j
    exact j
  have i2 := full_of (folR hp) hok hne (by omega) (by omega)
  have hsz : decide ((4000 : Int) < ((bs l).size : Int)) = false := decide_eq_false (by rw [bs_size]; omega)
  cases r with
  | none =>
    refine ev_mono (ev_and i1 i2) ?_
    rintro n ⟨⟨e, tk, j1⟩, ⟨e2, l2, j2⟩⟩
    refine ⟨?_, ?_⟩
    · unfold r20
      refine (c_false hsz).trans (bindE h1 ((c_true rfl).trans (bindE j1 ?_)))
      exact (c_false rfl).trans (c_true rfl)
    · unfold r21
      refine (c_false hsz).trans (bindE h2 (bindE j2 ?_))
      exact c_true rfl
  | some p =>
    obtain ⟨e, l1⟩ := p
    obtain ⟨f1, f2⟩ := ps_fine hp hok rfl
    refine ev_mono (ev_and (ev_and i1 i2) (⟨sz e, fun n hn => hn⟩ : Ev fun n => sz e ≤ n)) ?_
    rintro n ⟨⟨j1, j2⟩, hn⟩
    have j1 : r43 n ((1 : Int), ()) (toks ts, (false, ())) = some ((e, ()), (toks l1, (false, ()))) := j1
    have j2 : r45 n ((1 : Int), ()) (ts, (false, ())) = some ((e, ()), (l1, (false, ()))) := j2
    cases l1 with
    | cons s l1 =>
      refine ⟨?_, ?_⟩
      · unfold r20
        refine (c_false hsz).trans (bindE h1 ((c_true rfl).trans (bindE j1 ?_)))
        refine (c_false rfl).trans ((c_false rfl).trans ?_)
        exact c_true (decide_eq_true (by show (0 : Int) < ((toks (s :: l1)).length : Int); unfold toks; simp <;> omega))
      · unfold r21
        refine (c_false hsz).trans (bindE h2 (bindE j2 ?_))
        refine (c_false rfl).trans ?_
        exact c_true (decide_eq_true (by show (0 : Int) < ((s :: l1).length : Int); simp <;> omega))
    | nil =>
      have hc := check_eq n e hn f2
      have hr := exprErr_eq n e hn f2
      have rA : readA (some (e, [])) = if expE e = 0 then (e, 0) else (zE, expE e) := rfl
      rw [rA]
      refine ⟨?_, ?_⟩
      · unfold r20
        refine (c_false hsz).trans (bindE h1 ((c_true rfl).trans (bindE j1 ?_)))
        refine (c_false rfl).trans ((c_false rfl).trans ((c_false rfl).trans ?_))
        refine bindE (x := (expE e, ())) (by rw [nd_eta2]; exact hc) ?_
        by_cases h0 : expE e = 0
        · rw [if_pos h0]
          refine (c_false (by show (Bool.not (decide (expE e = 0))) = false; rw [decide_eq_true h0]; rfl)).trans ?_
          show some (Tree.node (Tree.val e) (Tree.kids e), ((0 : Int), ())) = _
          rw [nd_eta2]
        · rw [if_neg h0]
          exact c_true (by show (Bool.not (decide (expE e = 0))) = true; rw [decide_eq_false h0]; rfl)
      · unfold r21
        refine (c_false hsz).trans (bindE h2 (bindE j2 ?_))
        refine (c_false rfl).trans ((c_false rfl).trans ?_)
        refine bindE (x := (expE e, ())) (by rw [nd_eta2]; exact hr) ?_
        by_cases h0 : expE e = 0
        · rw [if_pos h0]
          refine (c_false (by show (Bool.not (decide (expE e = 0))) = false; rw [decide_eq_true h0]; rfl)).trans ?_
          show some (Tree.node (Tree.val e) (Tree.kids e), ((0 : Int), ())) = _
          rw [nd_eta2]
        · rw [if_neg h0]
          exact c_true (by show (Bool.not (decide (expE e = 0))) = true; rw [decide_eq_false h0]; rfl)
/-- Both read the same, and it is no large tree. -/
theorem reads_both (l : List UInt8) : ∃ (t : DExp) (x : Int), small kExp t ∧ (treeB t).length ≤ 1000000000 ∧ Ev fun n => r20 n (bs l, ()) = some (t, (x, ())) ∧ r21 n (bs l, ()) = some (t, (x, ())) := by
  by_cases hl : l.length ≤ 4000
  · cases h : lexS l with
    | none =>
      refine ⟨zE, 15, zE_small, zE_tree, ⟨1, fun n hn => ?_⟩⟩
      obtain ⟨m, rfl⟩ : ∃ m, n = m + 1 := ⟨n - 1, by omega⟩
      exact ⟨(read_bad (m + 1) l hl h).1, (read_bad m l hl h).2⟩
    | some ts =>
      obtain ⟨r, hp⟩ := ps_total ts.length ts (Nat.le_refl _) 1 (by omega) (by omega)
      have hb := read_toks hl h hp
      refine ⟨(readA r).1, (readA r).2, ?_, ?_, hb⟩
      all_goals
        obtain ⟨q1, q2⟩ := lex_ok l.length l ts (Nat.le_refl _) h
        have hok : TokOk ts := fun s hs => by have := (q1 s hs).2; omega
        unfold readA
        split
        · rename_i e
          obtain ⟨f1, f2⟩ := ps_fine hp hok rfl
          by_cases h0 : expE e = 0
          · rw [if_pos h0]
            first
              | exact f2
              | (have := treeB_le e f2 (ve_of e 1 0 h0)
                 simp only [List.length_nil] at f1
                 show (treeB e).length ≤ _
                 omega)
          · rw [if_neg h0]
            first | exact zE_small | exact zE_tree
        · first | exact zE_small | exact zE_tree
  · exact ⟨zE, 2, zE_small, zE_tree, ev_all fun n => read_large n (bs l) (by rw [bs_size]; omega)⟩
end Go.Proofs.YtdfgfjnpllncdaaGreatDoor.I

namespace Go.Proofs.YtdfgfjnpllncdaaGreatDoor.I
open Go.RowKit
set_option linter.unusedVariables false
set_option linter.unusedSimpArgs false
set_option linter.constructorNameAsVariable false
def begunS : List UInt8 := [40, 97, 32, 43, 32, 49, 41, 32, 42, 32, 45, 50]
def tA : ByteArray := bs [97]
def tPlus : ByteArray := bs [43]
def tOne : ByteArray := bs [49]
def tStar : ByteArray := bs [42]
def tTwo : ByteArray := bs [50]
def begunT : Toks := [tOpen, tA, tPlus, tOne, tClose, tStar, tMinus, tTwo]
theorem begun_lex : lexS begunS = some begunT := by
  unfold begunS
  rw [lexS_tok (by decide) (by decide)]
  show (lexS [97, 32, 43, 32, 49, 41, 32, 42, 32, 45, 50]).map _ = _
  rw [lexS_tok (by decide) (by decide)]
  show ((lexS [32, 43, 32, 49, 41, 32, 42, 32, 45, 50]).map _).map _ = _
  rw [lexS_space, lexS_tok (by decide) (by decide)]
  show (((lexS [32, 49, 41, 32, 42, 32, 45, 50]).map _).map _).map _ = _
  rw [lexS_space, lexS_tok (by decide) (by decide)]
  show ((((lexS [41, 32, 42, 32, 45, 50]).map _).map _).map _).map _ = _
  rw [lexS_tok (by decide) (by decide)]
  show (((((lexS [32, 42, 32, 45, 50]).map _).map _).map _).map _).map _ = _
  rw [lexS_space, lexS_tok (by decide) (by decide)]
  show ((((((lexS [32, 45, 50]).map _).map _).map _).map _).map _).map _ = _
  rw [lexS_space, lexS_tok (by decide) (by decide)]
  show (((((((lexS [50]).map _).map _).map _).map _).map _).map _).map _ = _
  rw [lexS_tok (by decide) (by decide)]
  show ((((((((lexS []).map _).map _).map _).map _).map _).map _).map _).map _ = _
  rw [lexS_nil]
  rfl
theorem vread_1 : vread tOne = (numV 1, 0) := by
  have h : preV tOne = preN tOne := preV_num (c := 49) (l := []) rfl (.inr ⟨by decide, by decide⟩)
  have ha : Lib.atoiAll [49] = .ok 1 := by kernel_rfl
  have hi : bs (Lib.itoa 1) = tOne := by kernel_rfl
  rw [vread_answ, h]
  have : preN tOne = some (numV 1) := by
    unfold preN
    show (match Lib.atoiAll [49] with | .ok n => if bs (Lib.itoa n) = tOne then some (numV n) else none | _ => none) = _
    rw [ha]
    exact if_pos hi
  rw [this]
  rfl
theorem vread_m2 : vread (tMinus ++ tTwo) = (numV (-2), 0) := by
  have hc : (tMinus ++ tTwo).data.toList = [45, 50] := by rw [app_list]; rfl
  have h : preV (tMinus ++ tTwo) = preN (tMinus ++ tTwo) := preV_num (c := 45) (l := [50]) hc (.inl rfl)
  have ha : Lib.atoiAll [45, 50] = .ok (-2) := by kernel_rfl
  have hi : bs (Lib.itoa (-2)) = bs [45, 50] := by kernel_rfl
  have he : tMinus ++ tTwo = bs [45, 50] := ba_eq (by rw [hc]; rfl)
  rw [vread_answ, h]
  have : preN (tMinus ++ tTwo) = some (numV (-2)) := by
    unfold preN
    rw [hc, ha, he]
    exact if_pos hi
  rw [this]
  rfl
def eKeyA : DExp := nodeN 1 tA
def eSum : DExp := nodeO 12 [eKeyA, nodeL (numV 1)]
def eBegun : DExp := nodeO 14 [eSum, nodeL (numV (-2))]
theorem leaf_a (l : Toks) : leafOf (tA :: l) = some (some (eKeyA, l)) := by
  have h0 : (vread tA).2 ≠ 0 := letter_num (c := 97) (t := []) rfl (by decide) (by decide) (by decide +kernel) (by decide +kernel) (by decide +kernel)
  have hf : fnOf tA = none := by decide +kernel
  have hk : kindB tA = 119 := by decide +kernel
  simp only [leafOf]
  rw [if_neg (by decide +kernel), if_neg (by decide +kernel), if_neg (by rw [hk]; decide), if_neg (by simp [hk]), if_neg h0, hf]
  exact if_pos ⟨hk, by decide +kernel, by decide +kernel⟩
theorem leaf_1 (l : Toks) : leafOf (tOne :: l) = some (some (nodeL (numV 1), l)) := by
  have hk : kindB tOne = 110 := by decide +kernel
  simp only [leafOf]
  rw [if_neg (by decide +kernel), if_neg (by decide +kernel), if_pos hk, vread_1]
  exact congrArg some (if_pos rfl)
theorem begun_ps : Ps (.at 1) begunT (some (eBegun, [])) := by
  have b1 : BinL 1 := .inl rfl
  have b2 : BinL 2 := .inr (.inl rfl)
  have b4 : BinL 4 := .inr (.inr (.inl rfl))
  have b5 : BinL 5 := .inr (.inr (.inr (.inl rfl)))
  have b6 : BinL 6 := .inr (.inr (.inr (.inr rfl)))
  have n1 : tA ≠ tMinus := by decide +kernel
  have n2 : tOne ≠ tMinus := by decide +kernel
  have n3 : tOpen ≠ tMinus := by decide +kernel
  have n4 : tA ≠ tNot := by decide +kernel
  have n5 : tOpen ≠ tNot := by decide +kernel
  have a7 : Ps (.at 7) [tA, tPlus, tOne, tClose, tStar, tMinus, tTwo] (some (eKeyA, [tPlus, tOne, tClose, tStar, tMinus, tTwo])) := .prim (by simpa using n1) (.leaf (leaf_a _))
  have a6 : Ps (.at 6) [tA, tPlus, tOne, tClose, tStar, tMinus, tTwo] (some (eKeyA, [tPlus, tOne, tClose, tStar, tMinus, tTwo])) := .bin b6 a7 (.stop (by decide +kernel))
  have c7 : Ps (.at 7) [tOne, tClose, tStar, tMinus, tTwo] (some (nodeL (numV 1), [tClose, tStar, tMinus, tTwo])) := .prim (by simpa using n2) (.leaf (leaf_1 _))
  have c6 : Ps (.at 6) [tOne, tClose, tStar, tMinus, tTwo] (some (nodeL (numV 1), [tClose, tStar, tMinus, tTwo])) := .bin b6 c7 (.stop (by decide +kernel))
  have a5 : Ps (.at 5) [tA, tPlus, tOne, tClose, tStar, tMinus, tTwo] (some (eSum, [tClose, tStar, tMinus, tTwo])) := .bin b5 a6 (.go (op := 12) b5 (by decide +kernel) (by decide) c6 (.stop (by decide +kernel)))
  have a4 : Ps (.at 4) [tA, tPlus, tOne, tClose, tStar, tMinus, tTwo] (some (eSum, [tClose, tStar, tMinus, tTwo])) := .bin b4 a5 (.stop (by decide +kernel))
  have a3 : Ps (.at 3) [tA, tPlus, tOne, tClose, tStar, tMinus, tTwo] (some (eSum, [tClose, tStar, tMinus, tTwo])) := .nonot (by simpa using n4) a4
  have a2 : Ps (.at 2) [tA, tPlus, tOne, tClose, tStar, tMinus, tTwo] (some (eSum, [tClose, tStar, tMinus, tTwo])) := .bin b2 a3 (.stop (by decide +kernel))
  have a1 : Ps (.at 1) [tA, tPlus, tOne, tClose, tStar, tMinus, tTwo] (some (eSum, [tClose, tStar, tMinus, tTwo])) := .bin b1 a2 (.stop (by decide +kernel))
  have d7 : Ps (.at 7) begunT (some (eSum, [tStar, tMinus, tTwo])) := .prim (by unfold begunT; simpa using n3) (.par a1)
  have m7 : Ps (.at 7) [tMinus, tTwo] (some (nodeL (numV (-2)), [])) := by
    have := Ps.negNum (d := tTwo) (l := []) (by decide +kernel) (by rw [vread_m2])
    rw [vread_m2] at this
    exact this
  have d6 : Ps (.at 6) begunT (some (eBegun, [])) := .bin b6 d7 (.go (op := 14) b6 (by decide +kernel) (by decide) m7 (.stop rfl))
  have d5 : Ps (.at 5) begunT (some (eBegun, [])) := .bin b5 d6 (.stop rfl)
  have d4 : Ps (.at 4) begunT (some (eBegun, [])) := .bin b4 d5 (.stop rfl)
  have d3 : Ps (.at 3) begunT (some (eBegun, [])) := .nonot (by unfold begunT; simpa using n5) d4
  have d2 : Ps (.at 2) begunT (some (eBegun, [])) := .bin b2 d3 (.stop rfl)
  exact .bin b1 d2 (.stop rfl)
set_option maxRecDepth 100000 in
theorem begun_exp : expE eBegun = 0 := by kernel_rfl
set_option maxRecDepth 100000 in
theorem begun_text (j : Nat) : r29 (j + 20) (eBegun, ()) = some (bs begunS, ()) := by kernel_rfl
theorem begun_small : small kExp eBegun := nodeO_small ⟨by omega, by omega⟩ (by simp) (fun k hk => by
  simp only [List.mem_cons, List.not_mem_nil, or_false] at hk
  rcases hk with rfl | rfl
  · exact nodeO_small ⟨by omega, by omega⟩ (by simp) (fun k hk => by
      simp only [List.mem_cons, List.not_mem_nil, or_false] at hk
      rcases hk with rfl | rfl
      · exact nodeN_small ⟨by omega, by omega⟩ (by decide)
      · exact nodeL_small rfl)
  · exact nodeL_small rfl)
theorem begun_ev : Ev fun n => r7 n () = some (true, ()) := by
  have hr := read_toks (l := begunS) (by decide) begun_lex begun_ps
  have rA : readA (some (eBegun, [])) = (eBegun, 0) := by
    show (if expE eBegun = 0 then (eBegun, (0 : Int)) else (zE, expE eBegun)) = _
    exact if_pos begun_exp
  rw [rA] at hr
  refine ev_mono (ev_and hr (⟨20, fun n hn => hn⟩ : Ev fun n => 20 ≤ n)) ?_
  rintro n ⟨⟨h1, _⟩, hn⟩
  obtain ⟨j, rfl⟩ : ∃ j, n = j + 20 := ⟨n - 20, by omega⟩
  have h1 : r20 (j + 20) (bs begunS, ()) = some (eBegun, ((0 : Int), ())) := h1
  have hsz : sz eBegun = 5 := by kernel_rfl
  have hc := check_eq (j + 20) eBegun (by omega) begun_small
  rw [begun_exp] at hc
  have ht : r9 (j + 20) (eBegun, ()) = some (bs begunS, ()) := by
    unfold r9
    simp only [nd_eta2]
    refine bindE hc ((c_false rfl).trans ?_)
    exact bindE (begun_text j) rfl
  unfold r7
  refine bindE h1 ((c_true rfl).trans ?_)
  refine bindE (x := (bs begunS, ())) (by rw [nd_eta2]; exact ht) ?_
  refine (c_true (decide_eq_true rfl)).trans ?_
  rw [fields_eq, Option.bind_some]
  show some (decide (((fieldsL.length : Nat) : Int) = 10), ()) = _
  rw [fields_len]
  rfl
end Go.Proofs.YtdfgfjnpllncdaaGreatDoor.I

namespace Go.Proofs.YtdfgfjnpllncdaaGreatDoor.I
open Go.RowKit
set_option linter.unusedVariables false
set_option linter.unusedSimpArgs false
set_option linter.constructorNameAsVariable false
theorem exprReads_ex (s : ByteArray) : ∃ n, r6 n (s, ()) = some (true, ()) := by
  obtain ⟨t, x, h1, h2, N, h3⟩ := reads_both (ofS s)
  obtain ⟨M, hM⟩ := begun_ev
  obtain ⟨n, hn⟩ : ∃ n, n = N + sz t + M := ⟨_, rfl⟩
  obtain ⟨r1, r2⟩ := h3 (n + 100) (by omega)
  have r1 : r20 (n + 100) (s, ()) = some (t, (x, ())) := r1
  have r2 : r21 (n + 100) (s, ()) = some (t, (x, ())) := r2
  have ht := tree_raw (n + 100) t (by omega) h1 h2
  refine ⟨n + 100, ?_⟩
  unfold r6
  refine bindE (hM (n + 100) (by omega)) ?_
  refine (c_false rfl).trans (bindE r1 (bindE r2 ?_))
  refine (c_true (decide_eq_true (show x = x from rfl))).trans ?_
  refine bindE (x := (bs (treeB t), ())) (by rw [nd_eta2]; exact ht) ?_
  refine bindE (x := (bs (treeB t), ())) (by rw [nd_eta2]; exact ht) ?_
  show some (decide (bs (treeB t) = bs (treeB t)), ()) = _
  rw [decide_eq_true rfl]
noncomputable def readFuel (s : ByteArray) : Nat := (exprReads_ex s).choose
theorem exprReads_raw (s : ByteArray) (h : small .str s) : r6 (readFuel s) (s, ()) = some (true, ()) := (exprReads_ex s).choose_spec
end Go.Proofs.YtdfgfjnpllncdaaGreatDoor.I

namespace Go.Proofs.YtdfgfjnpllncdaaGreatDoor.I
open Go.RowKit
theorem gTab_of_reads {P : Program} {w : World} {n : String} {k : IntKind} {zs : List Int} {t e : TypeId} {m : Nat} (h : Lib.VarReads P w n (Lib.tabData k zs)) (hty : ((P.globalNamed n).bind fun g => (P.globals[g]?).map (·.type)) = some t)
    (ht : P.underlying t = some (.array m e)) (he : P.underlying e = some (.int k)) (hce : P.cellsOf e = 1) (hct : P.cellsOf t = m) : Lib.TabIs P w n k zs := by
  obtain ⟨g', t', cs, fuel, p, hg', ht', hv, hd⟩ := h
  rw [hg', Option.bind_some] at hty
  obtain rfl := Option.some.inj (hty.symm.trans ht')
  unfold Lib.TabIs
  rw [hv, ← Lib.cells_of_tab ht he hce hct hd]
set_option maxRecDepth 100000 in
theorem gG_of_laid {w : World} {l : List (String × DataW Unit)} (h : laidMet Tryz.prog l w) (h3 : ("internal/strconv.uint64pow10", Rows.laid_internal_strconv_uint64pow10) ∈ l) : gG w :=
  gTab_of_reads (zs := Lib.pow10Tab) (Lib.laidMet.reads h h3) (by kernel_rfl) Tryz.underlying160 Tryz.underlying89 (by kernel_rfl) (by kernel_rfl)
end Go.Proofs.YtdfgfjnpllncdaaGreatDoor.I

namespace Go.Proofs.YtdfgfjnpllncdaaGreatDoor.I
open Go.RowKit
theorem fTab_of_reads {P : Program} {w : World} {n : String} {k : IntKind} {zs : List Int} {t e : TypeId} {m : Nat} (h : Lib.VarReads P w n (Lib.tabData k zs)) (hty : ((P.globalNamed n).bind fun g => (P.globals[g]?).map (·.type)) = some t)
    (ht : P.underlying t = some (.array m e)) (he : P.underlying e = some (.int k)) (hce : P.cellsOf e = 1) (hct : P.cellsOf t = m) : Lib.TabIs P w n k zs := by
  obtain ⟨g', t', cs, fuel, p, hg', ht', hv, hd⟩ := h
  rw [hg', Option.bind_some] at hty
  obtain rfl := Option.some.inj (hty.symm.trans ht')
  unfold Lib.TabIs
  rw [hv, ← Lib.cells_of_tab ht he hce hct hd]
set_option maxRecDepth 100000 in
theorem gF_of_laid {w : World} {l : List (String × DataW Unit)} (h : laidMet Tryz.prog l w) (h3 : ("strings.asciiSpace", Rows.laid_strings_asciiSpace) ∈ l) : gF w :=
  fTab_of_reads (zs := Lib.asciiSpaceTab) (Lib.laidMet.reads h h3) (by kernel_rfl) Tryz.underlying112 Tryz.underlying5 (by kernel_rfl) (by kernel_rfl)
end Go.Proofs.YtdfgfjnpllncdaaGreatDoor.I

namespace Go.Proofs.YtdfgfjnpllncdaaGreatDoor.I
open Go.RowKit Go.Joins
theorem errV_of_reads {w : World} {n s : String} {d : DataW Unit} {t : TypeId} {ms : Array (String × TypeId)} (h : Lib.VarReads Tryz.prog w n (.iface s d)) (ht : ((Tryz.prog.globalNamed n).bind fun g => (Tryz.prog.globals[g]?).map (·.type)) = some t) (hu : Tryz.prog.underlying t = some (.interface ms)) : errVar n w := by
  obtain ⟨g', t', cs, fuel, p, hg', ht', hv, hd⟩ := h
  rw [hg', Option.bind_some] at ht
  obtain rfl := Option.some.inj (ht.symm.trans ht')
  obtain ⟨l⟩ := cs
  obtain ⟨_, u, v, e, _, _⟩ := iface_of_trod hu hd
  simp only at e
  subst e
  exact ⟨u, v, hv⟩
set_option maxRecDepth 100000 in
theorem gA_of_laid {w : World} {l : List (String × DataW Unit)} (h : laidMet Tryz.prog l w) (h1 : ("strings.asciiSpace", Rows.laid_strings_asciiSpace) ∈ l) (h2 : ("internal/strconv.uint64pow10", Rows.laid_internal_strconv_uint64pow10) ∈ l) (h3 : ("strconv.ErrSyntax", Rows.laid_strconv_ErrSyntax) ∈ l) (h4 : ("strconv.ErrRange", Rows.laid_strconv_ErrRange) ∈ l) : gA w :=
  ⟨gF_of_laid h h1, gG_of_laid h h2, errV_of_reads (Lib.laidMet.reads h h3) (by kernel_rfl) Tryz.underlying85, errV_of_reads (Lib.laidMet.reads h h4) (by kernel_rfl) Tryz.underlying85⟩
end Go.Proofs.YtdfgfjnpllncdaaGreatDoor.I
