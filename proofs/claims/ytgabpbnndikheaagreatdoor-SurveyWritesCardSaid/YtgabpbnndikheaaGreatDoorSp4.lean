import Derived.Test.YtgabpbnndikheaaGreatDoorSp3
import Derived.Lib.ItoaLen
import Derived.OpenShut
import Derived.Test.YtgabpbnndikheaaGreatDoorRows
import Derived.Lib.LaidU8
/-! Surveys: the program's check and the reference's agree, plainly. -/
namespace Go.Proofs.YtgabpbnndikheaaGreatDoor.I
open Go.RowKit
set_option linter.unusedVariables false

abbrev DPt := Int × Int × Unit
abbrev DVal := Int × Int × ByteArray × Bool × Unit
abbrev DAtt := ByteArray × DVal × Unit
abbrev DFea := Int × Int × List (List DPt) × List DAtt × Int × Int × Unit

def found {O : Type} : Option O → Option (Unit ⊕ O)
  | some o => some (.inr o)
  | none => some (.inl ())
theorem foldL_find {α O : Type} {body : Nat → α → Unit → Option (Unit ⊕ O)} {out : Unit → O} (g : α → Option O) : ∀ (xs : List α) (i : Nat), (∀ (j : Nat) a, xs[j]? = some a → body (i + j) a () = found (g a)) →
    foldL body out i xs () = some ((xs.findSome? g).getD (out ()))
  | [], i, _ => rfl
  | a :: l, i, h => by
    have h0 := h 0 a rfl
    simp only [Nat.add_zero] at h0
    simp only [foldL, h0, List.findSome?_cons]
    cases hg : g a with
    | some o => rfl
    | none =>
      simp only [found]
      exact foldL_find g l (i + 1) (fun j b hb => by
        have := h (j + 1) b (by simpa using hb)
        rwa [show i + 1 + j = i + (j + 1) by omega])

def okB (b : UInt8) : Bool := !(decide ((b.toNat : Int) < 32)) && (!(decide (126 < (b.toNat : Int))) && !(decide ((b.toNat : Int) = 34)))
theorem find_all {α : Type} (p : α → Bool) {O : Type} (o : O) : ∀ (xs : List α), xs.findSome? (fun a => if p a then none else some o) = if xs.all p then none else some o
  | [] => rfl
  | a :: l => by
    rw [List.findSome?_cons, List.all_cons]
    cases h : p a with
    | true => simp [find_all p o l]
    | false => simp
theorem r38_eq (s : ByteArray) (hs : s.size ≤ 9223372036854775807) : r88 (s, ()) = some (s.data.toList.all okB, ()) := by
  unfold r88
  rw [loop_list (fun i _ => ((i, ()), ())) s.data.toList (fun i b _ => found (if okB b then none else some (Sum.inl ((false, ()), ())))) (fun _ => Sum.inr (Sum.inl ((), ()))) (fun i b _ h => ?_) (fun _ => ?_) ()]
  · rw [foldL_find (fun b => if okB b then none else some (Sum.inl ((false, ()), ()))) s.data.toList 0 (fun j a _ => rfl), find_all]
    cases s.data.toList.all okB <;> rfl
  · have hl := lt_of_get h
    have hlen : s.size = s.data.toList.length := bytes_len
    simp only [hlen, dec_lt hl, bytes_get, h, cond_true, Option.bind_some]
    rw [wrapS hl (by omega)]
    unfold okB
    cases decide ((b.toNat : Int) < 32) <;> cases decide (126 < (b.toNat : Int)) <;> cases decide ((b.toNat : Int) = 34) <;> rfl
  · simp only [← bytes_len, dec_nlt, cond_false]

def checkV (v : DVal) : Int :=
  if v.1 < 0 then 8 else if 3 < v.1 then 8 else if ¬ v.1 = 1 ∧ ¬ v.2.1 = 0 then 3 else if ¬ v.1 = 2 ∧ ¬ v.2.2.1 = ByteArray.mk (List.toArray []) then 3 else if ¬ v.1 = 3 ∧ v.2.2.2.1 = true then 3
  else if v.2.1 < -1000000000000 then 2 else if 1000000000000 < v.2.1 then 2 else if 40 < (v.2.2.1.size : Int) then 2 else if v.2.2.1.data.toList.all okB = true then 0 else 3
theorem r10_eq (v : DVal) (hs : v.2.2.1.size ≤ 9223372036854775807) : r72 (v, ()) = some (checkV v, ()) := by
  obtain ⟨k, n, s, b, ⟨⟩⟩ := v
  have h38 := r38_eq s hs
  unfold r72 checkV
  simp only [h38, Option.bind_some]
  generalize s.data.toList.all okB = a
  clear h38 hs
  generalize s.size = z
  by_cases h1 : k < 0
  · simp [h1]
  by_cases h2 : 3 < k
  · simp [h1, h2]
  have hk : k = 0 ∨ k = 1 ∨ k = 2 ∨ k = 3 := by omega
  by_cases h3 : n = 0 <;> by_cases h4 : s = ByteArray.mk (List.toArray []) <;> by_cases h5 : n < -1000000000000 <;> by_cases h6 : 1000000000000 < n <;> by_cases h7 : 40 < (z : Int) <;> rcases hk with rfl | rfl | rfl | rfl <;> cases b <;> cases a <;> simp [h3, h4, h5, h6, h7]
def okI (b : Int) : Bool := !(decide (b < 32)) && (!(decide (126 < b)) && !(decide (b = 34)))
theorem okI_all (s : ByteArray) : (bytesOf s).all okI = s.data.toList.all okB := by
  unfold bytesOf
  rw [List.all_map]
  rfl
theorem r29_eq (v : DVal) (hs : v.2.2.1.size ≤ 9223372036854775807) : r62 (v, ()) = some (checkV v, ()) := by
  obtain ⟨k, n, s, b, ⟨⟩⟩ := v
  unfold r62 checkV
  have hb : (bytesOf s).length = s.size := by unfold bytesOf; rw [List.length_map, ← bytes_len]
  rw [loop_list (fun i _ => ((i, ()), ())) (bytesOf s) (fun i b _ => found (if okI b then none else some (Sum.inl ((3, ()), ())))) (fun _ => Sum.inr (Sum.inl ((), ()))) (fun i b _ h => ?_) (fun _ => ?_) ()]
  · rw [foldL_find (fun b => if okI b then none else some (Sum.inl ((3, ()), ()))) (bytesOf s) 0 (fun j a _ => rfl), find_all, okI_all]
    generalize s.data.toList.all okB = a
    clear hb hs
    generalize s.size = z
    by_cases h1 : k < 0
    · simp [h1]
    by_cases h2 : 3 < k
    · simp [h1, h2]
    have hk : k = 0 ∨ k = 1 ∨ k = 2 ∨ k = 3 := by omega
    have hn : ((0 : Int) = n) = (n = 0) := propext eq_comm
    have hc : ((ByteArray.mk #[]) = s) = (s = ByteArray.mk #[]) := propext eq_comm
    by_cases h3 : n = 0 <;> by_cases h4 : s = ByteArray.mk (List.toArray []) <;> by_cases h5 : n < -1000000000000 <;> by_cases h6 : 1000000000000 < n <;> by_cases h7 : 40 < (z : Int) <;> rcases hk with rfl | rfl | rfl | rfl <;> cases b <;> cases a <;> simp [h3, h4, h5, h6, h7, inB, sumE, hc, hn]
  · have hl := lt_of_get h
    simp only [dec_lt hl, inB_lt hl, Int.toNat_natCast, h, cond_true, Option.bind_some]
    rw [wrapS hl (by rw [hb]; exact hs)]
    unfold okI
    cases decide (b < 32) <;> cases decide (126 < b) <;> cases decide (b = 34) <;> rfl
  · simp only [dec_nlt, cond_false]
end Go.Proofs.YtgabpbnndikheaaGreatDoor.I

/-! Attributes and parts: the program's check and the reference's agree, plainly. -/
namespace Go.Proofs.YtgabpbnndikheaaGreatDoor.I
open Go.RowKit
set_option linter.unusedVariables false

/-- Element by element, each with the key of the one before. -/
def scan {α K O : Type} (F : K → α → Option O) (key : α → K) (o : O) : K → List α → O
  | _, [] => o
  | p, a :: l => match F p a with
    | some e => e
    | none => scan F key o (key a) l
def stepK {K O : Type} (k : K) : Option O → Option (K ⊕ O)
  | some o => some (.inr o)
  | none => some (.inl k)
theorem foldL_state {α K O : Type} {body : Nat → α → K → Option (K ⊕ O)} (F : K → α → Option O) (key : α → K) (o : O) : ∀ (l : List α) (i : Nat) (p : K), (∀ i a p, a ∈ l → body i a p = stepK (key a) (F p a)) → foldL body (fun _ => o) i l p = some (scan F key o p l)
  | [], _, _, _ => rfl
  | a :: l, i, p, h => by
    simp only [foldL, h i a p (by simp), scan]
    cases F p a with
    | some e => rfl
    | none => simp only [stepK]; exact foldL_state F key o l (i + 1) (key a) (fun i b p hb => h i b p (by simp [hb]))
def prevOf {α K : Type} (key : α → K) (p0 : K) (xs : List α) : Nat → K
  | 0 => p0
  | i + 1 => match xs[i]? with
    | some a => key a
    | none => p0
theorem foldL_prev {α K O : Type} {body : Nat → α → Unit → Option (Unit ⊕ O)} (F : K → α → Option O) (key : α → K) (o : O) (p0 : K) (xs : List α) (h : ∀ i a, xs[i]? = some a → body i a () = found (F (prevOf key p0 xs i) a)) :
    ∀ (l : List α) (i : Nat), xs.drop i = l → foldL body (fun _ => o) i l () = some (scan F key o (prevOf key p0 xs i) l)
  | [], _, _ => rfl
  | a :: l, i, hl => by
    have ha : xs[i]? = some a := by
      have := congrArg (fun l => l[0]?) hl
      simpa using this
    simp only [foldL, h i a ha, scan]
    cases F (prevOf key p0 xs i) a with
    | some e => rfl
    | none =>
      simp only [found]
      rw [foldL_prev F key o p0 xs h l (i + 1) (by rw [← List.drop_drop, hl]; rfl)]
      simp only [prevOf, ha]
theorem scan_map {α K O R : Type} (G : O → R) (F : K → α → Option O) (key : α → K) (o : O) : ∀ (l : List α) (p : K), G (scan F key o p l) = scan (fun p a => (F p a).map G) key (G o) p l
  | [], _ => rfl
  | a :: l, p => by
    simp only [scan]
    cases F p a with
    | some e => rfl
    | none => exact scan_map G F key o l (key a)
theorem scan_congr {α K O : Type} {F F' : K → α → Option O} {key : α → K} {o : O} : ∀ {l : List α} {p : K}, (∀ p a, a ∈ l → F p a = F' p a) → scan F key o p l = scan F' key o p l
  | [], _, _ => rfl
  | a :: l, p, h => by
    simp only [scan]
    rw [h p a (by simp)]
    cases F' p a with
    | some e => rfl
    | none => exact scan_congr (fun p b hb => h p b (by simp [hb]))

/-! ### Attributes -/
theorem less_nilS {k : ByteArray} (h : nameOk k = true) : strLt (ByteArray.mk (List.toArray [])) k = true := by
  have hs : 1 ≤ k.size := by
    unfold nameOk at h
    simp at h
    omega
  unfold strLt
  rw [ByteArray.toList_eq, ByteArray.toList_eq]
  have hl : k.data.toList ≠ [] := by
    intro e
    have : k.data.toList.length = 0 := by rw [e]; rfl
    rw [Array.length_toList] at this
    have h2 : k.size = k.data.size := rfl
    omega
  cases hk : k.data.toList with
  | nil => exact absurd hk hl
  | cons x m => rfl
theorem leq_lawL : ∀ a b : List UInt8, (Op.bytesLess a b || a == b) = !Op.bytesLess b a
  | [], [] => rfl
  | [], _ :: _ => rfl
  | _ :: _, [] => rfl
  | x :: l, y :: m => by
    have ih := leq_lawL l m
    unfold Op.bytesLess
    rcases Nat.lt_trichotomy x.toNat y.toNat with h | h | h
    · have h1 : x < y := UInt8.lt_iff_toNat_lt.2 h
      have h2 : ¬ y < x := fun e => by have := UInt8.lt_iff_toNat_lt.1 e; omega
      have h3 : (y == x) = false := by
        rw [beq_eq_false_iff_ne]
        intro e
        rw [e] at h
        omega
      simp [h1, h2, h3]
    · have h1 : x = y := UInt8.toNat_inj.1 h
      subst h1
      have h2 : ¬ x < x := fun e => by have := UInt8.lt_iff_toNat_lt.1 e; omega
      simp only [h2, decide_false, Bool.false_or, beq_self_eq_true, Bool.true_and, List.cons_beq_cons]
      exact ih
    · have h1 : ¬ x < y := fun e => by have := UInt8.lt_iff_toNat_lt.1 e; omega
      have h2 : y < x := UInt8.lt_iff_toNat_lt.2 h
      have h3 : (x == y) = false := by
        rw [beq_eq_false_iff_ne]
        intro e
        rw [e] at h
        omega
      simp [h1, h2, h3]
theorem leq_lawS (a b : ByteArray) : (strLt a b || decide (a = b)) = !strLt b a := by
  unfold strLt
  rw [← ba_beq, leq_lawL]
def attF (nils : Bool) (last : ByteArray) (a : DAtt) : Option Int :=
  if nameOk a.1 = false then some 16 else if strLt last a.1 = false then some 9 else if checkV a.2.1 ≠ 0 then some (checkV a.2.1) else if nils = false ∧ a.2.1.1 = 0 then some 3 else none
def attrsE (nils : Bool) (l : List DAtt) : Int := if 8 < l.length then 2 else scan (attF nils) (fun a => a.1) 0 (ByteArray.mk (List.toArray [])) l
def attW (e : Int) : ((Int × Unit) × Unit) ⊕ (Unit × Unit) ⊕ Empty := Sum.inl ((e, ()), ())
theorem attr_bounds {l : List DAtt} (h : small (.slice (.pair .str (.pair (.pair (.int .i64) (.pair (.int .i64) (.pair .str (.pair .bool .unit)))) .unit))) l) : l.length ≤ 9223372036854775807 ∧ ∀ a ∈ l, a.1.size ≤ 9223372036854775807 ∧ a.2.1.2.2.1.size ≤ 9223372036854775807 := by
  have hm : maxLen = 9223372036854775807 := rfl
  simp only [small, hm] at h
  exact ⟨h.1, fun a ha => ⟨(h.2 a ha).1, (h.2 a ha).2.1.2.2.1⟩⟩
theorem zeroV {v : DVal} (h : checkV v = 0) (hk : v.1 = 0) : v.2.1 = 0 ∧ v.2.2.1 = ByteArray.mk (List.toArray []) ∧ v.2.2.2.1 = false := by
  unfold checkV at h
  rw [hk] at h
  obtain ⟨k, n, s, b, ⟨⟩⟩ := v
  simp only at hk h ⊢
  subst hk
  by_cases h1 : n = 0
  · by_cases h2 : s = ByteArray.mk (List.toArray [])
    · cases b with
      | false => exact ⟨h1, h2, rfl⟩
      | true => simp [h1, h2] at h
    · simp only [List.toArray] at h2
      simp [h1, h2] at h
  · simp [h1] at h
set_option maxHeartbeats 1000000 in
theorem r22_eq (l : List DAtt) (nils : Bool) (hs : small (.slice (.pair .str (.pair (.pair (.int .i64) (.pair (.int .i64) (.pair .str (.pair .bool .unit)))) .unit))) l) : r58 (l, (nils, ())) = some (attrsE nils l, ()) := by
  obtain ⟨hl, hb⟩ := attr_bounds hs
  unfold r58 attrsE
  by_cases h8 : 8 < l.length
  · rw [if_pos h8]
    have : decide ((8 : Int) < (l.length : Int)) = true := by simp; omega
    simp only [this, cond_true]
  · rw [if_neg h8]
    have : decide ((8 : Int) < (l.length : Int)) = false := by simp; omega
    simp only [this, cond_false]
    rw [loop_list (fun i _ => ((i, ()), ())) l (fun i a _ => found ((attF nils (prevOf (fun a => a.1) (ByteArray.mk (List.toArray [])) l i) a).map attW)) (fun _ => Sum.inr (Sum.inl ((), ()))) (fun i a _ h => ?_) (fun _ => ?_) ()]
    · rw [foldL_prev (fun p a => (attF nils p a).map attW) (fun a => a.1) (Sum.inr (Sum.inl ((), ()))) (ByteArray.mk (List.toArray [])) l (fun i a _ => rfl) l 0 rfl]
      simp only [Option.bind_some]
      have := scan_map (sumE (fun x0 => some (x0.1.1, ())) (sumE (fun x0 => some ((0 : Int), ())) emptyE) : ((Int × Unit) × Unit) ⊕ (Unit × Unit) ⊕ Empty → Option (Int × Unit)) (fun p a => (attF nils p a).map attW) (fun a : DAtt => a.1) (Sum.inr (Sum.inl ((), ()))) l (ByteArray.mk (List.toArray []))
      refine this.trans ?_
      have h2 := scan_map (fun e : Int => some (e, ())) (attF nils) (fun a : DAtt => a.1) 0 l (ByteArray.mk (List.toArray []))
      refine Eq.trans ?_ h2.symm
      refine scan_congr (fun p a _ => ?_)
      cases attF nils p a <;> rfl
    · have hlt := lt_of_get h
      obtain ⟨hb1, hb2⟩ := hb a (List.mem_of_getElem? h)
      simp only [dec_lt hlt, inB_lt hlt, Int.toNat_natCast, h, cond_true, Option.bind_some]
      rw [wrapS hlt hl]
      have hn : r36 (a.1, ()) = some (nameOk a.1, ()) := by
        unfold r36
        have : decide (a.1.size ≤ 9223372036854775807) = true := by simp; omega
        simp only [this, cond_true]
      have hv := r10_eq a.2.1 hb2
      have hv' : r72 ((a.2.1.1, (a.2.1.2.1, (a.2.1.2.2.1, (a.2.1.2.2.2.1, ())))), ()) = some (checkV a.2.1, ()) := hv
      simp only [hn, hv', Option.bind_some]
      cases hno : nameOk a.1 with
      | false => simp [attF, hno, found, stepTo, attW]
      | true =>
        simp only [Bool.not_true, cond_false]
        cases i with
        | zero =>
          have hd0 : decide ((0 : Int) < ((0 : Nat) : Int)) = false := by simp
          simp only [hd0, cond_false, prevOf]
          have hless := less_nilS hno
          by_cases hc : checkV a.2.1 = 0 <;> by_cases hk : a.2.1.1 = 0 <;> cases nils <;> simp [attF, hno, hless, hc, hk, found, stepTo, attW]
        | succ j =>
          have hd0 : decide ((0 : Int) < ((j + 1 : Nat) : Int)) = true := by simp
          obtain ⟨b, hbj⟩ : ∃ b, l[j]? = some b := ⟨_, List.getElem?_eq_getElem (by omega)⟩
          have hw : IntKind.wrap .i64 (((j + 1 : Nat) : Int) - 1) = (j : Int) := by rw [wrap64 (by omega) (by omega)]; omega
          simp only [hd0, cond_true, prevOf, hbj, hw, inB_lt (show j < l.length by omega), Int.toNat_natCast, Option.bind_some]
          cases hless : strLt b.1 a.1 with
          | false => simp [attF, hno, hless, found, stepTo, attW]
          | true =>
            by_cases hc : checkV a.2.1 = 0 <;> by_cases hk : a.2.1.1 = 0 <;> cases nils <;> simp [attF, hno, hless, hc, hk, found, stepTo, attW]
    · simp only [dec_nlt, cond_false]
set_option maxHeartbeats 1000000 in
theorem r23_eq (l : List DAtt) (nils : Bool) (hs : small (.slice (.pair .str (.pair (.pair (.int .i64) (.pair (.int .i64) (.pair .str (.pair .bool .unit)))) .unit))) l) : r46 (l, (nils, ())) = some (attrsE nils l, ()) := by
  obtain ⟨hl, hb⟩ := attr_bounds hs
  unfold r46 attrsE
  by_cases h8 : 8 < l.length
  · rw [if_pos h8]
    have : decide ((8 : Int) < (l.length : Int)) = true := by simp; omega
    simp only [this, cond_true]
  · rw [if_neg h8]
    have : decide ((8 : Int) < (l.length : Int)) = false := by simp; omega
    simp only [this, cond_false]
    rw [loop_list (fun i (p : ByteArray) => ((p, (i, ())), ())) l (fun i a p => stepK a.1 ((attF nils p a).map attW)) (fun _ => Sum.inr (Sum.inl ((), ()))) (fun i a p h => ?_) (fun _ => ?_) (ByteArray.mk (List.toArray []))]
    · rw [foldL_state (fun p a => (attF nils p a).map attW) (fun a => a.1) (Sum.inr (Sum.inl ((), ()))) l 0 _ (fun i a p _ => rfl)]
      simp only [Option.bind_some]
      have := scan_map (sumE (fun x0 => some (x0.1.1, ())) (sumE (fun x0 => some ((0 : Int), ())) emptyE) : ((Int × Unit) × Unit) ⊕ (Unit × Unit) ⊕ Empty → Option (Int × Unit)) (fun p a => (attF nils p a).map attW) (fun a : DAtt => a.1) (Sum.inr (Sum.inl ((), ()))) l (ByteArray.mk (List.toArray []))
      refine this.trans ?_
      have h2 := scan_map (fun e : Int => some (e, ())) (attF nils) (fun a : DAtt => a.1) 0 l (ByteArray.mk (List.toArray []))
      refine Eq.trans ?_ h2.symm
      refine scan_congr (fun p a _ => ?_)
      cases attF nils p a <;> rfl
    · have hlt := lt_of_get h
      obtain ⟨hb1, hb2⟩ := hb a (List.mem_of_getElem? h)
      simp only [dec_lt hlt, inB_lt hlt, Int.toNat_natCast, h, cond_true, Option.bind_some]
      rw [wrapS hlt hl]
      have hn : r61 (a.1, ()) = some (nameOk a.1, ()) := by
        unfold r61
        have : decide (a.1.size ≤ 9223372036854775807) = true := by simp; omega
        simp only [this, cond_true]
      have hv' : r62 ((a.2.1.1, (a.2.1.2.1, (a.2.1.2.2.1, (a.2.1.2.2.2.1, ())))), ()) = some (checkV a.2.1, ()) := r29_eq a.2.1 hb2
      simp only [hn, hv', Option.bind_some, leq_lawS]
      cases hno : nameOk a.1 with
      | false => simp [attF, hno, stepK, stepTo, attW]
      | true =>
        cases hless : strLt p a.1 with
        | false => simp [attF, hno, hless, stepK, stepTo, attW]
        | true =>
          by_cases hc : checkV a.2.1 = 0
          · by_cases hk : a.2.1.1 = 0
            · obtain ⟨z1, z2, z3⟩ := zeroV hc hk
              cases nils <;> simp [attF, hno, hless, hc, hk, stepK, stepTo, attW, z1, z2, z3]
            · cases nils <;> simp [attF, hno, hless, hc, hk, stepK, stepTo, attW]
          · cases nils <;> simp [attF, hno, hless, hc, stepK, stepTo, attW]
    · simp only [dec_nlt, cond_false]
end Go.Proofs.YtgabpbnndikheaaGreatDoor.I

/-! Parts, features, surveys: the program's check and the reference's agree, plainly. -/
namespace Go.Proofs.YtgabpbnndikheaaGreatDoor.I
open Go.RowKit
set_option linter.unusedVariables false
set_option linter.constructorNameAsVariable false

/-- A search by index. -/
theorem foldL_index {α O : Type} {body : Nat → α → Unit → Option (Unit ⊕ O)} {out : Unit → O} (p : α → Bool) (W : Int → O) : ∀ (xs : List α) (i : Nat), (∀ (j : Nat) a, xs[j]? = some a → body (i + j) a () = found (if p a then some (W ((i + j : Nat) : Int)) else none)) →
    ∃ r, foldL body out i xs () = some r ∧ ((xs.any p = true ∧ ∃ j : Nat, r = W (j : Int)) ∨ (xs.any p = false ∧ r = out ()))
  | [], i, _ => ⟨out (), rfl, .inr ⟨rfl, rfl⟩⟩
  | a :: l, i, h => by
    have h0 := h 0 a rfl
    simp only [Nat.add_zero] at h0
    simp only [foldL, h0, List.any_cons]
    cases hp : p a with
    | true => exact ⟨_, rfl, .inl ⟨rfl, i, rfl⟩⟩
    | false =>
      obtain ⟨r, h1, h2⟩ := foldL_index p W l (i + 1) (fun j b hb => by
        have := h (j + 1) b (by simpa using hb)
        rwa [show i + 1 + j = i + (j + 1) by omega])
      exact ⟨r, h1, by simpa using h2⟩
theorem loop_list1 {α S D O : Type} {step : D → Option (D ⊕ O)} (emb : Int → S → D) (xs : List α) (body : Nat → α → S → Option (S ⊕ O)) (out : S → O)
    (hin : ∀ (i : Nat) a s, xs[i + 1]? = some a → step (emb ((i : Int) + 1) s) = stepTo emb (i + 1) (body (i + 1) a s))
    (hend : ∀ s, step (emb (xs.length : Int) s) = some (.inr (out s))) (h1 : 1 ≤ xs.length) (s : S) : loop step (emb 1 s) = foldL body out 1 (xs.drop 1) s := by
  have key : ∀ (l : List α) (i : Nat) (s : S), i + 1 ≤ xs.length → xs.drop (i + 1) = l → loop step (emb ((i + 1 : Nat) : Int) s) = foldL body out (i + 1) l s := by
    intro l
    induction l with
    | nil =>
      intro i s hi hl
      have : i + 1 = xs.length := by
        have := congrArg List.length hl
        simp at this; omega
      rw [this, loop_eq, hend]
      rfl
    | cons a l ih =>
      intro i s hi hl
      have ha : xs[i + 1]? = some a := by
        have := congrArg (fun l => l[0]?) hl
        simpa using this
      have hlt : i + 1 < xs.length := (List.getElem?_eq_some_iff.1 ha).1
      have hd : xs.drop (i + 1 + 1) = l := by rw [← List.drop_drop, hl]; rfl
      have hs := hin i a s ha
      rw [loop_eq, show ((i + 1 : Nat) : Int) = (i : Int) + 1 by omega, hs]
      simp only [foldL]
      cases hb : body (i + 1) a s with
      | none => rfl
      | some r =>
        cases r with
        | inr o => rfl
        | inl s' =>
          simp only [stepTo]
          have := ih (i + 1) s' (by omega) hd
          rwa [show ((i + 1 + 1 : Nat) : Int) = ((i + 1 : Nat) : Int) + 1 by omega] at this
  exact key (xs.drop 1) 0 s h1 rfl

def far (q : DPt) : Bool := decide (q.1 < -1048576) || (decide (1048576 < q.1) || (decide (q.2.1 < -1048576) || decide (1048576 < q.2.1)))
def ptEq (a b : DPt) : Bool := decide (a.1 = b.1) && decide (a.2.1 = b.2.1)
def adj : List DPt → Bool
  | a :: b :: l => ptEq a b || adj (b :: l)
  | _ => false
def partE (kind : Int) (p : List DPt) : Int :=
  if p.any far = true then 1 else if kind = 1 then (if p.length = 1 then 0 else 3) else if kind = 2 then (if p.length < 2 then 3 else if adj p = true then 3 else 0) else 0
theorem clamp_iff (x : Int) : decide (x = maxI (-1048576) (minI x 1048576)) = !(decide (x < -1048576) || decide (1048576 < x)) := by
  rw [Bool.eq_iff_iff]
  simp only [decide_eq_true_eq, Bool.not_eq_true', Bool.or_eq_false_iff, decide_eq_false_iff_not]
  unfold maxI minI
  split <;> split <;> omega
theorem r86_eq (q : DPt) : r86 (q, ()) = some (far q, ()) := by
  obtain ⟨x, y, ⟨⟩⟩ := q
  unfold r86 r87 r63 r78
  simp only [Option.bind_some]
  have hw : IntKind.wrap .i64 (0 - 1048576) = -1048576 := by rw [wrap64 (by omega) (by omega)]; rfl
  rw [hw, clamp_iff, clamp_iff]
  unfold far
  congr 2
  simp only
  cases decide (x < -1048576) <;> cases decide (1048576 < x) <;> cases decide (y < -1048576) <;> cases decide (1048576 < y) <;> rfl
theorem r48_eq (p : List DPt) : r70 (p, ()) = some (decide ((200 : Int) < (p.length : Int)), ()) := rfl
theorem r85_eq (p : List DPt) (hl : p.length ≤ 9223372036854775807) : r85_86 (p, ((), ())) = some (p.any far, ()) := by
  unfold r85_86 r106_86
  rw [loop_list (fun i _ => ((i, ()), ())) p (fun i a _ => found (if far a then some (Sum.inl (((i : Int), ()), ())) else none)) (fun _ => Sum.inr (Sum.inl ((), ()))) (fun i a _ h => ?_) (fun _ => ?_) ()]
  · obtain ⟨r, h1, h2⟩ := foldL_index (body := fun (i : Nat) a (_ : Unit) => found (if far a then some (Sum.inl (((i : Int), ()), ())) else none)) (out := fun _ => (Sum.inr (Sum.inl ((), ())) : ((Int × Unit) × Unit) ⊕ (Unit × Unit) ⊕ Empty)) far (fun i => Sum.inl ((i, ()), ())) p 0 (fun j a _ => rfl)
    rw [h1]
    rcases h2 with ⟨h2, j, rfl⟩ | ⟨h2, rfl⟩
    · rw [h2]; simp [sumE]
    · rw [h2]; rfl
  · have hlt := lt_of_get h
    have h86 : r86 ((a.1, (a.2.1, ())), ()) = some (far a, ()) := r86_eq a
    simp only [dec_lt hlt, inB_lt hlt, Int.toNat_natCast, h, cond_true, Option.bind_some, h86]
    rw [wrapS hlt hl]
    cases far a <;> rfl
  · simp only [dec_nlt, cond_false]
theorem adj_any : ∀ (p : List DPt), adj p = (List.range (p.length - 1)).any fun i => match p[i]?, p[i + 1]? with
    | some a, some b => ptEq a b
    | _, _ => false
  | [] => rfl
  | [_] => rfl
  | a :: b :: l => by
    have ih := adj_any (b :: l)
    simp only [adj, ih]
    simp only [List.length_cons, Nat.add_sub_cancel]
    rw [List.range_succ_eq_map, List.any_cons, List.any_map]
    rfl
theorem adj_scan : ∀ (l : List DPt) (a : DPt), adj (a :: l) = true ↔ scan (fun p b => if ptEq p b then some true else none) id false a l = true
  | [], _ => by simp [adj, scan]
  | b :: l, a => by
    simp only [adj, scan]
    cases h : ptEq a b with
    | true => simp
    | false => simpa using adj_scan l b
end Go.Proofs.YtgabpbnndikheaaGreatDoor.I

/-! Parts: the program's check and the reference's agree, plainly. -/
namespace Go.Proofs.YtgabpbnndikheaaGreatDoor.I
open Go.RowKit
set_option linter.unusedVariables false
set_option linter.constructorNameAsVariable false

theorem ptEq_comm (a b : DPt) : ptEq a b = ptEq b a := by
  unfold ptEq
  have h1 : decide (a.1 = b.1) = decide (b.1 = a.1) := decide_eq_decide.2 eq_comm
  have h2 : decide (a.2.1 = b.2.1) = decide (b.2.1 = a.2.1) := decide_eq_decide.2 eq_comm
  rw [h1, h2]
abbrev O3 := ((Int × Unit) × Unit) ⊕ (Unit × Unit) ⊕ Empty
def w3 (e : Int) : O3 := Sum.inl ((e, ()), ())
def w0 : O3 := Sum.inr (Sum.inl ((), ()))
theorem scan_adj (p : List DPt) (a : DPt) : scan (fun p b => if ptEq p b then some (w3 3) else none) id w0 a p = if adj (a :: p) then w3 3 else w0 := by
  induction p generalizing a with
  | nil => simp [adj, scan]
  | cons b l ih =>
    simp only [adj, scan]
    by_cases h : ptEq a b = true
    · simp [h]
    · simpa [h] using ih b
theorem foldL_ahead {body : Nat → DPt → Unit → Option (Unit ⊕ O3)} (xs : List DPt) (h : ∀ i a, xs[i]? = some a → body i a () = found (match xs[i + 1]? with | some b => if ptEq a b then some (w3 3) else none | none => none)) :
    ∀ (l : List DPt) (i : Nat), xs.drop i = l → foldL body (fun _ => w0) i l () = some (if adj l then w3 3 else w0)
  | [], _, _ => rfl
  | a :: l, i, hl => by
    have ha : xs[i]? = some a := by
      have := congrArg (fun l => l[0]?) hl
      simpa using this
    have hd : xs.drop (i + 1) = l := by rw [← List.drop_drop, hl]; rfl
    have hn : xs[i + 1]? = l[0]? := by rw [← hd]; simp
    simp only [foldL, h i a ha, hn]
    cases l with
    | nil =>
      simp only [List.getElem?_nil, found]
      rfl
    | cons b l =>
      simp only [List.getElem?_cons_zero, adj]
      by_cases hp : ptEq a b = true
      · simp [hp, found]
      · have ih := foldL_ahead xs h (b :: l) (i + 1) hd
        simpa [hp, found] using ih
theorem foldL_nothing {α O : Type} {body : Nat → α → Unit → Option (Unit ⊕ O)} {out : Unit → O} : ∀ (l : List α) (i : Nat), (∀ i a, a ∈ l → body i a () = some (.inl ())) → foldL body out i l () = some (out ())
  | [], _, _ => rfl
  | a :: l, i, h => by
    simp only [foldL, h i a (by simp)]
    exact foldL_nothing l (i + 1) (fun i b hb => h i b (by simp [hb]))
set_option maxHeartbeats 1000000 in
theorem r49_eq (kind : Int) (p : List DPt) (hl : p.length ≤ 9223372036854775807) : r71 (kind, (p, ())) = some (partE kind p, ()) := by
  unfold r71 partE
  simp only [r85_eq p hl, Option.bind_some]
  cases hf : p.any far with
  | true => simp
  | false =>
    simp only [cond_false, Bool.false_eq_true, if_false]
    by_cases h1 : kind = 1
    · subst h1
      by_cases h2 : p.length = 1
      · simp [h2]
      · have : ¬ ((p.length : Int) = 1) := by omega
        simp [h2, this]
    · by_cases h2 : kind = 2
      · subst h2
        by_cases h3 : p.length < 2
        · have : ((p.length : Int) < 2) := by omega
          simp [h3, this]
        · have h3' : ¬ ((p.length : Int) < 2) := by omega
          simp only [h1, h3, h3', decide_false, decide_true, cond_true, cond_false, if_false, if_true]
          rw [loop_list1 (fun i _ => ((i, ()), ())) p (fun i a _ => found (if ptEq (prevOf id a p i) a then some (w3 3) else none)) (fun _ => w0) (fun i a _ h => ?_) (fun _ => ?_) (by omega) ()]
          · obtain ⟨a, l, rfl⟩ : ∃ a l, p = a :: l := by
              cases p with
              | nil => simp at h3
              | cons a l => exact ⟨a, l, rfl⟩
            have := foldL_prev (body := fun i (b : DPt) _ => found (if ptEq (prevOf id b (a :: l) i) b then some (w3 3) else none)) (fun p b => if ptEq p b then some (w3 3) else none) id w0 a (a :: l) (fun i b hb => by
              cases i with
              | zero => simp at hb; subst hb; rfl
              | succ i =>
                have hlt := lt_of_get hb
                have : ∃ c, (a :: l)[i]? = some c := ⟨_, List.getElem?_eq_getElem (by omega)⟩
                obtain ⟨c, hc⟩ := this
                simp only [prevOf, hc]) l 1 rfl
            rw [show (a :: l).drop 1 = l from rfl, this]
            simp only [prevOf, List.getElem?_cons_zero, id, scan_adj, Option.bind_some]
            cases adj (a :: l) <;> rfl
          · have hlt := lt_of_get h
            obtain ⟨b, hb⟩ : ∃ b, p[i]? = some b := ⟨_, List.getElem?_eq_getElem (by omega)⟩
            have e1 : ((i : Int) + 1) = ((i + 1 : Nat) : Int) := by omega
            have hw : IntKind.wrap .i64 (((i + 1 : Nat) : Int) - 1) = (i : Int) := by rw [wrap64 (by omega) (by omega)]; omega
            simp only [e1, dec_lt hlt, inB_lt hlt, Int.toNat_natCast, h, cond_true, Option.bind_some, hw, inB_lt (show i < p.length by omega), hb, prevOf, id]
            rw [wrapS hlt hl, ← show ptEq a b = (decide (a.1 = b.1) && decide (a.2.1 = b.2.1)) from rfl, ptEq_comm a b]
            cases ptEq b a <;> rfl
          · simp only [dec_nlt, cond_false]
            rfl
      · simp [h1, h2]

/-- Both checks of parts, as far as the areas. -/
def partsE (area : Option (Int × Unit)) (kind : Int) (l : List (List DPt)) : Option (Int × Unit) :=
  if kind < 1 then some (8, ()) else if 3 < kind then some (8, ()) else if 20 < l.length then some (2, ()) else if l.any (fun p => decide ((200 : Int) < (p.length : Int))) = true then some (2, ()) else if l.length = 0 then some (4, ())
  else match l.findSome? (fun p => if partE kind p = 0 then none else some (partE kind p)) with
    | some e => some (e, ())
    | none => if kind = 3 then area else some (0, ())
theorem parts_bounds {l : List (List DPt)} (h : small (.slice (.slice (.pair (.int .i64) (.pair (.int .i64) .unit)))) l) : l.length ≤ 9223372036854775807 ∧ ∀ p ∈ l, p.length ≤ 9223372036854775807 := by
  have hm : maxLen = 9223372036854775807 := rfl
  simp only [small, hm] at h
  exact ⟨h.1, fun p hp => (h.2 p hp).1⟩
theorem find_w3 (F : List DPt → Int) (l : List (List DPt)) : (l.findSome? (fun p => if F p = 0 then none else some (w3 (F p)))).getD w0 = match l.findSome? (fun p => if F p = 0 then none else some (F p)) with
    | some e => w3 e
    | none => w0 := by
  induction l with
  | nil => rfl
  | cons p l ih =>
    simp only [List.findSome?_cons]
    by_cases h : F p = 0
    · simpa [h] using ih
    · simp [h]
theorem r47_eq (l : List (List DPt)) (hl : l.length ≤ 9223372036854775807) : r69_70 (l, ((), ())) = some (l.any (fun p => decide ((200 : Int) < (p.length : Int))), ()) := by
  unfold r69_70 r84_70
  rw [loop_list (fun i _ => ((i, ()), ())) l (fun i p _ => found (if (fun p : List DPt => decide ((200 : Int) < (p.length : Int))) p then some (w3 (i : Int)) else none)) (fun _ => w0) (fun i a _ h => ?_) (fun _ => ?_) ()]
  · obtain ⟨r, h1, h2⟩ := foldL_index (body := fun (i : Nat) p (_ : Unit) => found (if (fun p : List DPt => decide ((200 : Int) < (p.length : Int))) p then some (w3 (i : Int)) else none)) (out := fun _ => w0) (fun p : List DPt => decide ((200 : Int) < (p.length : Int))) w3 l 0 (fun j a _ => by rw [Nat.zero_add])
    rw [h1]
    rcases h2 with ⟨h2, j, rfl⟩ | ⟨h2, rfl⟩
    · rw [h2]; simp [sumE, w3]
    · rw [h2]; rfl
  · have hlt := lt_of_get h
    simp only [dec_lt hlt, inB_lt hlt, Int.toNat_natCast, h, cond_true, Option.bind_some]
    rw [wrapS hlt hl, r48_eq a]
    by_cases hd : (200 : Int) < (a.length : Int)
    · simp [hd, found, stepTo, w3]
    · simp [hd, found, stepTo]
  · simp only [dec_nlt, cond_false]
    rfl
set_option maxHeartbeats 1000000 in
theorem r20_eq (kind : Int) (l : List (List DPt)) (hs : small (.slice (.slice (.pair (.int .i64) (.pair (.int .i64) .unit)))) l) : r57 (kind, (l, ())) = partsE (Option.bind (r60 (l, ())) fun x => some (x.1, ())) kind l := by
  obtain ⟨hl, hb⟩ := parts_bounds hs
  unfold r57 partsE
  simp only [r47_eq l hl, Option.bind_some]
  by_cases h1 : kind < 1
  · simp [h1]
  by_cases h2 : 3 < kind
  · simp [h1, h2]
  by_cases h3 : 20 < l.length
  · have : (20 : Int) < (l.length : Int) := by omega
    simp [h1, h2, h3, this]
  have h3' : ¬ (20 : Int) < (l.length : Int) := by omega
  generalize l.any (fun p => decide ((200 : Int) < (p.length : Int))) = long
  by_cases h4 : l.length = 0
  · cases long <;> simp [h1, h2, h4]
  have h4' : ¬ (l.length : Int) = 0 := by omega
  simp only [h1, h2, h3, h3', h4, h4', decide_false, cond_false, if_false]
  cases long with
  | true => rfl
  | false =>
    simp only [cond_false, Bool.false_eq_true, if_false]
    rw [loop_list (fun i _ => ((i, ()), ())) l (fun i p _ => found (if partE kind p = 0 then none else some (w3 (partE kind p)))) (fun _ => w0) (fun i a _ h => ?_) (fun _ => ?_) ()]
    · rw [foldL_find (fun p => if partE kind p = 0 then none else some (w3 (partE kind p))) l 0 (fun j a _ => rfl), find_w3 (partE kind) l]
      simp only [Option.bind_some]
      cases l.findSome? (fun p => if partE kind p = 0 then none else some (partE kind p)) with
      | some e => rfl
      | none =>
        by_cases h5 : kind = 3
        · simp [h5, w0, sumE]
        · simp [h5, w0, sumE]
    · have hlt := lt_of_get h
      simp only [dec_lt hlt, inB_lt hlt, Int.toNat_natCast, h, cond_true, Option.bind_some, r49_eq kind a (hb a (List.mem_of_getElem? h))]
      rw [wrapS hlt hl]
      by_cases hp : partE kind a = 0
      · simp [hp, found, stepTo]
      · simp [hp, found, stepTo, w3]
    · simp only [dec_nlt, cond_false]
      rfl
set_option maxHeartbeats 4000000 in
theorem r21_eq (kind : Int) (l : List (List DPt)) (hs : small (.slice (.slice (.pair (.int .i64) (.pair (.int .i64) .unit)))) l) : r45 (kind, (l, ())) = partsE (Option.bind (r60 (l, ())) fun x => some (x.1, ())) kind l := by
  obtain ⟨hl, hb⟩ := parts_bounds hs
  unfold r45 partsE
  by_cases h1 : kind < 1
  · simp [h1]
  by_cases h2 : 3 < kind
  · simp [h1, h2]
  simp only [h1, h2, decide_false, cond_false, if_false]
  rw [loop_list (fun i (b : Bool) => ((b, (i, ())), ())) l (fun i p b => some (Sum.inl (b || decide ((200 : Int) < (p.length : Int))))) (fun b => Sum.inl ((b, ()), ())) (fun i a b h => ?_) (fun _ => ?_) (decide ((20 : Int) < (l.length : Int)))]
  · have key : ∀ (m : List (List DPt)) (i : Nat) (b : Bool), foldL (fun (i : Nat) (p : List DPt) (b : Bool) => (some (Sum.inl (b || decide ((200 : Int) < (p.length : Int)))) : Option (Bool ⊕ (((Bool × Unit) × Unit) ⊕ Empty)))) (fun b => Sum.inl ((b, ()), ())) i m b = some (Sum.inl ((b || m.any (fun p => decide ((200 : Int) < (p.length : Int))), ()), ())) := by
      intro m
      induction m with
      | nil => intro i b; simp [foldL]
      | cons p m ih => intro i b; simp only [foldL, ih, List.any_cons, Bool.or_assoc]
    rw [key]
    simp only [Option.bind_some, sumE]
    by_cases h3 : 20 < l.length
    · have : (20 : Int) < (l.length : Int) := by omega
      simp [h3, this]
    have h3' : ¬ (20 : Int) < (l.length : Int) := by omega
    simp only [h3, h3', decide_false, Bool.false_or, if_false]
    generalize l.any (fun p => decide ((200 : Int) < (p.length : Int))) = long
    cases long with
    | true => rfl
    | false =>
      simp only [cond_false, Bool.false_eq_true, if_false]
      by_cases h4 : l.length = 0
      · simp [h4]
      have h4' : ¬ (l.length : Int) = 0 := by omega
      simp only [h4, h4', decide_false, cond_false, if_false]
      rw [loop_list (fun i _ => ((i, ()), ())) l (fun i p _ => found (if partE kind p = 0 then none else some (w3 (partE kind p)))) (fun _ => w0) (fun i a _ h => ?_) (fun _ => ?_) ()]
      · rw [foldL_find (fun p => if partE kind p = 0 then none else some (w3 (partE kind p))) l 0 (fun j a _ => rfl), find_w3 (partE kind) l]
        simp only [Option.bind_some]
        cases l.findSome? (fun p => if partE kind p = 0 then none else some (partE kind p)) with
        | some e => rfl
        | none =>
          by_cases h5 : kind = 3
          · simp [h5, w0, sumE]
          · simp [h5, w0, sumE]
      · have hlt := lt_of_get h
        have hal := hb a (List.mem_of_getElem? h)
        simp only [dec_lt hlt, inB_lt hlt, Int.toNat_natCast, h, cond_true, Option.bind_some]
        rw [wrapS hlt hl]
        rw [loop_list (fun i _ => ((i, ()), ())) a (fun i q _ => found (if far q then some (w3 1) else none)) (fun _ => w0) (fun i q _ hq => ?_) (fun _ => ?_) ()]
        · rw [foldL_find (fun q => if far q then some (w3 1) else none) a 0 (fun j q _ => rfl)]
          have hfar : ∀ (m : List DPt), (m.findSome? (fun q => if far q then some (w3 1) else none)).getD w0 = cond (m.any far) (w3 1) w0 := by
            intro m
            induction m with
            | nil => rfl
            | cons q m ih =>
              simp only [List.findSome?_cons, List.any_cons]
              by_cases hq : far q = true
              · simp [hq]
              · have hq' : far q = false := by simpa using hq
                simp [hq', ih]
          rw [hfar]
          rw [loop_list (fun i _ => ((i, ()), ())) a (fun i q _ => found (if kind = 2 then (match a[i + 1]? with | some b => if ptEq q b then some (w3 3) else none | none => none) else none)) (fun _ => w0) (fun i q _ hq => ?_) (fun _ => ?_) ()]
          · have hadj : foldL (fun (i : Nat) (q : DPt) (_ : Unit) => found (if kind = 2 then (match a[i + 1]? with | some b => if ptEq q b then some (w3 3) else none | none => none) else none)) (fun _ => w0) 0 a () = some (if kind = 2 ∧ adj a = true then w3 3 else w0) := by
              by_cases hk : kind = 2
              · simp only [hk, if_true, true_and]
                exact foldL_ahead a (fun i q _ => rfl) a 0 rfl
              · simp only [hk, if_false, false_and]
                exact foldL_nothing a 0 (fun i q _ => rfl)
            rw [hadj]
            unfold partE
            simp only [Option.bind_some]
            by_cases hf : a.any far = true
            · simp [hf, found, stepTo, w3, sumE]
            · have hf' : a.any far = false := by simpa using hf
              by_cases k1 : kind = 1
              · subst k1
                by_cases hl1 : a.length = 1
                · simp [hf', hl1, w0, sumE, found, stepTo]
                · have hl1' : ¬ (a.length : Int) = 1 := by omega
                  simp [hf', hl1, hl1', w0, w3, sumE, found, stepTo]
              · by_cases k2 : kind = 2
                · subst k2
                  by_cases hl1 : a.length < 2
                  · have hl1' : (a.length : Int) < 2 := by omega
                    simp [hf', hl1, hl1', w0, w3, sumE, found, stepTo]
                  · have hl1' : ¬ (a.length : Int) < 2 := by omega
                    by_cases ha : adj a = true
                    · simp [hf', hl1, hl1', ha, w0, w3, sumE, found, stepTo]
                    · simp [hf', hl1, hl1', ha, w0, w3, sumE, found, stepTo]
                · simp [hf', k1, k2, w0, sumE, found, stepTo]
          · have hqt := lt_of_get hq
            simp only [dec_lt hqt, inB_lt hqt, Int.toNat_natCast, hq, cond_true, Option.bind_some]
            rw [wrapS hqt hal]
            by_cases hk : kind = 2
            · subst hk
              by_cases hn : i + 1 < a.length
              · obtain ⟨b, hb1⟩ : ∃ b, a[i + 1]? = some b := ⟨_, List.getElem?_eq_getElem hn⟩
                have e1 : ((i : Int) + 1) = ((i + 1 : Nat) : Int) := by omega
                simp only [e1, dec_lt hn, inB_lt hn, Int.toNat_natCast, hb1, cond_true, Option.bind_some, decide_true]
                rw [← show ptEq q b = (decide (q.1 = b.1) && decide (q.2.1 = b.2.1)) from rfl]
                by_cases hp : ptEq q b = true
                · simp [hp, found, stepTo, w3]
                · have hp' : ptEq q b = false := by simpa using hp
                  simp [hp', found, stepTo]
              · have hb1 : a[i + 1]? = none := List.getElem?_eq_none_iff.2 (by omega)
                have e2 : decide (((i : Int) + 1) < (a.length : Int)) = false := by simp; omega
                simp [e2, hb1, found, stepTo]
            · simp [hk, found, stepTo]
          · simp only [dec_nlt, cond_false]
            rfl
        · have hqt := lt_of_get hq
          simp only [dec_lt hqt, inB_lt hqt, Int.toNat_natCast, hq, cond_true, Option.bind_some]
          rw [wrapS hqt hal]
          unfold far
          cases decide (q.1 < -1048576) <;> cases decide (1048576 < q.1) <;> cases decide (q.2.1 < -1048576) <;> cases decide (1048576 < q.2.1) <;> rfl
        · simp only [dec_nlt, cond_false]
          rfl
      · simp only [dec_nlt, cond_false]
        rfl
  · have hlt := lt_of_get h
    simp only [dec_lt hlt, inB_lt hlt, Int.toNat_natCast, h, cond_true, Option.bind_some]
    rw [wrapS hlt hl]
    cases b <;> rfl
  · simp only [dec_nlt, cond_false]
end Go.Proofs.YtgabpbnndikheaaGreatDoor.I

/-! The check of areas always answers, plainly. -/
namespace Go.Proofs.YtgabpbnndikheaaGreatDoor.I
open Go.RowKit
set_option linter.unusedVariables false
set_option linter.constructorNameAsVariable false
def Tot {α : Type} (o : Option α) : Prop := ∃ y, o = some y
theorem tot_some {α : Type} (y : α) : Tot (some y) := ⟨y, rfl⟩
theorem tot_bind {α β : Type} {o : Option α} {f : α → Option β} (h : Tot o) (k : ∀ y, Tot (f y)) : Tot (o.bind f) := by
  obtain ⟨y, rfl⟩ := h
  exact k y
theorem tot_cond {α : Type} {b : Bool} {x y : Option α} (h : Tot x) (k : Tot y) : Tot (cond b x y) := by
  cases b
  · exact k
  · exact h
/-- A loop that counts. -/
theorem tot_count {S D O : Type} {step : D → Option (D ⊕ O)} (emb : Int → S → D) (Inv : Nat → S → Prop) (n : Nat)
    (hin : ∀ (i : Nat) s, i < n → Inv i s → ∃ r, step (emb i s) = some r ∧ ((∃ s', r = .inl (emb ((i : Int) + 1) s') ∧ Inv (i + 1) s') ∨ ∃ o, r = .inr o))
    (hend : ∀ s, ∃ o, step (emb (n : Int) s) = some (.inr o)) (s : S) (h0 : Inv 0 s) : Tot (loop step (emb 0 s)) := by
  have key : ∀ (m i : Nat) (s : S), n - i = m → i ≤ n → Inv i s → Tot (loop step (emb (i : Int) s)) := by
    intro m
    induction m with
    | zero =>
      intro i s hm hi hI
      have : i = n := by omega
      subst this
      obtain ⟨o, ho⟩ := hend s
      exact ⟨o, by rw [loop_eq, ho]⟩
    | succ m ih =>
      intro i s hm hi hI
      obtain ⟨r, hr, h⟩ := hin i s (by omega) hI
      rw [loop_eq, hr]
      rcases h with ⟨s', rfl, hI'⟩ | ⟨o, rfl⟩
      · exact ih (i + 1) s' (by omega) (by omega) hI'
      · exact ⟨o, rfl⟩
  exact key n 0 s (by omega) (Nat.zero_le _) h0
theorem tot_sumE {α β γ : Type} {f : α → Option γ} {g : β → Option γ} (h : ∀ a, Tot (f a)) (k : ∀ b, Tot (g b)) (o : α ⊕ β) : Tot (sumE f g o) := by
  cases o
  · exact h _
  · exact k _
theorem tot_emptyE {γ : Type} (o : Empty) : Tot (emptyE (γ := Option γ) o) := nomatch o
/-- What a round may come to. -/
def Good {S D O : Type} (emb : Int → S → D) (Inv : Nat → S → Prop) (i : Nat) (x : Option (D ⊕ O)) : Prop := (∃ s', x = some (.inl (emb ((i : Int) + 1) s')) ∧ Inv (i + 1) s') ∨ ∃ o, x = some (.inr o)
section
variable {S D O : Type} {emb : Int → S → D} {Inv : Nat → S → Prop} {i : Nat}
theorem good_cond {b : Bool} {x y : Option (D ⊕ O)} (h : Good emb Inv i x) (k : Good emb Inv i y) : Good emb Inv i (cond b x y) := by
  cases b
  · exact k
  · exact h
theorem good_bind {α : Type} {o : Option α} {f : α → Option (D ⊕ O)} (h : Tot o) (k : ∀ y, Good emb Inv i (f y)) : Good emb Inv i (o.bind f) := by
  obtain ⟨y, rfl⟩ := h
  exact k y
theorem good_out (o : O) : Good emb Inv i (some (.inr o) : Option (D ⊕ O)) := .inr ⟨o, rfl⟩
theorem good_next (s' : S) (h : Inv (i + 1) s') : Good emb Inv i (some (.inl (emb ((i : Int) + 1) s')) : Option (D ⊕ O)) := .inl ⟨s', rfl, h⟩
theorem good_sumE {α β : Type} {f : α → Option (D ⊕ O)} {g : β → Option (D ⊕ O)} (h : ∀ a, Good emb Inv i (f a)) (k : ∀ b, Good emb Inv i (g b)) (o : α ⊕ β) : Good emb Inv i (sumE f g o) := by
  cases o
  · exact h _
  · exact k _
theorem good_emptyE (o : Empty) : Good emb Inv i (emptyE (γ := Option (D ⊕ O)) o) := nomatch o
theorem tot_loop {step : D → Option (D ⊕ O)} (emb : Int → S → D) (Inv : Nat → S → Prop) (n : Nat) (hin : ∀ (i : Nat) s, i < n → Inv i s → Good emb Inv i (step (emb i s))) (hend : ∀ s, ∃ o, step (emb (n : Int) s) = some (.inr o)) (s : S) (h0 : Inv 0 s) : Tot (loop step (emb 0 s)) :=
  tot_count emb Inv n (fun i s hi hI => by
    rcases hin i s hi hI with ⟨s', h1, h2⟩ | ⟨o, h1⟩
    · exact ⟨_, h1, .inl ⟨s', rfl, h2⟩⟩
    · exact ⟨_, h1, .inr ⟨o, rfl⟩⟩) hend s h0
end
theorem at_next {α : Type} {xs : List α} {i : Nat} (hi : i < xs.length) (hl : xs.length ≤ 9223372036854775807) :
    inB (Int.tmod (IntKind.wrap .i64 ((i : Int) + 1)) (xs.length : Int)) xs.length = true ∧ ∃ a, xs[Int.toNat (Int.tmod (IntKind.wrap .i64 ((i : Int) + 1)) (xs.length : Int))]? = some a := by
  rw [wrapS hi hl, show (i : Int) + 1 = ((i + 1 : Nat) : Int) by omega, ← Int.ofNat_tmod]
  have hlt : (i + 1) % xs.length < xs.length := Nat.mod_lt _ (by omega)
  exact ⟨inB_lt hlt, by rw [Int.toNat_natCast]; exact ⟨_, List.getElem?_eq_getElem hlt⟩⟩
theorem t110 (x) : Tot (r63 x) := tot_bind (tot_some _) fun _ => tot_bind (tot_some _) fun _ => tot_some _
theorem t153 (x) : Tot (r132 x) := tot_bind (t110 _) fun _ => tot_bind (t110 _) fun _ => tot_some _
theorem t149 (x) : Tot (r124 x) := tot_bind (t153 _) fun _ => tot_bind (t153 _) fun _ => tot_some _
theorem t154 (x) : Tot (r133 x) := tot_bind (t153 _) fun _ => tot_bind (t153 _) fun _ => tot_some _
theorem t36 (x) : Tot (r123 x) := tot_bind (tot_some _) fun _ => tot_bind (tot_some _) fun _ => tot_cond (tot_cond (tot_some _) (tot_some _)) (tot_cond (tot_some _) (tot_cond (tot_some _) (tot_cond (tot_some _) (tot_some _))))
theorem t143 (x) : Tot (r117 x) := tot_bind (t149 _) fun _ => tot_bind (t36 _) fun _ => tot_some _
theorem t87 (x) : Tot (r87 x) := tot_bind (t110 _) fun _ => tot_some _
theorem t111 (x) : Tot (r89 x) := tot_bind (t87 _) fun _ => tot_some _
theorem t151 (x) : Tot (r126 x) := tot_bind (t143 _) fun _ => tot_cond (tot_bind (t154 _) fun _ => tot_some _) (tot_some _)
abbrev IU : Type := (Int × Unit) × Unit
@[reducible] def embI (i : Int) (_ : Unit) : IU := ((i, ()), ())
theorem t145 (l : List Int) (n : Int) (hl : l.length ≤ 9223372036854775807) : Tot (r119 (l, (n, ()))) := by
  unfold r119
  refine tot_bind (tot_loop embI (fun _ _ => True) l.length (fun i _ hi _ => ?_) (fun _ => ?_) () trivial) (tot_sumE (fun _ => tot_some _) (tot_sumE (fun _ => tot_some _) tot_emptyE))
  · obtain ⟨a, ha⟩ : ∃ a, l[i]? = some a := ⟨_, List.getElem?_eq_getElem hi⟩
    dsimp only [embI]
    simp only [dec_lt hi, inB_lt hi, Int.toNat_natCast, ha, cond_true, Option.bind_some]
    rw [wrapS hi hl]
    exact good_cond (good_out _) (good_next () trivial)
  · dsimp only [embI]
    simp only [dec_nlt, cond_false]
    exact ⟨_, rfl⟩
theorem t130 (l : List Int) (n : Int) (hl : l.length ≤ 9223372036854775807) : Tot (r109 (l, (n, ()))) := tot_bind (t145 l n hl) fun _ => tot_some _
theorem t109 (l : List DPt) (hl : l.length ≤ 9223372036854775807) : Tot (r106_89 (l, ((), ()))) := by
  unfold r106_89
  refine tot_bind (tot_loop embI (fun _ _ => True) l.length (fun i _ hi _ => ?_) (fun _ => ?_) () trivial) (tot_sumE (fun _ => tot_some _) (tot_sumE (fun _ => tot_some _) tot_emptyE))
  · obtain ⟨a, ha⟩ : ∃ a, l[i]? = some a := ⟨_, List.getElem?_eq_getElem hi⟩
    dsimp only [embI]
    simp only [dec_lt hi, inB_lt hi, Int.toNat_natCast, ha, cond_true, Option.bind_some]
    rw [wrapS hi hl]
    exact good_bind (t111 _) fun _ => good_cond (good_out _) (good_next () trivial)
  · dsimp only [embI]
    simp only [dec_nlt, cond_false]
    exact ⟨_, rfl⟩
theorem t85 (l : List DPt) (hl : l.length ≤ 9223372036854775807) : Tot (r85_89 (l, ((), ()))) := tot_bind (t109 l hl) fun _ => tot_some _
/-- A shared point is listed once. -/
theorem t150 (x) (d : List DPt) (hd : d.length ≤ 3) : ∃ d', r125 x (d, ()) = some ((), (d', ())) ∧ d'.length ≤ d.length + 1 := by
  unfold r125
  obtain ⟨y, hy⟩ := t151 ((x.2.1.1, (x.2.1.2.1, ())), ((x.2.2.1.1, (x.2.2.1.2.1, ())), ((x.1.1, (x.1.2.1, ())), ())))
  simp only [hy, Option.bind_some]
  cases y.1 with
  | false => exact ⟨d, rfl, by omega⟩
  | true =>
    simp only [Bool.not_true, cond_false]
    have hl : Tot (loop (fun (x1 : IU) => (cond (Decidable.decide (LT.lt x1.1.1 (Nat.cast (List.length d) : Int))) (cond (inB x1.1.1 (List.length d)) (Option.bind (GetElem?.getElem? d (Int.toNat x1.1.1)) (fun x2 => (cond (Bool.and (Decidable.decide (Eq x2.1 x.1.1)) (Decidable.decide (Eq x2.2.1 x.1.2.1))) (Option.some (Sum.inr (Sum.inl (Unit.unit, Unit.unit)))) (Option.some (Sum.inl (((IntKind.wrap IntKind.i64 (HAdd.hAdd x1.1.1 (1 : Int))), Unit.unit), Unit.unit)))))) (Option.none)) (Option.some (Sum.inr (Sum.inr (Sum.inl (Unit.unit, Unit.unit) : (Unit × Unit) ⊕ Empty) : (Unit × Unit) ⊕ (Unit × Unit) ⊕ Empty))))) (embI 0 ())) := by
      refine tot_loop embI (fun _ _ => True) d.length (fun i _ hi _ => ?_) (fun _ => ?_) () trivial
      · obtain ⟨a, ha⟩ : ∃ a, d[i]? = some a := ⟨_, List.getElem?_eq_getElem hi⟩
        dsimp only [embI]
        simp only [dec_lt hi, inB_lt hi, Int.toNat_natCast, ha, cond_true, Option.bind_some]
        rw [wrapS hi (by omega)]
        exact good_cond (good_out _) (good_next () trivial)
      · dsimp only [embI]
        simp only [dec_nlt, cond_false]
        exact ⟨_, rfl⟩
    obtain ⟨o, ho⟩ := hl
    refine Exists.imp (fun d' h => ⟨?_, h.2⟩) (p := fun d' => sumE (fun _ => some ((), (d, ()))) (sumE (fun _ => (cond (fits (d.length + (List.cons (x.1.1, (x.1.2.1, ())) []).length) 16) (some ((), ((d ++ [(x.1.1, (x.1.2.1, ()))]), ()))) none)) emptyE) o = some ((), (d', ())) ∧ d'.length ≤ d.length + 1) ?_
    · refine Eq.trans ?_ h.1
      exact congrArg (fun z => Option.bind z _) ho
    · rcases o with o | o | o
      · exact ⟨d, rfl, by omega⟩
      · refine ⟨d ++ [(x.1.1, (x.1.2.1, ()))], ?_, by simp⟩
        have : fits (d.length + 1) 16 = true := by unfold fits; simp; omega
        simp only [sumE, List.length_cons, List.length_nil, this, cond_true]
      · exact nomatch o
theorem t144 (x) : Tot (r118 x) := by
  unfold r118
  obtain ⟨d1, h1, l1⟩ := t150 ((x.1.1, (x.1.2.1, ())), ((x.2.2.1.1, (x.2.2.1.2.1, ())), ((x.2.2.2.1.1, (x.2.2.2.1.2.1, ())), ()))) [] (by simp)
  obtain ⟨d2, h2, l2⟩ := t150 ((x.2.1.1, (x.2.1.2.1, ())), ((x.2.2.1.1, (x.2.2.1.2.1, ())), ((x.2.2.2.1.1, (x.2.2.2.1.2.1, ())), ()))) d1 (by simp at l1; omega)
  obtain ⟨d3, h3, l3⟩ := t150 ((x.2.2.1.1, (x.2.2.1.2.1, ())), ((x.1.1, (x.1.2.1, ())), ((x.2.1.1, (x.2.1.2.1, ())), ()))) d2 (by simp at l1; omega)
  obtain ⟨d4, h4, l4⟩ := t150 ((x.2.2.2.1.1, (x.2.2.2.1.2.1, ())), ((x.1.1, (x.1.2.1, ())), ((x.2.1.1, (x.2.1.2.1, ())), ()))) d3 (by simp at l1; omega)
  simp only [h1, h2, h3, h4, Option.bind_some]
  exact tot_some _
theorem t128 (x) : Tot (r107 x) := tot_bind (t110 _) fun _ => tot_bind (t110 _) fun _ => tot_bind (t110 _) fun _ => tot_bind (t110 _) fun _ => tot_bind (t143 _) fun _ => tot_bind (t143 _) fun _ =>
  tot_cond (tot_bind (t143 _) fun _ => tot_bind (t143 _) fun _ => tot_cond (tot_some _) (tot_bind (t144 _) fun _ => tot_some _)) (tot_bind (t144 _) fun _ => tot_some _)
theorem t113 (x) : Tot (r91 x) := tot_bind (t128 _) fun _ => tot_cond (tot_some _) (tot_cond (tot_cond (tot_some _) (tot_cond (tot_some _) (tot_cond (tot_some _) (tot_some _)))) (tot_some _))
end Go.Proofs.YtgabpbnndikheaaGreatDoor.I

/-! The check of areas always answers, plainly: rings, sides, areas. -/
namespace Go.Proofs.YtgabpbnndikheaaGreatDoor.I
open Go.RowKit
set_option linter.unusedVariables false
set_option linter.constructorNameAsVariable false
theorem len0 {α : Type} {l : List α} {i : Nat} (h : i < l.length) : decide ((l.length : Int) = 0) = false := decide_eq_false (by omega)
theorem t112 (l : List DPt) (i k : Nat) (hi : i < l.length) (hk : k < l.length) (hl : l.length ≤ 9223372036854775807) : Tot (r90 (l, ((i : Int), ((k : Int), ())))) := by
  unfold r90
  obtain ⟨b1, a1, ha1⟩ := at_next hi hl
  obtain ⟨b2, a2, ha2⟩ := at_next hk hl
  obtain ⟨a3, ha3⟩ : ∃ a, l[i]? = some a := ⟨_, List.getElem?_eq_getElem hi⟩
  obtain ⟨a4, ha4⟩ : ∃ a, l[k]? = some a := ⟨_, List.getElem?_eq_getElem hk⟩
  simp only [inB_lt hi, inB_lt hk, Int.toNat_natCast, ha3, ha4, b1, b2, ha1, ha2, len0 hi, cond_true, cond_false, Option.bind_some]
  exact tot_cond (tot_some _) (tot_cond (tot_some _) (tot_cond (tot_bind (t128 _) fun _ => tot_some _) (tot_cond (tot_bind (t128 _) fun _ => tot_some _) (tot_bind (t128 _) fun _ => tot_some _))))
theorem t129 (l m : List DPt) (i : Nat) (hi : i < l.length) (hl : l.length ≤ 9223372036854775807) (hm : m.length ≤ 9223372036854775807) : Tot (r108 (l, ((i : Int), (m, ())))) := by
  unfold r108
  obtain ⟨b1, a1, ha1⟩ := at_next hi hl
  obtain ⟨a3, ha3⟩ : ∃ a, l[i]? = some a := ⟨_, List.getElem?_eq_getElem hi⟩
  simp only [inB_lt hi, Int.toNat_natCast, ha3, b1, ha1, len0 hi, cond_true, cond_false, Option.bind_some]
  refine tot_bind (tot_loop (fun i (n : Int) => ((n, (i, ())), ())) (fun _ _ => True) m.length (fun j n hj _ => ?_) (fun _ => ?_) (-1) trivial) (tot_sumE (fun _ => tot_some _) tot_emptyE)
  · obtain ⟨c1, d1, hd1⟩ := at_next hj hm
    obtain ⟨d3, hd3⟩ : ∃ a, m[j]? = some a := ⟨_, List.getElem?_eq_getElem hj⟩
    dsimp only
    simp only [dec_lt hj, inB_lt hj, Int.toNat_natCast, hd3, c1, hd1, len0 hj, cond_true, cond_false, Option.bind_some]
    rw [wrapS hj hm]
    refine good_cond (good_cond (good_cond (good_cond ?_ ?_) ?_) ?_) (good_cond (good_cond (good_cond ?_ ?_) ?_) ?_) <;> exact good_next _ trivial
  · dsimp only
    simp only [dec_nlt, cond_false]
    exact ⟨_, rfl⟩
theorem t114 (l m : List DPt) (hl : l.length ≤ 200) (hm : m.length ≤ 9223372036854775807) : Tot (r92 (l, (m, ()))) := by
  unfold r92
  refine tot_bind (tot_loop (fun i (s : List Int) => ((s, (i, ())), ())) (fun i s => s.length ≤ i) l.length (fun j s hj hs => ?_) (fun _ => ?_) [] (Nat.le_refl _)) (tot_sumE (fun _ => tot_some _) tot_emptyE)
  · dsimp only
    simp only [dec_lt hj, cond_true]
    rw [wrapS hj (by omega)]
    refine good_bind (t129 l m j hj (by omega) hm) fun n => good_bind (t130 s n.1 (by omega)) fun b => good_cond ?_ (good_next s (by omega))
    have : fits (s.length + 1) 8 = true := by unfold fits; simp; omega
    simp only [List.length_cons, List.length_nil, Nat.zero_add, this, cond_true]
    exact good_next (s ++ [n.1]) (by simp; omega)
  · dsimp only
    simp only [dec_nlt, cond_false]
    exact ⟨_, rfl⟩
theorem t89 (l m : List DPt) (hl : l.length ≤ 200) (hm : m.length ≤ 200) : Tot (r74 (l, (m, ()))) := by
  unfold r74
  refine tot_bind (tot_loop embI (fun _ _ => True) l.length (fun i _ hi _ => ?_) (fun _ => ?_) () trivial) (tot_sumE (fun _ => tot_some _) (tot_sumE (fun _ => ?_) tot_emptyE))
  · dsimp only [embI]
    simp only [dec_lt hi, cond_true]
    rw [wrapS hi (by omega)]
    refine good_bind (tot_loop embI (fun _ _ => True) m.length (fun j _ hj _ => ?_) (fun _ => ?_) () trivial) (good_sumE (fun _ => good_out _) (good_sumE (fun _ => good_next () trivial) good_emptyE))
    · obtain ⟨b1, a1, ha1⟩ := at_next hi (by omega)
      obtain ⟨b2, a2, ha2⟩ := at_next hj (by omega)
      rw [wrapS hi (by omega)] at b1 ha1
      obtain ⟨a3, ha3⟩ : ∃ a, l[i]? = some a := ⟨_, List.getElem?_eq_getElem hi⟩
      obtain ⟨a4, ha4⟩ : ∃ a, m[j]? = some a := ⟨_, List.getElem?_eq_getElem hj⟩
      dsimp only [embI]
      simp only [dec_lt hj, inB_lt hi, inB_lt hj, Int.toNat_natCast, ha3, ha4, b1, b2, ha1, ha2, len0 hi, len0 hj, cond_true, cond_false, Option.bind_some]
      refine good_bind (t113 _) fun _ => good_cond (good_out _) ?_
      rw [wrapS hj (by omega)]
      exact good_next () trivial
    · dsimp only [embI]
      simp only [dec_nlt, cond_false]
      exact ⟨_, rfl⟩
  · dsimp only [embI]
    simp only [dec_nlt, cond_false]
    exact ⟨_, rfl⟩
  · exact tot_bind (t114 l m hl (by omega)) fun _ => tot_cond (tot_bind (t114 m l hm (by omega)) fun _ => tot_some _) (tot_some _)
theorem t88 (l : List DPt) (hl : l.length ≤ 9223372036854775807) : Tot (r73 (l, ())) := by
  unfold r73
  refine tot_cond (tot_some _) (tot_cond (tot_some _) (tot_bind (t85 l hl) fun _ => tot_cond (tot_some _) (tot_bind (tot_loop embI (fun _ _ => True) l.length (fun i _ hi _ => ?_) (fun _ => ?_) () trivial) (tot_sumE (fun _ => tot_some _) (tot_sumE (fun _ => tot_some _) tot_emptyE)))))
  · dsimp only [embI]
    simp only [dec_lt hi, cond_true]
    rw [wrapS hi hl]
    refine good_bind (tot_loop embI (fun _ _ => True) i (fun j _ hj _ => ?_) (fun _ => ?_) () trivial) (good_sumE (fun _ => good_out _) (good_sumE (fun _ => good_next () trivial) good_emptyE))
    · dsimp only [embI]
      simp only [dec_lt hj, cond_true]
      rw [wrapS hj (by omega)]
      exact good_bind (t112 l j i (by omega) hi hl) fun _ => good_cond (good_out _) (good_next () trivial)
    · dsimp only [embI]
      simp only [dec_nlt, cond_false]
      exact ⟨_, rfl⟩
  · dsimp only [embI]
    simp only [dec_nlt, cond_false]
    exact ⟨_, rfl⟩
theorem t50 (l : List (List DPt)) (hl : l.length ≤ 9223372036854775807) (hp : ∀ p ∈ l, p.length ≤ 200) : Tot (r60 (l, ())) := by
  unfold r60
  refine tot_cond (tot_some _) (tot_bind (tot_loop embI (fun _ _ => True) l.length (fun i _ hi _ => ?_) (fun _ => ?_) () trivial) (tot_sumE (fun _ => tot_some _) (tot_sumE (fun _ => tot_bind (tot_loop embI (fun _ _ => True) l.length (fun i _ hi _ => ?_) (fun _ => ?_) () trivial) (tot_sumE (fun _ => tot_some _) (tot_sumE (fun _ => tot_some _) tot_emptyE))) tot_emptyE)))
  · obtain ⟨a, ha⟩ : ∃ a, l[i]? = some a := ⟨_, List.getElem?_eq_getElem hi⟩
    dsimp only [embI]
    simp only [dec_lt hi, inB_lt hi, Int.toNat_natCast, ha, cond_true, Option.bind_some]
    rw [wrapS hi hl]
    exact good_bind (t88 a (by have := hp a (List.mem_of_getElem? ha); omega)) fun _ => good_cond (good_out _) (good_next () trivial)
  · dsimp only [embI]
    simp only [dec_nlt, cond_false]
    exact ⟨_, rfl⟩
  · obtain ⟨a, ha⟩ : ∃ a, l[i]? = some a := ⟨_, List.getElem?_eq_getElem hi⟩
    have hup : upTo (i : Int) (l.length : Int) = true := by unfold upTo; simp; omega
    dsimp only [embI]
    simp only [dec_lt hi, inB_lt hi, Int.toNat_natCast, ha, hup, cond_true, Option.bind_some]
    rw [wrapS hi hl]
    refine good_bind (tot_loop embI (fun _ _ => True) (l.take i).length (fun j _ hj _ => ?_) (fun _ => ?_) () trivial) (good_sumE (fun _ => good_out _) (good_sumE (fun _ => good_next () trivial) good_emptyE))
    · obtain ⟨b, hb⟩ : ∃ a, (l.take i)[j]? = some a := ⟨_, List.getElem?_eq_getElem hj⟩
      have hjl : (l.take i).length ≤ 9223372036854775807 := by rw [List.length_take]; omega
      dsimp only [embI]
      simp only [dec_lt hj, inB_lt hj, Int.toNat_natCast, hb, cond_true, Option.bind_some]
      rw [wrapS hj hjl]
      exact good_bind (t89 a b (hp a (List.mem_of_getElem? ha)) (hp b (List.mem_of_mem_take (List.mem_of_getElem? hb)))) fun _ => good_cond (good_out _) (good_next () trivial)
    · dsimp only [embI]
      simp only [dec_nlt, cond_false]
      exact ⟨_, rfl⟩
  · dsimp only [embI]
    simp only [dec_nlt, cond_false]
    exact ⟨_, rfl⟩
end Go.Proofs.YtgabpbnndikheaaGreatDoor.I

/-! Features and surveys: the program's check and the reference's agree and always answer, plainly. -/
namespace Go.Proofs.YtgabpbnndikheaaGreatDoor.I
open Go.RowKit
set_option linter.unusedVariables false
set_option linter.constructorNameAsVariable false
abbrev kPt : Kd := .pair (.int .i64) (.pair (.int .i64) .unit)
abbrev kVal : Kd := .pair (.int .i64) (.pair (.int .i64) (.pair .str (.pair .bool .unit)))
abbrev kAtt : Kd := .pair .str (.pair kVal .unit)
abbrev kFea : Kd := .pair (.int .i64) (.pair (.int .i64) (.pair (.slice (.slice kPt)) (.pair (.slice kAtt) (.pair (.int .i64) (.pair (.int .i64) .unit)))))
noncomputable def areaO (l : List (List DPt)) : Option (Int × Unit) := Option.bind (r60 (l, ())) fun x => some (x.1, ())
noncomputable def partsV (kind : Int) (l : List (List DPt)) : Int := ((partsE (areaO l) kind l).getD (0, ())).1
theorem parts_some {kind : Int} {l : List (List DPt)} (hs : small (.slice (.slice kPt)) l) : partsE (areaO l) kind l = some (partsV kind l, ()) := by
  obtain ⟨hl, hb⟩ := parts_bounds hs
  have key : Tot (partsE (areaO l) kind l) := by
    unfold partsE
    split
    · exact tot_some _
    split
    · exact tot_some _
    split
    · exact tot_some _
    split
    · exact tot_some _
    rename_i hlong
    split
    · exact tot_some _
    split
    · exact tot_some _
    split
    · unfold areaO
      refine tot_bind (t50 l hl (fun p hp => ?_)) fun _ => tot_some _
      rcases Nat.lt_or_ge 200 p.length with h | h
      · exact absurd (List.any_eq_true.2 ⟨p, hp, by simp; omega⟩) hlong
      · exact h
    · exact tot_some _
  obtain ⟨y, hy⟩ := key
  unfold partsV
  rw [hy]
  rfl
noncomputable def featV (f : DFea) : Int :=
  if f.1 < 1 then 1 else if 1073741824 < f.1 then 1 else if partsV f.2.1 f.2.2.1 ≠ 0 then partsV f.2.1 f.2.2.1 else if attrsE false f.2.2.2.1 ≠ 0 then attrsE false f.2.2.2.1
  else if f.2.2.2.2.1 < 0 then 1 else if 1073741824 < f.2.2.2.2.2.1 then 1 else if f.2.2.2.2.2.1 ≤ f.2.2.2.2.1 then 1 else 0
theorem fea_small {f : DFea} (h : small kFea f) : small (.slice (.slice kPt)) f.2.2.1 ∧ small (.slice kAtt) f.2.2.2.1 := ⟨h.2.2.1, h.2.2.2.1⟩
theorem r18_eq (f : DFea) (h : small kFea f) : r35 (f, ()) = some (featV f, ()) := by
  obtain ⟨h1, h2⟩ := fea_small h
  unfold r35 featV
  have e1 : r57 (f.2.1, (f.2.2.1, ())) = some (partsV f.2.1 f.2.2.1, ()) := (r20_eq f.2.1 f.2.2.1 h1).trans (parts_some h1)
  have e2 : r58 (f.2.2.2.1, (false, ())) = some (attrsE false f.2.2.2.1, ()) := r22_eq f.2.2.2.1 false h2
  simp only [e1, e2, Option.bind_some]
  generalize partsV f.2.1 f.2.2.1 = p
  generalize attrsE false f.2.2.2.1 = a
  obtain ⟨id, kind, ps, ats, fr, tt, ⟨⟩⟩ := f
  simp only
  by_cases k1 : id < 1
  · simp [k1]
  by_cases k2 : 1073741824 < id
  · simp [k1, k2]
  by_cases k3 : p = 0 <;> by_cases k4 : a = 0 <;> by_cases k5 : fr < 0 <;> by_cases k6 : 1073741824 < tt <;> by_cases k7 : tt ≤ fr <;> simp [k1, k2, k3, k4, k5, k6, k7]
theorem r19_eq (f : DFea) (h : small kFea f) : r17 (f, ()) = some (featV f, ()) := by
  obtain ⟨h1, h2⟩ := fea_small h
  unfold r17 featV
  have e1 : r45 (f.2.1, (f.2.2.1, ())) = some (partsV f.2.1 f.2.2.1, ()) := (r21_eq f.2.1 f.2.2.1 h1).trans (parts_some h1)
  have e2 : r46 (f.2.2.2.1, (false, ())) = some (attrsE false f.2.2.2.1, ()) := r23_eq f.2.2.2.1 false h2
  simp only [e1, e2, Option.bind_some]
  generalize partsV f.2.1 f.2.2.1 = p
  generalize attrsE false f.2.2.2.1 = a
  obtain ⟨id, kind, ps, ats, fr, tt, ⟨⟩⟩ := f
  simp only
  by_cases k1 : id < 1
  · have : id ≤ 0 := by omega
    simp [k1, this]
  have k1' : ¬ id ≤ 0 := by omega
  by_cases k2 : 1073741824 < id
  · simp [k1, k1', k2]
  by_cases k3 : p = 0 <;> by_cases k4 : a = 0 <;> by_cases k5 : fr < 0 <;> by_cases k6 : 1073741824 < tt <;> by_cases k7 : tt ≤ fr <;> simp [k1, k1', k2, k3, k4, k5, k6, k7]
theorem featV_pos {f : DFea} (h : featV f = 0) : 1 ≤ f.1 := by
  unfold featV at h
  by_cases k1 : f.1 < 1
  · simp [k1] at h
  · omega
noncomputable def survF (last : Int) (f : DFea) : Option Int := if featV f ≠ 0 then some (featV f) else if f.1 ≤ last then some 9 else none
noncomputable def survV (l : List DFea) : Int := if 200 < l.length then 2 else scan survF (fun f => f.1) 0 0 l
theorem surv_end (l : List DFea) (p : Int) : (sumE (fun x0 => some (x0.1.1, ())) (sumE (fun x0 => some ((0 : Int), ())) emptyE) : O3 → Option (Int × Unit)) (scan (fun p a => (survF p a).map w3) (fun f => f.1) w0 p l) = some (scan survF (fun f => f.1) 0 p l, ()) := by
  have := scan_map (sumE (fun x0 => some (x0.1.1, ())) (sumE (fun x0 => some ((0 : Int), ())) emptyE) : O3 → Option (Int × Unit)) (fun p a => (survF p a).map w3) (fun f : DFea => f.1) w0 l p
  refine this.trans ?_
  have h2 := scan_map (fun e : Int => some (e, ())) survF (fun f : DFea => f.1) 0 l p
  refine Eq.trans ?_ h2.symm
  refine scan_congr (fun p a _ => ?_)
  cases survF p a <;> rfl
theorem surv_small {l : List DFea} (h : small (.slice kFea) l) : l.length ≤ 9223372036854775807 ∧ ∀ f ∈ l, small kFea f := by
  have hm : maxLen = 9223372036854775807 := rfl
  have h' := h
  unfold small at h'
  rw [hm] at h'
  exact h'
theorem r16_eq (l : List DFea) (h : small (.slice kFea) l) : r25 (l, ()) = some (survV l, ()) := by
  obtain ⟨hl, hb⟩ := surv_small h
  unfold r25 survV
  by_cases h8 : 200 < l.length
  · have : decide ((200 : Int) < (l.length : Int)) = true := by simp; omega
    rw [if_pos h8]
    simp only [this, cond_true]
  · rw [if_neg h8]
    have : decide ((200 : Int) < (l.length : Int)) = false := by simp; omega
    simp only [this, cond_false]
    rw [loop_list (fun i _ => ((i, ()), ())) l (fun i a _ => found ((survF (prevOf (fun f => f.1) 0 l i) a).map w3)) (fun _ => w0) (fun i a _ h => ?_) (fun _ => ?_) ()]
    · rw [foldL_prev (fun p a => (survF p a).map w3) (fun f => f.1) w0 0 l (fun i a _ => rfl) l 0 rfl]
      simp only [Option.bind_some]
      exact surv_end l 0
    · have hlt := lt_of_get h
      have hv : r35 ((a.1, (a.2.1, (a.2.2.1, (a.2.2.2.1, (a.2.2.2.2.1, (a.2.2.2.2.2.1, ())))))), ()) = some (featV a, ()) := r18_eq a (hb a (List.mem_of_getElem? h))
      simp only [dec_lt hlt, inB_lt hlt, Int.toNat_natCast, h, cond_true, Option.bind_some, hv]
      rw [wrapS hlt hl]
      by_cases hz : featV a = 0
      · cases i with
        | zero =>
          have hp := featV_pos hz
          have hd0 : decide ((0 : Int) < ((0 : Nat) : Int)) = false := by simp
          have hn : ¬ a.1 ≤ 0 := by omega
          simp [hd0, survF, prevOf, hz, hn, found, stepTo]
        | succ j =>
          have hd0 : decide ((0 : Int) < ((j + 1 : Nat) : Int)) = true := by simp
          obtain ⟨b, hbj⟩ : ∃ b, l[j]? = some b := ⟨_, List.getElem?_eq_getElem (by omega)⟩
          have hw : IntKind.wrap .i64 (((j + 1 : Nat) : Int) - 1) = (j : Int) := by rw [wrap64 (by omega) (by omega)]; omega
          simp only [hd0, cond_true, prevOf, hbj, hw, inB_lt (show j < l.length by omega), Int.toNat_natCast, Option.bind_some, hz]
          by_cases hc : a.1 ≤ b.1 <;> simp [survF, hz, hc, found, stepTo, w3]
      · simp [survF, hz, found, stepTo, w3]
    · simp only [dec_nlt, cond_false]
      rfl
theorem r17_eq (l : List DFea) (h : small (.slice kFea) l) : r7 (l, ()) = some (survV l, ()) := by
  obtain ⟨hl, hb⟩ := surv_small h
  unfold r7 survV
  by_cases h8 : 200 < l.length
  · have : decide ((200 : Int) < (l.length : Int)) = true := by simp; omega
    rw [if_pos h8]
    simp only [this, cond_true]
  · rw [if_neg h8]
    have : decide ((200 : Int) < (l.length : Int)) = false := by simp; omega
    simp only [this, cond_false]
    rw [loop_list (fun i (p : Int) => ((p, (i, ())), ())) l (fun i a p => stepK a.1 ((survF p a).map w3)) (fun _ => w0) (fun i a p h => ?_) (fun _ => ?_) 0]
    · rw [foldL_state (fun p a => (survF p a).map w3) (fun f => f.1) w0 l 0 _ (fun i a p _ => rfl)]
      simp only [Option.bind_some]
      exact surv_end l 0
    · have hlt := lt_of_get h
      have hv : r17 ((a.1, (a.2.1, (a.2.2.1, (a.2.2.2.1, (a.2.2.2.2.1, (a.2.2.2.2.2.1, ())))))), ()) = some (featV a, ()) := r19_eq a (hb a (List.mem_of_getElem? h))
      simp only [dec_lt hlt, inB_lt hlt, Int.toNat_natCast, h, cond_true, Option.bind_some, hv]
      rw [wrapS hlt hl]
      by_cases hz : featV a = 0
      · by_cases hc : a.1 ≤ p <;> simp [survF, hz, hc, stepK, stepTo, w3]
      · simp [survF, hz, stepK, stepTo, w3]
    · simp only [dec_nlt, cond_false]
      rfl
end Go.Proofs.YtgabpbnndikheaaGreatDoor.I

/-! Texts, plainly: bytes as data, builders, loops over lists. -/
namespace Go.Proofs.YtgabpbnndikheaaGreatDoor.I
open Go.RowKit
set_option linter.unusedVariables false
set_option linter.constructorNameAsVariable false
def toI (l : List UInt8) : List Int := l.map fun b => (b.toNat : Int)
theorem toI_len (l : List UInt8) : (toI l).length = l.length := by simp [toI]
theorem toI_app (a b : List UInt8) : toI (a ++ b) = toI a ++ toI b := by simp [toI]
theorem mkStr_toI (l : List UInt8) : mkStr (toI l) = ⟨l.toArray⟩ := by
  unfold mkStr toI
  congr 2
  rw [List.map_map]
  conv => rhs; rw [← List.map_id l]
  refine List.map_congr_left (fun b _ => ?_)
  simp
theorem bytesOf_mk (l : List UInt8) : bytesOf ⟨l.toArray⟩ = toI l := rfl
theorem bytesOf_len (s : ByteArray) : (bytesOf s).length = s.size := by unfold bytesOf; rw [List.length_map, ← bytes_len]
theorem size_mk (l : List UInt8) : (ByteArray.mk l.toArray).size = l.length := by rw [bytes_len]
theorem fitsB {k : Nat} (h : k ≤ 140737488355328) : fits k 1 = true := by unfold fits; simp; omega
theorem fits16 {k : Nat} (h : k ≤ 1000000000) : fits k 16 = true := by unfold fits; simp; omega
theorem big {n : Nat} (h : n ≤ 1000000000) : decide (9223372036854775807 < n) = false := by simp; omega
def ofS (s : ByteArray) : List UInt8 := s.data.toList
theorem ofS_len (s : ByteArray) : (ofS s).length = s.size := bytes_len.symm
theorem ofS_mk (l : List UInt8) : ofS ⟨l.toArray⟩ = l := rfl
theorem mk_ofS (s : ByteArray) : (⟨(ofS s).toArray⟩ : ByteArray) = s := rfl
theorem ba_app (a b : List UInt8) : (⟨a.toArray⟩ : ByteArray) ++ (⟨b.toArray⟩ : ByteArray) = ⟨(a ++ b).toArray⟩ := by
  apply ByteArray.ext
  rw [ByteArray.data_append]
  exact List.append_toArray a b
theorem wf_in {x : Int} (h : (Lit.int .i64 x).wf = true) : -9223372036854775808 ≤ x ∧ x ≤ 9223372036854775807 := bounds_i64 h
/-- A loop over a list whose rounds all go on. -/
theorem loop_fold {α S D O : Type} {step : D → Option (D ⊕ O)} (emb : Int → S → D) (f : S → α → S) (Inv : Nat → S → Prop) (out : S → O) (xs : List α)
    (hin : ∀ (i : Nat) a s, xs[i]? = some a → Inv i s → step (emb i s) = some (.inl (emb ((i : Int) + 1) (f s a))) ∧ Inv (i + 1) (f s a))
    (hend : ∀ s, Inv xs.length s → step (emb (xs.length : Int) s) = some (.inr (out s))) (s : S) (h0 : Inv 0 s) : loop step (emb 0 s) = some (out (xs.foldl f s)) ∧ Inv xs.length (xs.foldl f s) := by
  have key : ∀ (l : List α) (i : Nat) (s : S), i ≤ xs.length → xs.drop i = l → Inv i s → loop step (emb (i : Int) s) = some (out (l.foldl f s)) ∧ Inv xs.length (l.foldl f s) := by
    intro l
    induction l with
    | nil =>
      intro i s hi hl hI
      have : i = xs.length := by
        have := congrArg List.length hl
        simp at this; omega
      subst this
      exact ⟨by rw [loop_eq, hend s hI]; rfl, hI⟩
    | cons a l ih =>
      intro i s hi hl hI
      have ha : xs[i]? = some a := by
        have := congrArg (fun l => l[0]?) hl
        simpa using this
      have hlt := lt_of_get ha
      have hd : xs.drop (i + 1) = l := by rw [← List.drop_drop, hl]; rfl
      obtain ⟨h1, h2⟩ := hin i a s ha hI
      rw [loop_eq, h1]
      exact ih (i + 1) _ hlt hd h2
  exact key xs 0 s (Nat.zero_le _) rfl h0
/-- Rounds that go on or end. -/
def foldE {α S O : Type} (body : S → α → S ⊕ O) (out : S → O) : List α → S → O
  | [], s => out s
  | a :: l, s => match body s a with
    | .inl s' => foldE body out l s'
    | .inr o => o
def stepE {D S O : Type} (emb : Int → S → D) (i : Nat) : S ⊕ O → Option (D ⊕ O)
  | .inl s' => some (.inl (emb ((i : Int) + 1) s'))
  | .inr o => some (.inr o)
theorem loop_exit {α S D O : Type} {step : D → Option (D ⊕ O)} (emb : Int → S → D) (body : S → α → S ⊕ O) (Inv : Nat → S → Prop) (out : S → O) (xs : List α)
    (hin : ∀ (i : Nat) a s, xs[i]? = some a → Inv i s → step (emb i s) = stepE emb i (body s a) ∧ ∀ s', body s a = .inl s' → Inv (i + 1) s')
    (hend : ∀ s, Inv xs.length s → step (emb (xs.length : Int) s) = some (.inr (out s))) (s : S) (h0 : Inv 0 s) : loop step (emb 0 s) = some (foldE body out xs s) := by
  have key : ∀ (l : List α) (i : Nat) (s : S), i ≤ xs.length → xs.drop i = l → Inv i s → loop step (emb (i : Int) s) = some (foldE body out l s) := by
    intro l
    induction l with
    | nil =>
      intro i s hi hl hI
      have : i = xs.length := by
        have := congrArg List.length hl
        simp at this; omega
      subst this
      rw [loop_eq, hend s hI]
      rfl
    | cons a l ih =>
      intro i s hi hl hI
      have ha : xs[i]? = some a := by
        have := congrArg (fun l => l[0]?) hl
        simpa using this
      have hlt := lt_of_get ha
      have hd : xs.drop (i + 1) = l := by rw [← List.drop_drop, hl]; rfl
      obtain ⟨h1, h2⟩ := hin i a s ha hI
      rw [loop_eq, h1]
      simp only [foldE]
      cases hb : body s a with
      | inl s' => exact ih (i + 1) _ hlt hd (h2 s' hb)
      | inr o => rfl
  exact key xs 0 s (Nat.zero_le _) rfl h0
theorem fold_flat {α β : Type} (g : α → List β) : ∀ (l : List α) (d : List β), l.foldl (fun d a => d ++ g a) d = d ++ l.flatMap g
  | [], d => by simp
  | a :: l, d => by rw [List.foldl_cons, fold_flat g l, List.flatMap_cons, List.append_assoc]
theorem flat_len {α β : Type} (g : α → List β) (k : Nat) : ∀ (l : List α), (∀ a ∈ l, (g a).length ≤ k) → (l.flatMap g).length ≤ k * l.length
  | [], _ => by simp
  | a :: l, h => by
    have h1 := h a (by simp)
    have h2 := flat_len g k l (fun b hb => h b (by simp [hb]))
    rw [List.flatMap_cons, List.length_append, List.length_cons, Nat.mul_succ]
    omega
/-! ### The program's own -/
theorem itoa_eq {n : Int} (h : -9223372036854775808 ≤ n ∧ n ≤ 9223372036854775807) : r28 (n, ()) = some (⟨(Lib.itoa n).toArray⟩, ()) := by
  unfold r28 i64B
  rw [decide_eq_true h]
  rfl
theorem fmtInt_eq {n : Int} (h : -9223372036854775808 ≤ n ∧ n ≤ 9223372036854775807) : r56 (n, ((10 : Int), ())) = some (⟨(Lib.itoa n).toArray⟩, ()) := by
  unfold r56 i64B
  rw [decide_eq_true h]
  rfl
theorem itoa_len {n : Int} (h : -9223372036854775808 ≤ n ∧ n ≤ 9223372036854775807) : (Lib.itoa n).length ≤ 21 := Lib.itoa_length_le n h.1 h.2
theorem wstr (s d : List UInt8) (h : d.length + s.length ≤ 140737488355328) : r26 (⟨s.toArray⟩, ()) ((), (toI d, ())) = some (((s.length : Int), (false, ())), ((), (toI (d ++ s), ()))) := by
  unfold r26
  simp only [bytesOf_mk, toI_len, fitsB h, cond_true, size_mk, toI_app]
theorem blen (d : List UInt8) : r30 () ((), (toI d, ())) = some (((d.length : Int), ()), ((), (toI d, ()))) := by
  unfold r30
  rw [toI_len]
theorem bstr (d : List UInt8) (h : d.length ≤ 140737488355328) : r31 () ((), (toI d, ())) = some ((⟨d.toArray⟩, ()), ((), (toI d, ()))) := by
  rw [← mkStr_toI]
  rw [← toI_len] at h
  generalize toI d = d at h
  unfold r31
  cases d with
  | nil => rfl
  | cons a d =>
    have hl : ((a :: d).length : Int) ≤ 140737488355328 := by omega
    have hp : (0 : Int) < ((a :: d).length : Int) := by rw [List.length_cons]; omega
    show cond (decide (((a :: d).length : Int) = ((a :: d).length : Int) ∧ 0 < ((a :: d).length : Int) ∧ ((a :: d).length : Int) ≤ 9223372036854775807)) _ _ = _
    rw [decide_eq_true ⟨rfl, hp, by omega⟩]
    rfl
theorem join_eq (xs : List (List UInt8)) (sep : List UInt8) (h1 : xs.length ≤ 140737488355328) (h2 : (Lib.join xs sep).length ≤ 140737488355328) :
    r32 (xs.map (fun l => (⟨l.toArray⟩ : ByteArray)), (⟨sep.toArray⟩, ())) = some (⟨(Lib.join xs sep).toArray⟩, ()) := by
  have e : joinB (xs.map (fun l => (⟨l.toArray⟩ : ByteArray))) ⟨sep.toArray⟩ = Lib.join xs sep := by
    unfold joinB
    rw [List.map_map]
    congr 1
    conv => rhs; rw [← List.map_id xs]
    exact List.map_congr_left (fun l _ => rfl)
  unfold r32
  simp only [e]
  rw [decide_eq_true ⟨by rw [List.length_map]; exact h1, h2⟩]
  rfl
/-- Lines, each with its end. -/
def linesB (xs : List (List UInt8)) : List UInt8 := xs.flatMap (fun x => x ++ [10])
theorem join_lines : ∀ (xs : List (List UInt8)), Lib.join (xs ++ [[]]) [10] = linesB xs
  | [] => rfl
  | x :: xs => by
    have ih := join_lines xs
    rw [List.cons_append, Lib.join_cons]
    unfold linesB at ih ⊢
    rw [List.flatMap_cons, ← ih]
    cases xs with
    | nil =>
      show x ++ Lib.joinTail [10] [[]] = x ++ [10] ++ Lib.join [[]] [10]
      rw [Lib.join_one]
      simp [Lib.joinTail]
    | cons y ys =>
      rw [List.cons_append, Lib.join_cons]
      simp [Lib.joinTail]
end Go.Proofs.YtgabpbnndikheaaGreatDoor.I

/-! A survey as text: what both write, plainly. -/
namespace Go.Proofs.YtgabpbnndikheaaGreatDoor.I
open Go.RowKit
set_option linter.unusedVariables false
set_option linter.constructorNameAsVariable false
def In64 (x : Int) : Prop := -9223372036854775808 ≤ x ∧ x ≤ 9223372036854775807
def wordB (k : Int) : List UInt8 := if k = 1 then [100, 111, 116, 115] else if k = 2 then [108, 105, 110, 101, 115] else [97, 114, 101, 97, 115]
def showB (v : DVal) : List UInt8 := if v.1 = 0 then [110, 105, 108] else if v.1 = 1 then Lib.itoa v.2.1 else if v.1 = 2 then [34] ++ ofS v.2.2.1 ++ [34] else if v.1 = 3 then Lib.formatBool v.2.2.2.1 else [63]
def headB (f : DFea) : List UInt8 := wordB f.2.1 ++ [32] ++ Lib.itoa f.1 ++ [32] ++ Lib.itoa f.2.2.2.2.1 ++ [32] ++ Lib.itoa f.2.2.2.2.2.1
def ptB (q : DPt) : List UInt8 := [32] ++ Lib.itoa q.1 ++ [44] ++ Lib.itoa q.2.1
def partB (p : List DPt) : List UInt8 := [64] ++ p.flatMap ptB
def attB (a : DAtt) : List UInt8 := ofS a.1 ++ [61] ++ showB a.2.1
def feaL (f : DFea) : List (List UInt8) := [headB f] ++ f.2.2.1.map partB ++ f.2.2.2.1.map attB
def feaT (f : DFea) : List UInt8 := linesB (feaL f)
def survT (l : List DFea) : List UInt8 := l.flatMap feaT
theorem lines_app (a b : List (List UInt8)) : linesB (a ++ b) = linesB a ++ linesB b := by unfold linesB; rw [List.flatMap_append]
theorem lines_map {α : Type} (g : α → List UInt8) (l : List α) : linesB (l.map g) = l.flatMap (fun a => g a ++ [10]) := by
  unfold linesB
  rw [List.flatMap_map]
theorem lines_flat {α : Type} (g : α → List (List UInt8)) (l : List α) : linesB (l.flatMap g) = l.flatMap (fun a => linesB (g a)) := by
  induction l with
  | nil => rfl
  | cons a l ih => rw [List.flatMap_cons, lines_app, ih, List.flatMap_cons]
/-! ### Bounds -/
structure AtOk (a : DAtt) : Prop where
  key : a.1.size ≤ 12
  text : a.2.1.2.2.1.size ≤ 40
  num : In64 a.2.1.2.1
structure TOk (f : DFea) : Prop where
  parts : f.2.2.1.length ≤ 20
  pts : ∀ p ∈ f.2.2.1, p.length ≤ 200 ∧ ∀ q ∈ p, In64 q.1 ∧ In64 q.2.1
  atts : f.2.2.2.1.length ≤ 8
  att : ∀ a ∈ f.2.2.2.1, AtOk a
  kind : 1 ≤ f.2.1 ∧ f.2.1 ≤ 3
  id : In64 f.1
  fr : In64 f.2.2.2.2.1
  upto : In64 f.2.2.2.2.2.1
theorem word_len (k : Int) : (wordB k).length ≤ 5 := by
  unfold wordB
  split
  · decide
  · split <;> decide
theorem fbool_len (b : Bool) : (Lib.formatBool b).length ≤ 5 := by cases b <;> decide +kernel
theorem show_len {v : DVal} (h1 : v.2.2.1.size ≤ 40) (h2 : In64 v.2.1) : (showB v).length ≤ 42 := by
  unfold showB
  split
  · simp
  · split
    · have := itoa_len h2; omega
    · split
      · simp only [List.length_append, ofS_len, List.length_cons, List.length_nil]; omega
      · split
        · have := fbool_len v.2.2.2.1; omega
        · simp
theorem head_len {f : DFea} (h : TOk f) : (headB f).length ≤ 80 := by
  unfold headB
  have h1 := word_len f.2.1
  have h2 := itoa_len h.id
  have h3 := itoa_len h.fr
  have h4 := itoa_len h.upto
  simp only [List.length_append, List.length_cons, List.length_nil]
  omega
theorem pt_len {q : DPt} (h : In64 q.1 ∧ In64 q.2.1) : (ptB q).length ≤ 44 := by
  unfold ptB
  have h1 := itoa_len h.1
  have h2 := itoa_len h.2
  simp only [List.length_append, List.length_cons, List.length_nil]
  omega
theorem part_len {p : List DPt} (h : p.length ≤ 200 ∧ ∀ q ∈ p, In64 q.1 ∧ In64 q.2.1) : (partB p).length ≤ 8801 := by
  unfold partB
  have h1 := flat_len ptB 44 p (fun q hq => pt_len (h.2 q hq))
  have h2 := h.1
  simp only [List.length_append, List.length_cons, List.length_nil]
  omega
theorem att_len {a : DAtt} (h : AtOk a) : (attB a).length ≤ 55 := by
  unfold attB
  have h1 := h.key
  have h2 := show_len h.text h.num
  simp only [List.length_append, List.length_cons, List.length_nil, ofS_len]
  omega
theorem feaL_len {f : DFea} (h : TOk f) : (feaL f).length ≤ 29 := by
  unfold feaL
  have h1 := h.parts
  have h2 := h.atts
  simp only [List.length_append, List.length_map, List.length_cons, List.length_nil]
  omega
theorem feaT_eq (f : DFea) : feaT f = headB f ++ [10] ++ f.2.2.1.flatMap (fun p => partB p ++ [10]) ++ f.2.2.2.1.flatMap (fun a => attB a ++ [10]) := by
  unfold feaT feaL
  rw [lines_app, lines_app, lines_map, lines_map]
  congr 2
  simp [linesB]
theorem parts_len {f : DFea} (h : TOk f) : (f.2.2.1.flatMap (fun p => partB p ++ [10])).length ≤ 176040 := by
  have h1 := flat_len (fun p => partB p ++ [10]) 8802 f.2.2.1 (fun p hp => by have := part_len (h.pts p hp); simp only [List.length_append, List.length_cons, List.length_nil]; omega)
  have h2 := h.parts
  omega
theorem atts_len {f : DFea} (h : TOk f) : (f.2.2.2.1.flatMap (fun a => attB a ++ [10])).length ≤ 448 := by
  have h1 := flat_len (fun p => attB p ++ [10]) 56 f.2.2.2.1 (fun p hp => by have := att_len (h.att p hp); simp only [List.length_append, List.length_cons, List.length_nil]; omega)
  have h2 := h.atts
  omega
theorem feaT_len {f : DFea} (h : TOk f) : (feaT f).length ≤ 180000 := by
  rw [feaT_eq]
  have h1 := head_len h
  have h2 := parts_len h
  have h3 := atts_len h
  simp only [List.length_append, List.length_cons, List.length_nil]
  omega
theorem survT_len {l : List DFea} (h : ∀ f ∈ l, TOk f) (hl : l.length ≤ 200) : (survT l).length ≤ 36000000 := by
  have h1 := flat_len feaT 180000 l (fun f hf => feaT_len (h f hf))
  unfold survT
  omega
/-! ### Values -/
theorem fbool_eq (b : Bool) : r38 (b, ()) = some (⟨(Lib.formatBool b).toArray⟩, ()) := rfl
theorem show_eq (v : DVal) (h1 : v.2.2.1.size ≤ 40) (h2 : In64 v.2.1) : r29 (v, ()) = some (⟨(showB v).toArray⟩, ()) := by
  obtain ⟨k, n, s, b, ⟨⟩⟩ := v
  obtain ⟨s, rfl⟩ : ∃ l, s = ⟨l.toArray⟩ := ⟨ofS s, (mk_ofS s).symm⟩
  unfold r29 showB
  simp only [size_mk] at h1
  simp only [itoa_eq h2, fbool_eq, Option.bind_some, ba_app, size_mk, ofS_mk]
  rw [big (by simp only [List.length_append, List.length_cons, List.length_nil]; omega), big (by simp only [List.length_append, List.length_cons, List.length_nil]; omega)]
  by_cases k0 : k = 0
  · simp only [k0, decide_true, cond_true, if_true]
  by_cases k1 : k = 1
  · simp only [k0, k1, decide_true, decide_false, cond_true, cond_false, if_true, if_false]
    rfl
  by_cases k2 : k = 2
  · simp only [k0, k1, k2, decide_true, decide_false, cond_true, cond_false, if_true, if_false]
    rfl
  by_cases k3 : k = 3
  · simp only [k0, k1, k2, k3, decide_true, decide_false, cond_true, cond_false, if_true, if_false]
    rfl
  · simp only [k0, k1, k2, k3, decide_false, cond_false, if_false]
theorem fb_true : Lib.formatBool true = [116, 114, 117, 101] := by decide +kernel
theorem fb_false : Lib.formatBool false = [102, 97, 108, 115, 101] := by decide +kernel
theorem shown_eq (v : DVal) (h1 : v.2.2.1.size ≤ 40) (h2 : In64 v.2.1) : r34 (v, ()) = some (⟨(showB v).toArray⟩, ()) := by
  obtain ⟨k, n, s, b, ⟨⟩⟩ := v
  obtain ⟨s, rfl⟩ : ∃ l, s = ⟨l.toArray⟩ := ⟨ofS s, (mk_ofS s).symm⟩
  unfold r34 showB
  simp only [size_mk] at h1
  have hj : Lib.join [[], s, []] [34] = [34] ++ s ++ [34] := by rw [Lib.join_cons]; simp [Lib.joinTail]
  have ej : r32 ((List.cons (ByteArray.mk (List.toArray (List.nil))) (List.cons (ByteArray.mk s.toArray) (List.cons (ByteArray.mk (List.toArray (List.nil))) (List.nil)))), ((ByteArray.mk (List.toArray (List.cons (34 : UInt8) (List.nil)))), ())) = some (⟨([34] ++ s ++ [34]).toArray⟩, ()) := by
    have := join_eq [[], s, []] [34] (by simp) (by rw [hj]; simp; omega)
    rw [hj] at this
    exact this
  simp only [fmtInt_eq h2, ej, Option.bind_some, ofS_mk]
  by_cases k0 : k = 0
  · simp only [k0, decide_true, cond_true, if_true]
  by_cases k1 : k = 1
  · simp only [k0, k1, decide_true, decide_false, cond_true, cond_false, if_true, if_false]
    rfl
  by_cases k2 : k = 2
  · simp only [k0, k1, k2, decide_true, decide_false, cond_true, cond_false, if_true, if_false]
    rfl
  by_cases k3 : k = 3
  · cases b with
    | true =>
      simp only [k0, k1, k2, k3, decide_true, decide_false, cond_true, cond_false, if_true, if_false, fb_true]
      rfl
    | false =>
      simp only [k0, k1, k2, k3, decide_true, decide_false, cond_true, cond_false, if_true, if_false, fb_false]
      rfl
  · simp only [k0, k1, k2, k3, decide_false, cond_false, if_false]
end Go.Proofs.YtgabpbnndikheaaGreatDoor.I

/-! A survey as text: the program's, plainly. -/
namespace Go.Proofs.YtgabpbnndikheaaGreatDoor.I
open Go.RowKit
set_option linter.unusedVariables false
set_option linter.constructorNameAsVariable false
abbrev DSt := (Int × Unit × List Int × Unit) × Unit
@[reducible] def embS (i : Int) (d : List UInt8) : (Int × Unit × List Int × Unit) × Unit := ((i, ((), (toI d, ()))), ())
@[reducible] def outS (d : List UInt8) : ((Unit × List Int × Unit) × Unit) ⊕ Empty := Sum.inl (((), (toI d, ())), ())
theorem words_at {k : Int} (h : 1 ≤ k ∧ k ≤ 3) : ∃ W, r27 () = some (W, ()) ∧ inB k W.length = true ∧ W[k.toNat]? = some ⟨(wordB k).toArray⟩ := by
  refine ⟨_, rfl, ?_⟩
  have hk : k = 1 ∨ k = 2 ∨ k = 3 := by omega
  rcases hk with rfl | rfl | rfl <;> exact ⟨rfl, rfl⟩
theorem kinds_at {k : Int} (h : 1 ≤ k ∧ k ≤ 3) : ∃ W, r33 () = some (W, ()) ∧ inB k W.length = true ∧ W[k.toNat]? = some ⟨(wordB k).toArray⟩ := by
  refine ⟨_, rfl, ?_⟩
  have hk : k = 1 ∨ k = 2 ∨ k = 3 := by omega
  rcases hk with rfl | rfl | rfl <;> exact ⟨rfl, rfl⟩
def bodyS (d : List UInt8) (f : DFea) : List UInt8 ⊕ ((((ByteArray × Int × Unit × List Int × Unit) × Unit) ⊕ (((Unit × List Int × Unit) × Unit) ⊕ Empty))) :=
  if 65536 < (d ++ feaT f).length then .inr (Sum.inl ((⟨(List.toArray [])⟩, ((2 : Int), ((), (toI (d ++ feaT f), ())))), ())) else .inl (d ++ feaT f)
theorem foldE_text {R : Type} {post : (((ByteArray × Int × Unit × List Int × Unit) × Unit) ⊕ (((Unit × List Int × Unit) × Unit) ⊕ Empty)) → R} {no : R} {yes : List UInt8 → R}
    (h1 : ∀ d, post (Sum.inl ((⟨(List.toArray [])⟩, ((2 : Int), ((), (toI d, ())))), ())) = no) (h2 : ∀ d, d.length ≤ 65536 → post (Sum.inr (outS d)) = yes d) :
    ∀ (l : List DFea) (d : List UInt8), d.length ≤ 65536 → post (foldE bodyS (fun d => Sum.inr (outS d)) l d) = if 65536 < (d ++ survT l).length then no else yes (d ++ survT l)
  | [], d, h => by
    simp only [foldE, survT, List.flatMap_nil, List.append_nil]
    rw [if_neg (by omega), h2 d h]
  | f :: l, d, h => by
    simp only [foldE, bodyS]
    have e : d ++ survT (f :: l) = d ++ feaT f ++ survT l := by unfold survT; rw [List.flatMap_cons, List.append_assoc]
    by_cases hc : 65536 < (d ++ feaT f).length
    · simp only [hc, if_true]
      rw [h1, if_pos]
      rw [e, List.length_append]
      omega
    · simp only [hc, if_false]
      rw [foldE_text h1 h2 l _ (by omega), e]
set_option maxRecDepth 100000 in
set_option maxHeartbeats 4000000 in
theorem write_eq (l : List DFea) (hs : small (.slice kFea) l) (h : ∀ f ∈ l, TOk f) (hl : l.length ≤ 200) (h0 : survV l = 0) :
    r6 (l, ()) = some (if 65536 < (survT l).length then (⟨(List.toArray [])⟩, (2, ())) else (⟨(survT l).toArray⟩, (0, ()))) := by
  unfold r6
  have e25 : r25 (l, ()) = some (survV l, ()) := r16_eq l hs
  simp only [e25, h0, Option.bind_some, decide_true, Bool.not_true, cond_false]
  refine (congrArg (fun z => Option.bind z _) (loop_exit embS bodyS (fun _ d => d.length ≤ 65536) (fun d => Sum.inr (outS d)) l (fun i f d hf hI => ?_) (fun d _ => ?_) [] (by simp))).trans ?_
  · have hlt := lt_of_get hf
    have hok := h f (List.mem_of_getElem? hf)
    have hI' : d.length ≤ 65536 := hI
    refine ⟨?_, fun s' hs' => ?_⟩
    · obtain ⟨W, w1, w2, w3⟩ := words_at hok.kind
      have hw := word_len f.2.1
      have l1 := itoa_len hok.id
      have l2 := itoa_len hok.fr
      have l3 := itoa_len hok.upto
      have hh := head_len hok
      have hp := parts_len hok
      have ha := atts_len hok
      simp only [embS, dec_lt hlt, inB_lt hlt, Int.toNat_natCast, hf, cond_true, Option.bind_some, w1, w2, w3, itoa_eq hok.id, itoa_eq hok.fr, itoa_eq hok.upto, ba_app, size_mk]
      simp (disch := (simp only [List.length_append, List.length_cons, List.length_nil]; omega)) only [big, cond_false]
      rw [show wordB f.2.1 ++ [32] ++ Lib.itoa f.1 ++ [32] ++ Lib.itoa f.2.2.2.2.1 ++ [32] ++ Lib.itoa f.2.2.2.2.2.1 = headB f from rfl]
      rw [wstr (headB f ++ [10]) d (by simp only [List.length_append, List.length_cons, List.length_nil]; omega)]
      simp only [Option.bind_some]
      have hd1 : (d ++ (headB f ++ [10])).length ≤ 65700 := by simp only [List.length_append, List.length_cons, List.length_nil]; omega
      refine (congrArg (fun z => Option.bind z _) (loop_fold embS (fun d p => d ++ (partB p ++ [10])) (fun j e => e.length ≤ 65700 + 8802 * j) outS f.2.2.1 (fun j p e hp2 hJ => ?_) (fun e _ => ?_) (d ++ (headB f ++ [10])) (by omega)).1).trans ?_
      · have hjt := lt_of_get hp2
        have hpl := hok.pts p (List.mem_of_getElem? hp2)
        have hpn := part_len hpl
        have hparts := hok.parts
        have hJ' : e.length ≤ 65700 + 8802 * j := hJ
        have hel : e.length ≤ 300000 := by omega
        simp only [embS, dec_lt hjt, inB_lt hjt, Int.toNat_natCast, hp2, cond_true, Option.bind_some]
        rw [wstr [64] e (by simp only [List.length_cons, List.length_nil]; omega), wrapS hjt (by omega)]
        simp only [Option.bind_some]
        have hp1 := hpl.1
        rw [(loop_fold embS (fun d q => d ++ ptB q) (fun k g => g.length ≤ 300001 + 44 * k) outS p (fun k q g hq hK => ?_) (fun g _ => ?_) (e ++ [64]) (by simp only [List.length_append, List.length_cons, List.length_nil]; omega)).1]
        · rw [fold_flat]
          simp only [Option.bind_some, sumE]
          have hg : (e ++ [64] ++ p.flatMap ptB).length ≤ 400000 := by
            have : (partB p).length = 1 + (p.flatMap ptB).length := by unfold partB; simp; omega
            simp only [List.length_append, List.length_cons, List.length_nil]; omega
          rw [wstr [10] _ (by simp only [List.length_cons, List.length_nil]; omega)]
          simp only [Option.bind_some]
          have e1 : e ++ [64] ++ p.flatMap ptB ++ [10] = e ++ (partB p ++ [10]) := by unfold partB; simp
          rw [e1]
          refine ⟨rfl, ?_⟩
          show (e ++ (partB p ++ [10])).length ≤ _
          simp only [List.length_append, List.length_cons, List.length_nil]
          omega
        · have hqt := lt_of_get hq
          have hqi := hpl.2 q (List.mem_of_getElem? hq)
          have hqn := pt_len hqi
          have m1 := itoa_len hqi.1
          have m2 := itoa_len hqi.2
          have hK' : g.length ≤ 300001 + 44 * k := hK
          simp only [embS, dec_lt hqt, inB_lt hqt, Int.toNat_natCast, hq, cond_true, Option.bind_some, itoa_eq hqi.1, itoa_eq hqi.2, ba_app, size_mk]
          simp (disch := (simp only [List.length_append, List.length_cons, List.length_nil]; omega)) only [big, cond_false]
          rw [show [32] ++ Lib.itoa q.1 ++ [44] ++ Lib.itoa q.2.1 = ptB q from rfl, wstr (ptB q) g (by omega), wrapS hqt (by omega)]
          simp only [Option.bind_some]
          refine ⟨by first | trivial | rfl, ?_⟩
          show (g ++ ptB q).length ≤ _
          simp only [List.length_append]
          omega
        · simp only [embS, dec_nlt, cond_false]
      · simp only [embS, dec_nlt, cond_false]
      · rw [fold_flat]
        simp only [Option.bind_some, sumE]
        have hd2 : (d ++ (headB f ++ [10]) ++ f.2.2.1.flatMap (fun p => partB p ++ [10])).length ≤ 300000 := by rw [List.length_append]; omega
        refine (congrArg (fun z => Option.bind z _) (loop_fold embS (fun d p => d ++ (attB p ++ [10])) (fun j e => e.length ≤ 300000 + 56 * j) outS f.2.2.2.1 (fun j a e ha2 hJ => ?_) (fun e _ => ?_) _ (by omega)).1).trans ?_
        · have hjt := lt_of_get ha2
          have hao := hok.att a (List.mem_of_getElem? ha2)
          have han := att_len hao
          have hatts := hok.atts
          have hJ' : e.length ≤ 300000 + 56 * j := hJ
          simp only [embS, dec_lt hjt, inB_lt hjt, Int.toNat_natCast, ha2, cond_true, Option.bind_some]
          have es : r29 ((a.2.1.1, (a.2.1.2.1, (a.2.1.2.2.1, (a.2.1.2.2.2.1, ())))), ()) = some (⟨(showB a.2.1).toArray⟩, ()) := show_eq a.2.1 hao.text hao.num
          have hsl := show_len hao.text hao.num
          have hkey := hao.key
          have ek : a.1 = ⟨(ofS a.1).toArray⟩ := rfl
          simp only [es, Option.bind_some]
          rw [ek]
          have hkl : (ofS a.1).length ≤ 12 := by rw [ofS_len]; exact hkey
          simp only [ba_app, size_mk]
          simp (disch := (simp only [List.length_append, List.length_cons, List.length_nil]; omega)) only [big, cond_false]
          rw [wstr _ e (by simp only [List.length_append, List.length_cons, List.length_nil]; omega), wrapS hjt (by omega)]
          simp only [Option.bind_some]
          refine ⟨rfl, ?_⟩
          show (e ++ _).length ≤ _
          rw [List.length_append]
          rw [List.length_append]
          simp only [List.length_cons, List.length_nil]
          omega
        · simp only [embS, dec_nlt, cond_false]
        · rw [fold_flat]
          simp only [Option.bind_some, sumE]
          have e2 : d ++ (headB f ++ [10]) ++ f.2.2.1.flatMap (fun p => partB p ++ [10]) ++ f.2.2.2.1.flatMap (fun p => attB p ++ [10]) = d ++ feaT f := by rw [feaT_eq]; simp only [List.append_assoc]
          rw [e2, blen, wrapS hlt (by omega)]
          simp only [Option.bind_some, bodyS]
          by_cases hc : 65536 < (d ++ feaT f).length
          · have hd : decide ((65536 : Int) < ((d ++ feaT f).length : Int)) = true := by simp only [decide_eq_true_eq]; omega
            simp only [hd, hc, cond_true, if_true]
            rfl
          · have hd : decide ((65536 : Int) < ((d ++ feaT f).length : Int)) = false := by simp only [decide_eq_false_iff_not]; omega
            simp only [hd, hc, cond_false, if_false]
            rfl
    · unfold bodyS at hs'
      split at hs'
      · cases hs'
      · rename_i hc
        injection hs' with hs'
        subst hs'
        show (d ++ feaT f).length ≤ 65536
        omega
  · simp only [embS, dec_nlt, cond_false]
  · simp only [Option.bind_some]
    refine (foldE_text (no := some (⟨(List.toArray [])⟩, ((2 : Int), ()))) (yes := fun d => some (⟨d.toArray⟩, ((0 : Int), ()))) (fun d => rfl) (fun d hd => ?_) l [] (by simp)).trans ?_
    · simp only [sumE]
      rw [bstr d (by omega)]
      rfl
    · rw [List.nil_append]
      split <;> rfl
end Go.Proofs.YtgabpbnndikheaaGreatDoor.I

/-! A survey as text: the reference's, plainly; the law. -/
namespace Go.Proofs.YtgabpbnndikheaaGreatDoor.I
open Go.RowKit
set_option linter.unusedVariables false
set_option linter.constructorNameAsVariable false
@[reducible] def mkL (s : List (List UInt8)) : List ByteArray := s.map (fun l => (⟨l.toArray⟩ : ByteArray))
theorem mkL_app (s : List (List UInt8)) (x : List UInt8) : mkL s ++ [(⟨x.toArray⟩ : ByteArray)] = mkL (s ++ [x]) := by simp [mkL]
theorem mkL_len (s : List (List UInt8)) : (mkL s).length = s.length := by simp [mkL]
abbrev embL (i : Int) (s : List (List UInt8)) : (List ByteArray × Int × Unit) × Unit := ((mkL s, (i, ())), ())
abbrev outL (s : List (List UInt8)) : ((List ByteArray × Unit) × Unit) ⊕ Empty := Sum.inl ((mkL s, ()), ())
abbrev embT (i : Int) (s : List UInt8) : (ByteArray × Int × Unit) × Unit := ((⟨s.toArray⟩, (i, ())), ())
abbrev outT (s : List UInt8) : ((ByteArray × Unit) × Unit) ⊕ Empty := Sum.inl ((⟨s.toArray⟩, ()), ())
theorem head_join (f : DFea) : Lib.join [wordB f.2.1, Lib.itoa f.1, Lib.itoa f.2.2.2.2.1, Lib.itoa f.2.2.2.2.2.1] [32] = headB f := by
  rw [Lib.join_cons]
  simp [Lib.joinTail, headB]
theorem fold_map {α β : Type} (g : α → β) : ∀ (l : List α) (d : List β), l.foldl (fun d a => d ++ [g a]) d = d ++ l.map g
  | [], d => by simp
  | a :: l, d => by rw [List.foldl_cons, fold_map g l, List.map_cons, List.append_assoc]; rfl
set_option maxRecDepth 100000 in
set_option maxHeartbeats 4000000 in
theorem lines_eq (l : List DFea) (h : ∀ f ∈ l, TOk f) (hl : l.length ≤ 200) : r8 (l, ()) = some (⟨(survT l).toArray⟩, ()) := by
  unfold r8
  refine (congrArg (fun z => Option.bind z _) (loop_fold embL (fun d f => d ++ feaL f) (fun i d => d.length ≤ 29 * i) outL l (fun i f d hf hI => ?_) (fun d _ => ?_) [] (by simp)).1).trans ?_
  · have hlt := lt_of_get hf
    have hok := h f (List.mem_of_getElem? hf)
    have hI' : d.length ≤ 29 * i := hI
    have hdl : d.length ≤ 6000 := by omega
    obtain ⟨W, w1, w2, w3⟩ := kinds_at hok.kind
    have hh := head_len hok
    have hnp := hok.parts
    have hna := hok.atts
    have ej : r32 ((List.cons (ByteArray.mk (wordB f.2.1).toArray) (List.cons (ByteArray.mk (Lib.itoa f.1).toArray) (List.cons (ByteArray.mk (Lib.itoa f.2.2.2.2.1).toArray) (List.cons (ByteArray.mk (Lib.itoa f.2.2.2.2.2.1).toArray) (List.nil))))), ((ByteArray.mk (List.toArray (List.cons (32 : UInt8) (List.nil)))), ())) = some (⟨(headB f).toArray⟩, ()) := by
      have := join_eq [wordB f.2.1, Lib.itoa f.1, Lib.itoa f.2.2.2.2.1, Lib.itoa f.2.2.2.2.2.1] [32] (by simp) (by rw [head_join]; omega)
      rw [head_join] at this
      exact this
    simp only [embL, dec_lt hlt, inB_lt hlt, Int.toNat_natCast, hf, cond_true, Option.bind_some, w1, w2, w3, itoa_eq hok.id, itoa_eq hok.fr, itoa_eq hok.upto, ej]
    rw [wrapS hlt (by omega), fits16 (by rw [mkL_len]; simp only [List.length_cons, List.length_nil]; omega)]
    simp only [cond_true, mkL_app]
    refine ⟨?_, ?_⟩
    · refine (congrArg (fun z => Option.bind z _) (loop_fold embL (fun d p => d ++ [partB p]) (fun j e => e.length ≤ 6001 + j) outL f.2.2.1 (fun j p e hp2 hJ => ?_) (fun e _ => ?_) (d ++ [headB f]) (by simp only [List.length_append, List.length_cons, List.length_nil]; omega)).1).trans ?_
      · have hjt := lt_of_get hp2
        have hpl := hok.pts p (List.mem_of_getElem? hp2)
        have hJ' : e.length ≤ 6001 + j := hJ
        have hp1 := hpl.1
        simp only [embL, dec_lt hjt, inB_lt hjt, Int.toNat_natCast, hp2, cond_true, Option.bind_some]
        rw [wrapS hjt (by omega)]
        rw [(loop_fold embT (fun d q => d ++ ptB q) (fun k g => g.length ≤ 1 + 44 * k) outT p (fun k q g hq hK => ?_) (fun g _ => ?_) [64] (by simp)).1]
        · rw [fold_flat]
          simp only [Option.bind_some, sumE]
          rw [fits16 (by rw [mkL_len]; simp only [List.length_cons, List.length_nil]; omega), mkL_app]
          simp only [cond_true]
          refine ⟨by first | trivial | rfl, ?_⟩
          show (e ++ [partB p]).length ≤ _
          simp only [List.length_append, List.length_cons, List.length_nil]
          omega
        · have hqt := lt_of_get hq
          have hqi := hpl.2 q (List.mem_of_getElem? hq)
          have hqn := pt_len hqi
          have m1 := itoa_len hqi.1
          have m2 := itoa_len hqi.2
          have hK' : g.length ≤ 1 + 44 * k := hK
          simp only [embT, dec_lt hqt, inB_lt hqt, Int.toNat_natCast, hq, cond_true, Option.bind_some, itoa_eq hqi.1, itoa_eq hqi.2, ba_app, size_mk]
          simp (disch := (simp only [List.length_append, List.length_cons, List.length_nil]; omega)) only [big, cond_false]
          rw [wrapS hqt (by omega)]
          refine ⟨by first | trivial | rfl, ?_⟩
          show (g ++ ptB q).length ≤ _
          simp only [List.length_append]
          omega
        · simp only [embT, dec_nlt, cond_false]
      · simp only [embL, dec_nlt, cond_false]
      · rw [fold_map]
        simp only [Option.bind_some, sumE]
        refine (congrArg (fun z => Option.bind z _) (loop_fold embL (fun d p => d ++ [attB p]) (fun j e => e.length ≤ 6021 + j) outL f.2.2.2.1 (fun j a e ha2 hJ => ?_) (fun e _ => ?_) _ (by simp only [List.length_append, List.length_map, List.length_cons, List.length_nil]; omega)).1).trans ?_
        · have hjt := lt_of_get ha2
          have hao := hok.att a (List.mem_of_getElem? ha2)
          have han := att_len hao
          have hJ' : e.length ≤ 6021 + j := hJ
          simp only [embL, dec_lt hjt, inB_lt hjt, Int.toNat_natCast, ha2, cond_true, Option.bind_some]
          have es : r34 ((a.2.1.1, (a.2.1.2.1, (a.2.1.2.2.1, (a.2.1.2.2.2.1, ())))), ()) = some (⟨(showB a.2.1).toArray⟩, ()) := shown_eq a.2.1 hao.text hao.num
          have hsl := show_len hao.text hao.num
          have hkey := hao.key
          have ek : a.1 = ⟨(ofS a.1).toArray⟩ := rfl
          simp only [es, Option.bind_some]
          rw [ek]
          have hkl : (ofS a.1).length ≤ 12 := by rw [ofS_len]; exact hkey
          simp only [ba_app, size_mk]
          simp (disch := (simp only [List.length_append, List.length_cons, List.length_nil]; omega)) only [big, cond_false]
          rw [wrapS hjt (by omega), fits16 (by rw [mkL_len]; simp only [List.length_cons, List.length_nil]; omega), mkL_app]
          simp only [cond_true]
          refine ⟨by first | trivial | rfl, ?_⟩
          show (e ++ [attB a]).length ≤ _
          simp only [List.length_append, List.length_cons, List.length_nil]
          omega
        · simp only [embL, dec_nlt, cond_false]
        · rw [fold_map]
          simp only [Option.bind_some, sumE]
          show some (Sum.inl (embL ((i : Int) + 1) _)) = some (Sum.inl (embL ((i : Int) + 1) _))
          congr 3
          unfold feaL
          simp only [List.append_assoc]
    · show (d ++ feaL f).length ≤ _
      have := feaL_len hok
      simp only [List.length_append]
      omega
  · simp only [embL, dec_nlt, cond_false]
  · rw [fold_flat]
    simp only [Option.bind_some, sumE, List.nil_append]
    have hn : (l.flatMap feaL).length ≤ 5800 := by
      have := flat_len feaL 29 l (fun f hf => feaL_len (h f hf))
      omega
    have hT : linesB (l.flatMap feaL) = survT l := lines_flat feaL l
    have hTl := survT_len h hl
    rw [fits16 (by rw [mkL_len]; omega)]
    have e0 : mkL (l.flatMap feaL) ++ [(⟨List.toArray []⟩ : ByteArray)] = mkL (l.flatMap feaL ++ [[]]) := mkL_app _ []
    have ej := join_eq (l.flatMap feaL ++ [[]]) [10] (by simp only [List.length_append, List.length_cons, List.length_nil]; omega) (by rw [join_lines, hT]; omega)
    rw [join_lines, hT] at ej
    simp only [cond_true, e0]
    have ej' : r32 (mkL (l.flatMap feaL ++ [[]]), ((ByteArray.mk (List.toArray (List.cons (10 : UInt8) (List.nil)))), ())) = some (⟨(survT l).toArray⟩, ()) := ej
    rw [ej']
    rfl
end Go.Proofs.YtgabpbnndikheaaGreatDoor.I

/-! The law SurveyWrites, plainly. -/
namespace Go.Proofs.YtgabpbnndikheaaGreatDoor.I
open Go.RowKit
set_option linter.unusedVariables false
set_option linter.constructorNameAsVariable false
theorem scan_zero (l : List DFea) (p : Int) (h : scan survF (fun f => f.1) 0 p l = 0) : ∀ f ∈ l, featV f = 0 := by
  induction l generalizing p with
  | nil => intro f hf; cases hf
  | cons a l ih =>
    simp only [scan] at h
    by_cases hz : featV a = 0
    · by_cases hc : a.1 ≤ p
      · simp [survF, hz, hc] at h
      · simp only [survF, hz, hc, ne_eq, not_true, if_false] at h
        intro f hf
        rcases List.mem_cons.1 hf with rfl | hf
        · exact hz
        · exact ih _ h f hf
    · simp [survF, hz] at h
theorem surv_zero {l : List DFea} (h : survV l = 0) : l.length ≤ 200 ∧ ∀ f ∈ l, featV f = 0 := by
  unfold survV at h
  by_cases h8 : 200 < l.length
  · simp [h8] at h
  · rw [if_neg h8] at h
    exact ⟨by omega, scan_zero l 0 h⟩
theorem feat_zero {f : DFea} (h : featV f = 0) : partsV f.2.1 f.2.2.1 = 0 ∧ attrsE false f.2.2.2.1 = 0 := by
  unfold featV at h
  by_cases k1 : f.1 < 1
  · simp [k1] at h
  by_cases k2 : 1073741824 < f.1
  · simp [k1, k2] at h
  by_cases k3 : partsV f.2.1 f.2.2.1 = 0
  · by_cases k4 : attrsE false f.2.2.2.1 = 0
    · exact ⟨k3, k4⟩
    · simp [k1, k2, k3, k4] at h
  · simp [k1, k2, k3] at h
theorem parts_zero {kind : Int} {l : List (List DPt)} (h : partsV kind l = 0) : (1 ≤ kind ∧ kind ≤ 3) ∧ l.length ≤ 20 ∧ ∀ p ∈ l, p.length ≤ 200 := by
  unfold partsV partsE at h
  by_cases k1 : kind < 1
  · simp [k1] at h
  by_cases k2 : 3 < kind
  · simp [k1, k2] at h
  by_cases k3 : 20 < l.length
  · simp [k1, k2, k3] at h
  by_cases k4 : l.any (fun p => decide ((200 : Int) < (p.length : Int))) = true
  · simp only [k1, k2, k3, k4, if_true, if_false] at h
    simp at h
  · refine ⟨by omega, by omega, fun p hp => ?_⟩
    rcases Nat.lt_or_ge 200 p.length with hl | hl
    · exact absurd (List.any_eq_true.2 ⟨p, hp, by simp; omega⟩) k4
    · exact hl
theorem name_size {s : ByteArray} (h : nameOk s = true) : s.size ≤ 12 := by
  unfold nameOk at h
  simp at h
  omega
theorem check_size {v : DVal} (h : checkV v = 0) : v.2.2.1.size ≤ 40 := by
  unfold checkV at h
  rcases Nat.lt_or_ge 40 v.2.2.1.size with hl | hl
  · have hl' : (40 : Int) < (v.2.2.1.size : Int) := by omega
    simp only [hl', if_true] at h
    split at h
    · cases h
    split at h
    · cases h
    split at h
    · cases h
    split at h
    · cases h
    split at h
    · cases h
    split at h
    · cases h
    split at h <;> cases h
  · exact hl
theorem attr_scan (l : List DAtt) (p : ByteArray) (h : scan (attF false) (fun a => a.1) 0 p l = 0) : ∀ a ∈ l, nameOk a.1 = true ∧ checkV a.2.1 = 0 := by
  induction l generalizing p with
  | nil => intro f hf; cases hf
  | cons a l ih =>
    simp only [scan] at h
    cases hno : nameOk a.1 with
    | false => simp [attF, hno] at h
    | true =>
      cases hless : strLt p a.1 with
      | false => simp [attF, hno, hless] at h
      | true =>
        by_cases hc : checkV a.2.1 = 0
        · by_cases hk : a.2.1.1 = 0
          · simp [attF, hno, hless, hc, hk] at h
          · simp only [attF, hno, hless, hc, hk, ne_eq, not_true, if_false, and_false, Bool.true_eq_false, reduceCtorEq] at h
            intro b hb
            rcases List.mem_cons.1 hb with rfl | hb
            · exact ⟨hno, hc⟩
            · exact ih _ h b hb
        · simp [attF, hno, hless, hc] at h
theorem attr_zero {l : List DAtt} (h : attrsE false l = 0) : l.length ≤ 8 ∧ ∀ a ∈ l, nameOk a.1 = true ∧ checkV a.2.1 = 0 := by
  unfold attrsE at h
  by_cases h8 : 8 < l.length
  · simp [h8] at h
  · rw [if_neg h8] at h
    exact ⟨by omega, attr_scan l _ h⟩
theorem t_ok {f : DFea} (hs : small kFea f) (h : featV f = 0) : TOk f := by
  obtain ⟨h1, h2⟩ := feat_zero h
  obtain ⟨p0, p1, p2⟩ := parts_zero h1
  obtain ⟨a1, a2⟩ := attr_zero h2
  have hs1 : small (.slice (.slice kPt)) f.2.2.1 := (fea_small hs).1
  have hs2 : small (.slice kAtt) f.2.2.2.1 := (fea_small hs).2
  refine ⟨p1, fun p hp => ⟨p2 p hp, fun q hq => ?_⟩, a1, fun a ha => ?_, p0, wf_in hs.1, wf_in hs.2.2.2.2.1, wf_in hs.2.2.2.2.2.1⟩
  · have hq1 : small kPt q := (hs1.2 p hp).2 q hq
    exact ⟨wf_in hq1.1, wf_in hq1.2.1⟩
  · obtain ⟨n1, n2⟩ := a2 a ha
    have hsa : small kAtt a := hs2.2 a ha
    exact ⟨name_size n1, check_size n2, wf_in hsa.2.1.2.1⟩
def dotF : DFea := (1, (1, ([[((3 : Int), ((4 : Int), ()))]], ([], (0, (9, ()))))))
theorem dot_small : small (.slice kFea) [dotF] := by
  have hm : maxLen = 9223372036854775807 := rfl
  refine ⟨by rw [hm]; simp, fun x hx => ?_⟩
  rcases List.mem_cons.1 hx with rfl | hx
  · refine ⟨rfl, rfl, ?_, ?_, rfl, rfl, trivial⟩
    · refine ⟨by rw [hm]; simp [dotF], fun p hp => ?_⟩
      rcases List.mem_cons.1 hp with rfl | hp
      · refine ⟨by rw [hm]; simp, fun q hq => ?_⟩
        rcases List.mem_cons.1 hq with rfl | hq
        · exact ⟨rfl, rfl, trivial⟩
        · cases hq
      · cases hp
    · exact ⟨by rw [hm]; simp [dotF], fun p hp => by cases hp⟩
  · cases hx
theorem dot_zero : survV [dotF] = 0 := by
  have hp : partsV 1 [[((3 : Int), ((4 : Int), ()))]] = 0 := by
    unfold partsV partsE
    have hq : partE 1 [((3 : Int), ((4 : Int), ()))] = 0 := by decide +kernel
    simp [hq]
  have ha : attrsE false [] = 0 := by
    unfold attrsE
    simp [scan]
  have hf : featV dotF = 0 := by
    unfold featV dotF
    simp only [hp, ha]
    simp
  unfold survV
  simp only [scan, survF, hf]
  simp [dotF]
theorem begun_eq : r5 () = some (true, ()) := by
  unfold r5
  have e24 : r24 () = some ([dotF], ()) := rfl
  have hz : ∀ f ∈ [dotF], TOk f := fun f hf => t_ok (((surv_small dot_small).2) f hf) ((surv_zero dot_zero).2 f hf)
  have e6 := write_eq [dotF] dot_small hz (by simp) dot_zero
  have hT : survT [dotF] = [100, 111, 116, 115, 32, 49, 32, 48, 32, 57, 10, 64, 32, 51, 44, 52, 10] := by decide +kernel
  rw [hT] at e6
  simp only [e24, Option.bind_some, e6]
  rfl
theorem surveyWrites_raw (l : List DFea) (hs : small (.slice kFea) l) : r3 (l, ()) = some (true, ()) := by
  obtain ⟨hl, hb⟩ := surv_small hs
  unfold r3
  have e7 : r7 (l, ()) = some (survV l, ()) := r17_eq l hs
  simp only [begun_eq, e7, Option.bind_some, Bool.not_true, cond_false]
  by_cases h0 : survV l = 0
  · obtain ⟨k1, k2⟩ := surv_zero h0
    have hok : ∀ f ∈ l, TOk f := fun f hf => t_ok (hb f hf) (k2 f hf)
    rw [write_eq l hs hok k1 h0, lines_eq l hok k1]
    simp only [Option.bind_some, h0, decide_true, cond_true, Bool.not_true, cond_false]
    by_cases hc : 65536 < (survT l).length
    · have hd : decide ((65536 : Int) < ((ByteArray.mk (survT l).toArray).size : Int)) = true := by rw [size_mk]; simp; omega
      simp only [hd, cond_true, hc, if_true]
      rfl
    · have hd : decide ((65536 : Int) < ((ByteArray.mk (survT l).toArray).size : Int)) = false := by rw [size_mk]; simp; omega
      simp only [hd, cond_false, hc, if_false, decide_true, cond_true]
  · have e6 : r6 (l, ()) = some (⟨List.toArray []⟩, (survV l, ())) := by
      unfold r6
      have e25 : r25 (l, ()) = some (survV l, ()) := r16_eq l hs
      simp only [e25, Option.bind_some, decide_eq_false h0, Bool.not_false, cond_true]
    rw [e6]
    simp only [Option.bind_some, decide_eq_false h0, cond_false, Bool.not_false, cond_true, decide_true]
end Go.Proofs.YtgabpbnndikheaaGreatDoor.I

/-! The table of the powers of ten, out of a row's list. -/
namespace Go.Proofs.YtgabpbnndikheaaGreatDoor.I
open Go.RowKit
theorem gTab_of_reads {P : Program} {w : World} {n : String} {k : IntKind} {zs : List Int} {t e : TypeId} {m : Nat} (h : Lib.VarReads P w n (Lib.tabData k zs)) (hty : ((P.globalNamed n).bind fun g => (P.globals[g]?).map (·.type)) = some t)
    (ht : P.underlying t = some (.array m e)) (he : P.underlying e = some (.int k)) (hce : P.cellsOf e = 1) (hct : P.cellsOf t = m) : Lib.TabIs P w n k zs := by
  obtain ⟨g', t', cs, fuel, p, hg', ht', hv, hd⟩ := h
  rw [hg', Option.bind_some] at hty
  obtain rfl := Option.some.inj (hty.symm.trans ht')
  unfold Lib.TabIs
  rw [hv, ← Lib.cells_of_tab ht he hce hct hd]
set_option maxRecDepth 100000 in
theorem gG_of_laid {w : World} {l : List (String × DataW Unit)} (h : laidMet Tryz.prog l w) (h3 : ("internal/strconv.uint64pow10", Rows.laid_internal_strconv_uint64pow10) ∈ l) : gG w :=
  gTab_of_reads (zs := Lib.pow10Tab) (Lib.laidMet.reads h h3) (by kernel_rfl) Tryz.underlying131 Tryz.underlying109 (by kernel_rfl) (by kernel_rfl)
end Go.Proofs.YtgabpbnndikheaaGreatDoor.I
