import Derived.Test.YtfmadjkakghohaaGreatDoorEv5
import Derived.Test.YtfmadjkakghohaaGreatDoorRows
import Derived.Lib.LaidU8
namespace Go.Proofs.YtfmadjkakghohaaGreatDoor.I
open Go.RowKit
set_option linter.unusedVariables false
set_option linter.constructorNameAsVariable false
def mn : List Int → Int
  | [] => 0
  | x :: l => l.foldl minI x
def mx : List Int → Int
  | [] => 0
  | x :: l => l.foldl maxI x
theorem mn_snoc {l : List Int} {a : Int} : mn (l ++ [a]) = if l = [] then a else minI (mn l) a := by
  cases l with
  | nil => rfl
  | cons x l => simp [mn, List.foldl_append]
theorem mx_snoc {l : List Int} {a : Int} : mx (l ++ [a]) = if l = [] then a else maxI (mx l) a := by
  cases l with
  | nil => rfl
  | cons x l => simp [mx, List.foldl_append]
theorem min_self (a : Int) : minI a a = a := by unfold minI; split <;> rfl
theorem max_self (a : Int) : maxI a a = a := by unfold maxI; split <;> rfl
theorem clamp_in {x : Int} (h : -1048576 ≤ x ∧ x ≤ 1048576) : maxI (-1048576) (minI x 1048576) = x := by
  unfold maxI minI
  split <;> split <;> omega
def InPt (q : DPt) : Prop := (-1048576 ≤ q.1 ∧ q.1 ≤ 1048576) ∧ (-1048576 ≤ q.2.1 ∧ q.2.1 ≤ 1048576)
theorem clampP (q : DPt) (h : InPt q) : r186 (q, ()) = some (q, ()) := by
  obtain ⟨x, y, ⟨⟩⟩ := q
  unfold r186 r211
  have h1 := clamp_in h.1
  have h2 := clamp_in h.2
  have h3 : IntKind.wrap .i64 (0 - 1048576) = -1048576 := wrap64 (by omega) (by omega)
  simp only at h1 h2
  simp only [Option.bind_some, h3, h1, h2]
@[reducible] def embB (i : Int) (s : Int × Int × Int × Int) : (Int × Int × Int × Int × Int × Unit) × Unit := ((i, (s.1, (s.2.1, (s.2.2.1, (s.2.2.2, ()))))), ())
def bx (P : List DPt) : Int × Int × Int × Int := (mn (P.map (·.1)), mn (P.map (·.2.1)), mx (P.map (·.1)), mx (P.map (·.2.1)))
theorem of_eq (P : List DPt) (hp : ∀ q ∈ P, InPt q) (hl : P.length ≤ 1000000) : r154 (P, ()) = some ((((bx P).1, ((bx P).2.1, ())), (((bx P).2.2.1, ((bx P).2.2.2, ())), ())), ()) := by
  unfold r154
  refine loop_is embB P.length (fun i => bx (P.take i)) (fun s => Sum.inl ((s.1, (s.2.1, (s.2.2.1, (s.2.2.2, ())))), ())) (fun i hi => ?_) ?_ ?_ (0, 0, 0, 0) rfl
  · obtain ⟨q, hq⟩ := get_lt hi
    have hc := clampP q (hp q (List.mem_of_getElem? hq))
    have hc' : r186 ((q.1, (q.2.1, ())), ()) = some (q, ()) := hc
    simp only [embB, dec_lt hi, inB_lt hi, Int.toNat_natCast, hq, cond_true, Option.bind_some, hc']
    rw [wrapS hi (by omega), take_succ hq]
    unfold r187 bx
    simp only [List.map_append, List.map_cons, List.map_nil, mn_snoc, mx_snoc]
    cases i with
    | zero => simp [min_self, max_self]
    | succ i =>
      have hne : ∀ (f : DPt → Int), ((P.take (i + 1)).map f = []) = False := fun f => by
        simp only [eq_iff_iff, iff_false]
        intro h
        have := congrArg List.length h
        rw [List.length_map, List.length_take, List.length_nil] at this
        omega
      have h0 : decide (((i + 1 : Nat) : Int) = 0) = false := by simp; omega
      simp only [hne, if_false, h0, cond_false, Option.bind_some]
  · simp only [embB, dec_nlt, cond_false]
  · rw [List.take_length]
    rfl
@[reducible] def embN (i : Int) (s : Int) : (Int × Int × Unit) × Unit := ((s, (i, ())), ())
@[reducible] def embPts (i : Int) (s : List DPt) : (List DPt × Int × Unit) × Unit := ((s, (i, ())), ())
theorem flat_take {l : List (List DPt)} {i : Nat} {p : List DPt} (h : l[i]? = some p) : (l.take (i + 1)).flatten = (l.take i).flatten ++ p := by
  rw [take_succ h, List.flatten_append]
  simp
theorem flat_le {l : List (List DPt)} {k : Nat} (h : ∀ p ∈ l, p.length ≤ k) : l.flatten.length ≤ k * l.length := by
  induction l with
  | nil => simp
  | cons p l ih =>
    have h1 := h p (by simp)
    have h2 := ih (fun q hq => h q (by simp [hq]))
    rw [List.flatten_cons, List.length_append, List.length_cons, Nat.mul_add]
    omega
theorem flat_le_take {l : List (List DPt)} {k i : Nat} (h : ∀ p ∈ l, p.length ≤ k) : (l.take i).flatten.length ≤ k * l.length := by
  have := flat_le (l := l.take i) (k := k) (fun p hp => h p (List.mem_of_mem_take hp))
  have h2 : (l.take i).length ≤ l.length := List.length_take_le' _ _
  exact Nat.le_trans this (Nat.mul_le_mul_left k h2)
theorem concat_eq (l : List (List DPt)) (hl : l.length ≤ 20) (hp : ∀ p ∈ l, p.length ≤ 200) : r155 (l, ()) = some (l.flatten, ()) := by
  unfold r155
  have hT : ∀ i, (l.take i).flatten.length ≤ 4000 := fun i => by
    have := flat_le_take (l := l) (k := 200) (i := i) hp
    omega
  have hF : l.flatten.length ≤ 4000 := by simpa using hT l.length
  refine loop_is embN l.length (fun i => ((l.take i).flatten.length : Int)) (fun s => Sum.inl ((s, ()), ())) (fun i hi => ?_) ?_ ?_ 0 rfl
  · obtain ⟨p, hq⟩ := get_lt hi
    have hpl := hp p (List.mem_of_getElem? hq)
    have hTi := hT i
    have e1 : IntKind.wrap .i64 ((((l.take i).flatten.length : Nat) : Int) + (p.length : Int)) = (((l.take (i + 1)).flatten.length : Nat) : Int) := by
      rw [flat_take hq, List.length_append, wrap64 (by omega) (by omega)]
      omega
    have e2 : decide ((((l.take (i + 1)).flatten.length : Nat) : Int) < 0) = false := decide_eq_false (by omega)
    simp only [embN, dec_lt hi, inB_lt hi, Int.toNat_natCast, hq, cond_true, Option.bind_some, e1, e2, cond_false]
    rw [wrapS hi (by omega)]
  · simp only [embN, dec_nlt, cond_false]
  · rw [List.take_length]
    have e : decide ((0 : Int) ≤ (l.flatten.length : Int) ∧ (l.flatten.length : Int) * 16 ≤ 140737488355328) = true := decide_eq_true ⟨by omega, by omega⟩
    simp only [sumE, e, cond_true]
    refine loop_is embPts l.length (fun i => (l.take i).flatten) (fun s => Sum.inl ((s, ()), ())) (fun i hi => ?_) ?_ ?_ [] rfl
    · obtain ⟨p, hq⟩ := get_lt hi
      have hpl := hp p (List.mem_of_getElem? hq)
      simp only [embPts, dec_lt hi, inB_lt hi, Int.toNat_natCast, hq, cond_true, Option.bind_some]
      rw [wrapS hi (by omega), flat_take hq, fitsN (by have := hT i; omega) (by omega)]
      rfl
    · simp only [embPts, dec_nlt, cond_false]
    · rw [List.take_length]
      rfl
structure BoxOk (f : DFea) : Prop where
  parts : f.2.2.1.length ≤ 20
  pts : ∀ p ∈ f.2.2.1, p.length ≤ 200
  inp : ∀ p ∈ f.2.2.1, ∀ q ∈ p, InPt q
  some : f.2.2.1.flatten ≠ []
def boxF (f : DFea) : (((Int × Int × Unit) × (Int × Int × Unit) × Unit) × Unit) := let b := bx f.2.2.1.flatten; (((b.1, (b.2.1, ())), ((b.2.2.1, (b.2.2.2, ())), ())), ())
theorem box_eq (f : DFea) (h : BoxOk f) : r116 (f, ()) = some (boxF f) := by
  unfold r116
  have hf : f.2.2.1.flatten.length ≤ 4000 := by
    have := flat_le (l := f.2.2.1) (k := 200) h.pts
    have := h.parts
    omega
  rw [concat_eq f.2.2.1 h.parts h.pts]
  simp only [Option.bind_some]
  rw [of_eq _ (fun q hq => by
    obtain ⟨p, hp, hq⟩ := List.mem_flatten.1 hq
    exact h.inp p hp q hq) (by omega)]
  rfl
theorem min_eq (l : List Int) (hl : l.length ≤ 1000000) (hne : l ≠ []) : r79 (l, ()) = some (mn l, ()) := by
  unfold r79
  have h0 : 0 < l.length := List.length_pos_iff.2 hne
  obtain ⟨x, hx⟩ : ∃ x, l[0]? = some x := get_lt h0
  have e1 : decide ((l.length : Int) < 1) = false := decide_eq_false (by omega)
  have e2 : inB (0 : Int) l.length = true := inB_lt (i := 0) h0
  simp only [e1, cond_false, e2, cond_true, hx, Option.bind_some]
  refine loop_isk embN 1 l.length h0 (fun i => mn (l.take i)) (fun s => Sum.inl ((s, ()), ())) (fun i h5 hi => ?_) ?_ ?_ 1 rfl x (by rw [take_succ hx]; rfl)
  · obtain ⟨a, ha⟩ := get_lt hi
    simp only [embN, dec_lt hi, inB_lt hi, Int.toNat_natCast, ha, cond_true, Option.bind_some]
    rw [wrapS hi (by omega), take_succ ha, mn_snoc, if_neg (fun h => by
      have := congrArg List.length h
      rw [List.length_take, List.length_nil] at this
      omega)]
  · simp only [embN, dec_nlt, cond_false]
  · rw [List.take_length]
    rfl
theorem max_eq (l : List Int) (hl : l.length ≤ 1000000) (hne : l ≠ []) : r80 (l, ()) = some (mx l, ()) := by
  unfold r80
  have h0 : 0 < l.length := List.length_pos_iff.2 hne
  obtain ⟨x, hx⟩ : ∃ x, l[0]? = some x := get_lt h0
  have e1 : decide ((l.length : Int) < 1) = false := decide_eq_false (by omega)
  have e2 : inB (0 : Int) l.length = true := inB_lt (i := 0) h0
  simp only [e1, cond_false, e2, cond_true, hx, Option.bind_some]
  refine loop_isk embN 1 l.length h0 (fun i => mx (l.take i)) (fun s => Sum.inl ((s, ()), ())) (fun i h5 hi => ?_) ?_ ?_ 1 rfl x (by rw [take_succ hx]; rfl)
  · obtain ⟨a, ha⟩ := get_lt hi
    simp only [embN, dec_lt hi, inB_lt hi, Int.toNat_natCast, ha, cond_true, Option.bind_some]
    rw [wrapS hi (by omega), take_succ ha, mx_snoc, if_neg (fun h => by
      have := congrArg List.length h
      rw [List.length_take, List.length_nil] at this
      omega)]
  · simp only [embN, dec_nlt, cond_false]
  · rw [List.take_length]
    rfl
@[reducible] def embXY (i : Int) (s : List Int × List Int) : (List Int × List Int × Int × Unit) × Unit := ((s.1, (s.2, (i, ()))), ())
def xyOf (P : List DPt) : List Int × List Int := (P.map (·.1), P.map (·.2.1))
theorem bound_eq (f : DFea) (h : BoxOk f) : r76 (f, ()) = some (boxF f) := by
  unfold r76
  have hpl := h.parts
  have hT : ∀ i, (f.2.2.1.take i).flatten.length ≤ 4000 := fun i => by
    have := flat_le_take (l := f.2.2.1) (k := 200) (i := i) h.pts
    omega
  have hf : f.2.2.1.flatten.length ≤ 4000 := by
    have := flat_le (l := f.2.2.1) (k := 200) h.pts
    omega
  refine loop_is embXY f.2.2.1.length (fun i => xyOf (f.2.2.1.take i).flatten) (fun s => Sum.inl ((s.1, (s.2, ())), ())) (fun i hi => ?_) ?_ ?_ ([], []) rfl
  · obtain ⟨p, hq⟩ := get_lt hi
    have hp2 := h.pts p (List.mem_of_getElem? hq)
    have hTi := hT i
    simp only [embXY, dec_lt hi, inB_lt hi, Int.toNat_natCast, hq, cond_true, Option.bind_some]
    refine loop_is embXY p.length (fun j => xyOf ((f.2.2.1.take i).flatten ++ p.take j)) (fun s => Sum.inl ((s.1, (s.2, ())), ())) (fun j hj => ?_) ?_ ?_ (xyOf (f.2.2.1.take i).flatten) (by simp)
    · obtain ⟨q, hqj⟩ := get_lt hj
      have hjl : (p.take j).length ≤ 200 := by rw [List.length_take]; omega
      simp only [embXY, dec_lt hj, inB_lt hj, Int.toNat_natCast, hqj, cond_true, Option.bind_some]
      rw [wrapS hj (by omega), fitsN (by simp only [xyOf, List.length_map, List.length_append, List.length_cons, List.length_nil]; omega) (by omega), fitsN (by simp only [xyOf, List.length_map, List.length_append, List.length_cons, List.length_nil]; omega) (by omega), take_succ hqj]
      simp only [cond_true, xyOf, List.map_append, List.map_cons, List.map_nil, List.append_assoc]
    · simp only [embXY, dec_nlt, cond_false]
    · rw [List.take_length, ← flat_take hq, wrapS hi (by omega)]
      rfl
  · simp only [embXY, dec_nlt, cond_false]
  · rw [List.take_length]
    simp only [sumE, xyOf]
    have hne := h.some
    rw [min_eq _ (by rw [List.length_map]; omega) (by simpa using hne), min_eq _ (by rw [List.length_map]; omega) (by simpa using hne), max_eq _ (by rw [List.length_map]; omega) (by simpa using hne), max_eq _ (by rw [List.length_map]; omega) (by simpa using hne)]
    rfl
end Go.Proofs.YtfmadjkakghohaaGreatDoor.I

namespace Go.Proofs.YtfmadjkakghohaaGreatDoor.I
open Go.RowKit
set_option linter.unusedVariables false
set_option linter.unusedSimpArgs false
set_option linter.constructorNameAsVariable false
def bndV (n : Int) : DVal × Int := if 1000000000000 < n ∨ n < -1000000000000 then (zeroV0, 2) else (numV n, 0)
/-- The quotient and the rest, downwards. -/
def dvI (a b : Int) : Int := if Int.tmod a b ≠ 0 ∧ ¬ (a < 0 ↔ b < 0) then Int.tdiv a b - 1 else Int.tdiv a b
def mdI (a b : Int) : Int := if Int.tmod a b ≠ 0 ∧ ¬ (a < 0 ↔ b < 0) then Int.tmod a b + b else Int.tmod a b
def arV (op a b : Int) : DVal × Int :=
  if op = 12 then bndV (a + b) else if op = 13 then bndV (a - b) else if op = 14 then bndV (a * b)
  else if op = 15 then (if b = 0 then (zeroV0, 12) else bndV (dvI a b)) else if op = 16 then (if b = 0 then (zeroV0, 12) else bndV (mdI a b))
  else if op = 20 then bndV (minI a b) else if op = 21 then bndV (maxI a b) else bndV 0
def In12 (a : Int) : Prop := -1000000000000 ≤ a ∧ a ≤ 1000000000000
theorem bnd_p (n : Int) : cond (decide ((1000000000000 : Int) < n)) (some (((0 : Int), ((0 : Int), ((ByteArray.mk (List.toArray (List.nil))), (Bool.false, Unit.unit)))), ((2 : Int), Unit.unit))) (cond (decide (n < (Neg.neg (1000000000000 : Int)))) (some (((0 : Int), ((0 : Int), ((ByteArray.mk (List.toArray (List.nil))), (Bool.false, Unit.unit)))), ((2 : Int), Unit.unit))) (some (((1 : Int), (n, ((ByteArray.mk (List.toArray (List.nil))), (Bool.false, Unit.unit)))), ((0 : Int), Unit.unit)))) = some ((bndV n).1, ((bndV n).2, ())) := by
  unfold bndV
  by_cases h1 : (1000000000000 : Int) < n
  · rw [decide_eq_true h1, if_pos (.inl h1)]; rfl
  · by_cases h2 : n < (Neg.neg (1000000000000 : Int))
    · rw [decide_eq_false h1, decide_eq_true h2, if_pos (.inr h2)]; rfl
    · rw [decide_eq_false h1, decide_eq_false h2, if_neg (fun h => h.elim h1 h2)]; rfl
theorem tdiv_abs {a b : Int} (h : In12 a) : In12 (Int.tdiv a b) := by
  have h1 : (Int.tdiv a b).natAbs = a.natAbs / b.natAbs := Int.natAbs_tdiv a b
  have h2 : a.natAbs / b.natAbs ≤ a.natAbs := Nat.div_le_self _ _
  unfold In12 at h ⊢
  omega
theorem tmod_abs {a b : Int} (h : In12 a) : In12 (Int.tmod a b) := by
  have h1 : (Int.tmod a b).natAbs = a.natAbs % b.natAbs := Int.natAbs_tmod a b
  have h2 : a.natAbs % b.natAbs ≤ a.natAbs := Nat.mod_le _ _
  unfold In12 at h ⊢
  omega
theorem tmod_sign {a b : Int} (h : Int.tmod a b ≠ 0) : (Int.tmod a b < 0 ↔ a < 0) := by
  rcases Int.le_total 0 a with h0 | h0
  · have := Int.tmod_nonneg b h0
    omega
  · have h1 : Int.tmod (-a) b = -Int.tmod a b := Int.neg_tmod a b
    have h2 := Int.tmod_nonneg b (show 0 ≤ -a by omega)
    constructor
    · intro _
      rcases Int.lt_or_eq_of_le h0 with h3 | h3
      · exact h3
      · subst h3; simp at h
    · intro _; omega
theorem wr12 {n : Int} (h1 : -4000000000000 ≤ n) (h2 : n ≤ 4000000000000) : IntKind.wrap .i64 n = n := wrap64 (by omega) (by omega)
theorem abs_max {a : Int} (h : In12 a) : maxI a (IntKind.wrap .i64 ((0 : Int) - a)) = (a.natAbs : Int) := by
  unfold In12 at h
  rw [wr12 (by omega) (by omega)]
  unfold maxI
  split <;> omega
/-- A product that is too large for 64 bits shows itself. -/
theorem mul_big {a b : Int} (ha : In12 a) (hb0 : b ≠ 0) (hbig : 1000000000000 < (a * b).natAbs) (w : Int) (hw1 : ¬ 1000000000000 < w) (hw2 : ¬ w < -1000000000000) : Int.tdiv w b ≠ a := by
  intro h
  have h1 : (Int.tdiv w b).natAbs = w.natAbs / b.natAbs := Int.natAbs_tdiv w b
  rw [h] at h1
  have h2 : (a * b).natAbs = a.natAbs * b.natAbs := Int.natAbs_mul a b
  have h3 : w.natAbs / b.natAbs * b.natAbs ≤ w.natAbs := Nat.div_mul_le_self _ _
  rw [← h1, ← h2] at h3
  omega
end Go.Proofs.YtfmadjkakghohaaGreatDoor.I

namespace Go.Proofs.YtfmadjkakghohaaGreatDoor.I
open Go.RowKit
set_option linter.unusedVariables false
set_option linter.unusedSimpArgs false
set_option linter.constructorNameAsVariable false
theorem bnd_n (n : Int) : cond (decide ((1000000000000 : Int) < n)) (some (((0 : Int), ((0 : Int), ((ByteArray.mk (List.toArray (List.nil))), (Bool.false, Unit.unit)))), ((2 : Int), Unit.unit))) (cond (decide (n < (Neg.neg (1000000000000 : Int)))) (some (((0 : Int), ((0 : Int), ((ByteArray.mk (List.toArray (List.nil))), (Bool.false, Unit.unit)))), ((2 : Int), Unit.unit))) (Option.bind (r117 (n, Unit.unit)) (fun x0 => (some ((x0.1.1, (x0.1.2.1, (x0.1.2.2.1, (x0.1.2.2.2.1, Unit.unit)))), ((0 : Int), Unit.unit)))))) = some ((bndV n).1, ((bndV n).2, ())) := bnd_p n
def arR (p : DVal × Int) : Option (DVal × Int × Unit) := some (p.1, (p.2, ()))
set_option maxHeartbeats 4000000
section
variable {a b : Int} (ha : In12 a) (hb : In12 b)
include ha hb
theorem num12 : r120 ((12 : Int), (a, (b, ()))) = arR (bndV (a + b)) := by
  unfold In12 at ha hb
  unfold r120
  rw [show decide ((12 : Int) = 12) = true from rfl, cond_true]
  simp only [wr12 (n := a + b) (by omega) (by omega)]
  exact bnd_n (a + b)
theorem num13 : r120 ((13 : Int), (a, (b, ()))) = arR (bndV (a - b)) := by
  unfold In12 at ha hb
  unfold r120
  rw [show decide ((13 : Int) = 12) = false from rfl, cond_false, show decide ((13 : Int) = 13) = true from rfl, cond_true]
  simp only [wr12 (n := a - b) (by omega) (by omega)]
  exact bnd_n (a - b)
omit ha hb in
theorem num20 : r120 ((20 : Int), (a, (b, ()))) = arR (bndV (minI a b)) := by
  unfold r120
  rw [show decide ((20 : Int) = 12) = false from rfl, cond_false, show decide ((20 : Int) = 13) = false from rfl, cond_false, show decide ((20 : Int) = 14) = false from rfl, cond_false, show decide ((20 : Int) = 15) = false from rfl, cond_false, show decide ((20 : Int) = 16) = false from rfl, cond_false, show decide ((20 : Int) = 20) = true from rfl, cond_true]
  exact bnd_n (minI a b)
omit ha hb in
theorem num21 : r120 ((21 : Int), (a, (b, ()))) = arR (bndV (maxI a b)) := by
  unfold r120
  rw [show decide ((21 : Int) = 12) = false from rfl, cond_false, show decide ((21 : Int) = 13) = false from rfl, cond_false, show decide ((21 : Int) = 14) = false from rfl, cond_false, show decide ((21 : Int) = 15) = false from rfl, cond_false, show decide ((21 : Int) = 16) = false from rfl, cond_false, show decide ((21 : Int) = 20) = false from rfl, cond_false, show decide ((21 : Int) = 21) = true from rfl, cond_true]
  exact bnd_n (maxI a b)
theorem num14 : r120 ((14 : Int), (a, (b, ()))) = arR (bndV (a * b)) := by
  have hab : (a * b).natAbs = a.natAbs * b.natAbs := Int.natAbs_mul a b
  have ha0 := ha
  unfold In12 at ha hb
  unfold r120
  rw [show decide ((14 : Int) = 12) = false from rfl, cond_false, show decide ((14 : Int) = 13) = false from rfl, cond_false, show decide ((14 : Int) = 14) = true from rfl, cond_true]
  by_cases hz : b = 0
  · subst hz
    rw [show decide ((0 : Int) = 0) = true from rfl]
    simp only [Bool.not_true, cond_false, Int.mul_zero]
    exact bnd_n 0
  rw [decide_eq_false hz]
  simp only [Bool.not_false, cond_true, cond_false]
  by_cases hbig : 1000000000000 < (a * b).natAbs
  · have hbv : bndV (a * b) = (zeroV0, 2) := by unfold bndV; rw [if_pos (by omega)]
    rw [hbv]
    obtain ⟨w, hw⟩ : ∃ w, w = IntKind.wrap .i64 (a * b) := ⟨_, rfl⟩
    rw [← hw]
    by_cases h1 : 1000000000000 < w
    · rw [decide_eq_true h1]
      cases decide (IntKind.wrap .i64 (Int.tdiv w b) = a) <;> rfl
    by_cases h2 : w < -1000000000000
    · have h2' : w < (Neg.neg (1000000000000 : Int)) := h2
      rw [decide_eq_true h2', decide_eq_false h1]
      cases decide (IntKind.wrap .i64 (Int.tdiv w b) = a) <;> rfl
    have hq := tdiv_abs (a := w) (b := b) ⟨by omega, by omega⟩
    unfold In12 at hq
    have hne := mul_big ha0 hz hbig w h1 h2
    rw [wr12 (n := Int.tdiv w b) (by omega) (by omega), decide_eq_false hne]
    rfl
  · have hw : IntKind.wrap .i64 (a * b) = a * b := wr12 (by omega) (by omega)
    have hq : Int.tdiv (a * b) b = a := Int.mul_tdiv_cancel a hz
    simp only [hw, hq, wr12 (n := a) (by omega) (by omega), decide_true, Bool.not_true, cond_false]
    have h1 : decide ((1000000000000 : Int) < a * b) = false := decide_eq_false (by omega)
    have h2 : decide (a * b < (Neg.neg (1000000000000 : Int))) = false := decide_eq_false (by omega)
    have := bnd_n (a * b)
    rw [h1, h2] at this ⊢
    exact this
theorem num15 : r120 ((15 : Int), (a, (b, ()))) = arR (if b = 0 then (zeroV0, 12) else bndV (dvI a b)) := by
  have hq := tdiv_abs (b := b) ha
  unfold In12 at ha hb hq
  unfold r120
  rw [show decide ((15 : Int) = 12) = false from rfl, cond_false, show decide ((15 : Int) = 13) = false from rfl, cond_false, show decide ((15 : Int) = 14) = false from rfl, cond_false, show decide ((15 : Int) = 15) = true from rfl, cond_true, cond_true]
  by_cases hz : b = 0
  · subst hz
    rw [if_pos rfl]
    rfl
  rw [if_neg hz, decide_eq_false hz]
  simp only [cond_false, wr12 (n := Int.tdiv a b) (by omega) (by omega), wr12 (n := Int.tdiv a b - 1) (by omega) (by omega), show decide ((15 : Int) = 16) = false from rfl]
  unfold dvI
  by_cases hm : Int.tmod a b = 0
  · rw [decide_eq_true hm, if_neg (fun h => h.1 hm)]
    exact bnd_n _
  rw [decide_eq_false hm]
  by_cases hs : (a < 0 ↔ b < 0)
  · have e : decide (decide (a < 0) = decide (b < 0)) = true := decide_eq_true (by rw [decide_eq_decide]; exact hs)
    rw [e, if_neg (fun h => h.2 hs)]
    exact bnd_n _
  · have e : decide (decide (a < 0) = decide (b < 0)) = false := decide_eq_false (by rw [decide_eq_decide]; exact hs)
    rw [e, if_pos ⟨hm, hs⟩]
    exact bnd_n _
theorem num16 : r120 ((16 : Int), (a, (b, ()))) = arR (if b = 0 then (zeroV0, 12) else bndV (mdI a b)) := by
  have hq := tdiv_abs (b := b) ha
  have hr := tmod_abs (b := b) ha
  have hrel : b * Int.tdiv a b + Int.tmod a b = a := Int.mul_tdiv_add_tmod a b
  have hc : Int.tdiv a b * b = b * Int.tdiv a b := Int.mul_comm _ _
  have hc1 : (Int.tdiv a b - 1) * b = b * Int.tdiv a b - b := by rw [Int.sub_mul, Int.one_mul, hc]
  unfold In12 at ha hb hq hr
  unfold r120
  rw [show decide ((16 : Int) = 12) = false from rfl, cond_false, show decide ((16 : Int) = 13) = false from rfl, cond_false, show decide ((16 : Int) = 14) = false from rfl, cond_false, show decide ((16 : Int) = 15) = false from rfl, cond_false, show decide ((16 : Int) = 16) = true from rfl, cond_true]
  by_cases hz : b = 0
  · subst hz
    rw [if_pos rfl]
    rfl
  rw [if_neg hz, decide_eq_false hz]
  simp only [cond_false, wr12 (n := Int.tdiv a b) (by omega) (by omega), wr12 (n := Int.tdiv a b - 1) (by omega) (by omega), hc, hc1, wr12 (n := b * Int.tdiv a b) (by omega) (by omega), wr12 (n := b * Int.tdiv a b - b) (by omega) (by omega), wr12 (n := a - b * Int.tdiv a b) (by omega) (by omega), wr12 (n := a - (b * Int.tdiv a b - b)) (by omega) (by omega), show decide ((16 : Int) = 16) = true from rfl, cond_true]
  unfold mdI
  have e1 : a - b * Int.tdiv a b = Int.tmod a b := by omega
  have e2 : a - (b * Int.tdiv a b - b) = Int.tmod a b + b := by omega
  rw [e1, e2]
  by_cases hm : Int.tmod a b = 0
  · rw [decide_eq_true hm, if_neg (fun h => h.1 hm)]
    exact bnd_n _
  rw [decide_eq_false hm]
  by_cases hs : (a < 0 ↔ b < 0)
  · have e : decide (decide (a < 0) = decide (b < 0)) = true := decide_eq_true (by rw [decide_eq_decide]; exact hs)
    rw [e, if_neg (fun h => h.2 hs)]
    exact bnd_n _
  · have e : decide (decide (a < 0) = decide (b < 0)) = false := decide_eq_false (by rw [decide_eq_decide]; exact hs)
    rw [e, if_pos ⟨hm, hs⟩]
    exact bnd_n _
theorem ar12 : r46 ((12 : Int), (a, (b, ()))) = arR (bndV (a + b)) := by
  unfold In12 at ha hb
  unfold r46
  rw [show decide ((12 : Int) = 12) = true from rfl, cond_true]
  simp only [wr12 (n := a + b) (by omega) (by omega)]
  exact bnd_p (a + b)
theorem ar13 : r46 ((13 : Int), (a, (b, ()))) = arR (bndV (a - b)) := by
  unfold In12 at ha hb
  unfold r46
  rw [show decide ((13 : Int) = 12) = false from rfl, cond_false, show decide ((13 : Int) = 13) = true from rfl, cond_true]
  simp only [wr12 (n := a - b) (by omega) (by omega)]
  exact bnd_p (a - b)
theorem ar14 : r46 ((14 : Int), (a, (b, ()))) = arR (bndV (a * b)) := by
  have hab : (a * b).natAbs = a.natAbs * b.natAbs := Int.natAbs_mul a b
  have hma := abs_max ha
  have hmb := abs_max hb
  unfold In12 at ha hb
  unfold r46
  rw [show decide ((14 : Int) = 12) = false from rfl, cond_false, show decide ((14 : Int) = 13) = false from rfl, cond_false, show decide ((14 : Int) = 14) = true from rfl, cond_true]
  simp only [hma, hmb]
  by_cases hz : b = 0
  · subst hz
    simp only [Int.mul_zero]
    exact bnd_p 0
  have hpos : 0 < b.natAbs := Int.natAbs_pos.2 hz
  have e1 : decide ((0 : Int) < ((b.natAbs : Nat) : Int)) = true := decide_eq_true (by omega)
  have e2 : decide (((b.natAbs : Nat) : Int) = 0) = false := decide_eq_false (by omega)
  have hq : Int.tdiv (1000000000000 : Int) ((b.natAbs : Nat) : Int) = ((1000000000000 / b.natAbs : Nat) : Int) := rfl
  have hq2 : 1000000000000 / b.natAbs ≤ 1000000000000 := Nat.div_le_self _ _
  have hq3 : 1000000000000 / b.natAbs < a.natAbs ↔ 1000000000000 < a.natAbs * b.natAbs := Nat.div_lt_iff_lt_mul hpos
  generalize 1000000000000 / b.natAbs = Q at hq hq2 hq3
  rw [e1, cond_true, e2, cond_false, hq, wr12 (n := (Q : Int)) (by omega) (by omega)]
  by_cases hbig : 1000000000000 < (a * b).natAbs
  · have hbv : bndV (a * b) = (zeroV0, 2) := by unfold bndV; rw [if_pos (by omega)]
    have e3 : decide ((Q : Int) < ((a.natAbs : Nat) : Int)) = true := decide_eq_true (by rw [hab] at hbig; have := hq3.2 hbig; omega)
    rw [hbv, e3]
    rfl
  · have e3 : decide ((Q : Int) < ((a.natAbs : Nat) : Int)) = false := decide_eq_false (fun h => hbig (by rw [hab]; exact hq3.1 (by omega)))
    rw [e3, cond_false, wr12 (n := a * b) (by omega) (by omega)]
    exact bnd_p (a * b)
theorem ar15 : r46 ((15 : Int), (a, (b, ()))) = arR (if b = 0 then (zeroV0, 12) else bndV (dvI a b)) := by
  have hq := tdiv_abs (b := b) ha
  have hr := tmod_abs (b := b) ha
  have hrel : b * Int.tdiv a b + Int.tmod a b = a := Int.mul_tdiv_add_tmod a b
  have hsg := tmod_sign (a := a) (b := b)
  unfold In12 at ha hb hq hr
  unfold r46
  rw [show decide ((15 : Int) = 12) = false from rfl, cond_false, show decide ((15 : Int) = 13) = false from rfl, cond_false, show decide ((15 : Int) = 14) = false from rfl, cond_false, show decide ((15 : Int) = 15) = true from rfl, cond_true, cond_true]
  by_cases hz : b = 0
  · subst hz
    rw [if_pos rfl]
    rfl
  have hc1 : b * (Int.tdiv a b - 1) = b * Int.tdiv a b - b := by rw [Int.mul_sub, Int.mul_one]
  have e1 : a - Int.tmod a b = b * Int.tdiv a b := by omega
  have e2 : a - (Int.tmod a b + b) = b * (Int.tdiv a b - 1) := by omega
  have k1 : Int.tdiv (b * Int.tdiv a b) b = Int.tdiv a b := Int.mul_tdiv_cancel_left _ hz
  have k2 : Int.tdiv (b * (Int.tdiv a b - 1)) b = Int.tdiv a b - 1 := Int.mul_tdiv_cancel_left _ hz
  rw [if_neg hz, decide_eq_false hz]
  simp only [cond_false, wr12 (n := Int.tmod a b + b) (by omega) (by omega), e1, e2, wr12 (n := b * Int.tdiv a b) (by omega) (by omega), wr12 (n := b * (Int.tdiv a b - 1)) (by omega) (by omega), k1, k2, wr12 (n := Int.tdiv a b) (by omega) (by omega), wr12 (n := Int.tdiv a b - 1) (by omega) (by omega), show decide ((15 : Int) = 15) = true from rfl, cond_true]
  unfold dvI
  by_cases hm : Int.tmod a b = 0
  · rw [decide_eq_true hm, if_neg (fun h => h.1 hm)]
    exact bnd_p _
  rw [decide_eq_false hm]
  by_cases hs : (a < 0 ↔ b < 0)
  · have e : decide (decide (Int.tmod a b < 0) = decide (b < 0)) = true := decide_eq_true (by rw [decide_eq_decide]; exact (hsg hm).trans hs)
    rw [e, if_neg (fun h => h.2 hs)]
    exact bnd_p _
  · have e : decide (decide (Int.tmod a b < 0) = decide (b < 0)) = false := decide_eq_false (by rw [decide_eq_decide]; exact fun h => hs ((hsg hm).symm.trans h))
    rw [e, if_pos ⟨hm, hs⟩]
    exact bnd_p _
theorem ar16 : r46 ((16 : Int), (a, (b, ()))) = arR (if b = 0 then (zeroV0, 12) else bndV (mdI a b)) := by
  have hr := tmod_abs (b := b) ha
  have hsg := tmod_sign (a := a) (b := b)
  unfold In12 at ha hb hr
  unfold r46
  rw [show decide ((16 : Int) = 12) = false from rfl, cond_false, show decide ((16 : Int) = 13) = false from rfl, cond_false, show decide ((16 : Int) = 14) = false from rfl, cond_false, show decide ((16 : Int) = 15) = false from rfl, cond_false, show decide ((16 : Int) = 16) = true from rfl, cond_true]
  by_cases hz : b = 0
  · subst hz
    rw [if_pos rfl]
    rfl
  rw [if_neg hz, decide_eq_false hz]
  simp only [cond_false, wr12 (n := Int.tmod a b + b) (by omega) (by omega), show decide ((16 : Int) = 15) = false from rfl]
  unfold mdI
  by_cases hm : Int.tmod a b = 0
  · rw [decide_eq_true hm, if_neg (fun h => h.1 hm)]
    exact bnd_p _
  rw [decide_eq_false hm]
  by_cases hs : (a < 0 ↔ b < 0)
  · have e : decide (decide (Int.tmod a b < 0) = decide (b < 0)) = true := decide_eq_true (by rw [decide_eq_decide]; exact (hsg hm).trans hs)
    rw [e, if_neg (fun h => h.2 hs)]
    exact bnd_p _
  · have e : decide (decide (Int.tmod a b < 0) = decide (b < 0)) = false := decide_eq_false (by rw [decide_eq_decide]; exact fun h => hs ((hsg hm).symm.trans h))
    rw [e, if_pos ⟨hm, hs⟩]
    exact bnd_p _
omit ha hb in
theorem ar20 : r46 ((20 : Int), (a, (b, ()))) = arR (bndV (minI a b)) := by
  have h : r79 (List.cons a (List.cons b List.nil), Unit.unit) = some (minI a b, ()) := min_eq [a, b] (by simp) (by simp)
  unfold r46
  rw [show decide ((20 : Int) = 12) = false from rfl, cond_false, show decide ((20 : Int) = 13) = false from rfl, cond_false, show decide ((20 : Int) = 14) = false from rfl, cond_false, show decide ((20 : Int) = 15) = false from rfl, cond_false, show decide ((20 : Int) = 16) = false from rfl, cond_false, show decide ((20 : Int) = 20) = true from rfl, cond_true]
  simp only [h, Option.bind_some]
  exact bnd_p (minI a b)
omit ha hb in
theorem ar21 : r46 ((21 : Int), (a, (b, ()))) = arR (bndV (maxI a b)) := by
  have h : r80 (List.cons a (List.cons b List.nil), Unit.unit) = some (maxI a b, ()) := max_eq [a, b] (by simp) (by simp)
  unfold r46
  rw [show decide ((21 : Int) = 12) = false from rfl, cond_false, show decide ((21 : Int) = 13) = false from rfl, cond_false, show decide ((21 : Int) = 14) = false from rfl, cond_false, show decide ((21 : Int) = 15) = false from rfl, cond_false, show decide ((21 : Int) = 16) = false from rfl, cond_false, show decide ((21 : Int) = 20) = false from rfl, cond_false, show decide ((21 : Int) = 21) = true from rfl, cond_true]
  simp only [h, Option.bind_some]
  exact bnd_p (maxI a b)
theorem number_eq {op : Int} (hop : op = 12 ∨ op = 13 ∨ op = 14 ∨ op = 15 ∨ op = 16 ∨ op = 20 ∨ op = 21) : r120 (op, (a, (b, ()))) = arR (arV op a b) := by
  rcases hop with rfl | rfl | rfl | rfl | rfl | rfl | rfl
  · exact num12 ha hb
  · exact num13 ha hb
  · exact num14 ha hb
  · exact num15 ha hb
  · exact num16 ha hb
  · exact num20
  · exact num21
theorem arith_eq {op : Int} (hop : op = 12 ∨ op = 13 ∨ op = 14 ∨ op = 15 ∨ op = 16 ∨ op = 20 ∨ op = 21) : r46 (op, (a, (b, ()))) = arR (arV op a b) := by
  rcases hop with rfl | rfl | rfl | rfl | rfl | rfl | rfl
  · exact ar12 ha hb
  · exact ar13 ha hb
  · exact ar14 ha hb
  · exact ar15 ha hb
  · exact ar16 ha hb
  · exact ar20
  · exact ar21
end
end Go.Proofs.YtfmadjkakghohaaGreatDoor.I

namespace Go.Proofs.YtfmadjkakghohaaGreatDoor.I
open Go.RowKit
set_option linter.unusedVariables false
set_option linter.unusedSimpArgs false
set_option linter.constructorNameAsVariable false
def textV (s : ByteArray) : DVal := (2, (0, (s, (false, ()))))
def n_id : ByteArray := (ByteArray.mk (List.toArray [105, 100]))
def n_from : ByteArray := (ByteArray.mk (List.toArray [102, 114, 111, 109]))
def n_to : ByteArray := (ByteArray.mk (List.toArray [116, 111]))
def n_parts : ByteArray := (ByteArray.mk (List.toArray [112, 97, 114, 116, 115]))
def n_points : ByteArray := (ByteArray.mk (List.toArray [112, 111, 105, 110, 116, 115]))
def n_west : ByteArray := (ByteArray.mk (List.toArray [119, 101, 115, 116]))
def n_south : ByteArray := (ByteArray.mk (List.toArray [115, 111, 117, 116, 104]))
def n_east : ByteArray := (ByteArray.mk (List.toArray [101, 97, 115, 116]))
def n_north : ByteArray := (ByteArray.mk (List.toArray [110, 111, 114, 116, 104]))
def n_dots : ByteArray := (ByteArray.mk (List.toArray [100, 111, 116, 115]))
def n_lines : ByteArray := (ByteArray.mk (List.toArray [108, 105, 110, 101, 115]))
def n_areas : ByteArray := (ByteArray.mk (List.toArray [97, 114, 101, 97, 115]))
def kindL : List ByteArray := [emptyS, n_dots, n_lines, n_areas]
def fieldV (s : ByteArray) (f : DFea) : DVal :=
  if s = n_id then numV f.1 else if s = n_from then numV f.2.2.2.2.1 else if s = n_to then numV f.2.2.2.2.2.1 else if s = n_parts then numV (f.2.2.1.length : Int) else if s = n_points then numV (f.2.2.1.flatten.length : Int) else if s = n_west then numV (bx f.2.2.1.flatten).1 else if s = n_south then numV (bx f.2.2.1.flatten).2.1 else if s = n_east then numV (bx f.2.2.1.flatten).2.2.1 else if s = n_north then numV (bx f.2.2.1.flatten).2.2.2 else textV (kindL.getD f.2.1.toNat emptyS)
theorem beqS (a b : ByteArray) : (a == b) = decide (a = b) := by
  obtain ⟨x⟩ := a
  obtain ⟨y⟩ := b
  rw [Bool.eq_iff_iff, decide_eq_true_eq]
  show (x == y) = true ↔ _
  rw [beq_iff_eq]
  exact ⟨fun h => by rw [h], fun h => by injection h⟩
theorem cond_dec {α : Type} {p : Prop} [Decidable p] {x y : α} : cond (decide p) x y = if p then x else y := by
  by_cases h : p <;> simp [h]
theorem kind_at {k : Int} (h1 : 1 ≤ k) (h2 : k ≤ 3) : inB k 4 = true ∧ kindL[k.toNat]? = some (kindL.getD k.toNat emptyS) := by
  have key : ∀ n : Fin 4, inB ((n : Nat) : Int) 4 = true ∧ kindL[(n : Nat)]? = some (kindL.getD (n : Nat) emptyS) := by decide +kernel
  have := key ⟨k.toNat, by omega⟩
  simp only at this
  rwa [show ((k.toNat : Nat) : Int) = k by omega] at this
set_option maxHeartbeats 4000000 in
theorem field_eq (s : ByteArray) (f : DFea) (h : BoxOk f) (hk : 1 ≤ f.2.1 ∧ f.2.1 ≤ 3) : r67 (s, (f, ())) = some (fieldV s f, ()) := by
  have hb := box_eq f h
  have hb' : r116 ((f.1, (f.2.1, (f.2.2.1, (f.2.2.2.1, (f.2.2.2.2.1, (f.2.2.2.2.2.1, Unit.unit)))))), Unit.unit) = some (boxF f) := hb
  have hF : f.2.2.1.flatten.length ≤ 4000 := by
    have := flat_le (l := f.2.2.1) (k := 200) h.pts
    have := h.parts
    omega
  have hT : ∀ i, (f.2.2.1.take i).flatten.length ≤ 4000 := fun i => by
    have := flat_le_take (l := f.2.2.1) (k := 200) (i := i) h.pts
    have := h.parts
    omega
  obtain ⟨g1, g2⟩ := kind_at hk.1 hk.2
  unfold r67
  simp only [hb', Option.bind_some]
  refine loop_is embN f.2.2.1.length (fun i => ((f.2.2.1.take i).flatten.length : Int)) (fun s => Sum.inl ((s, ()), ())) (fun i hi => ?_) ?_ ?_ 0 rfl
  · obtain ⟨p, hq⟩ := get_lt hi
    have hpl := h.pts p (List.mem_of_getElem? hq)
    have hp := h.parts
    have hTi := hT i
    have e1 : IntKind.wrap .i64 ((((f.2.2.1.take i).flatten.length : Nat) : Int) + (p.length : Int)) = (((f.2.2.1.take (i + 1)).flatten.length : Nat) : Int) := by
      rw [flat_take hq, List.length_append, wrap64 (by omega) (by omega)]
      omega
    simp only [embN, dec_lt hi, inB_lt hi, Int.toNat_natCast, hq, cond_true, Option.bind_some, e1]
    rw [wrapS hi (by omega)]
  · simp only [embN, dec_nlt, cond_false]
  · rw [List.take_length]
    unfold fieldV
    simp only [sumE, cond_dec]
    by_cases hs0 : s = ByteArray.mk (List.toArray [(105 : UInt8), (100 : UInt8)])
    · rw [if_pos hs0, if_pos (show s = n_id from hs0)]
      rfl
    rw [if_neg hs0, if_neg (show ¬ s = n_id from hs0)]
    by_cases hs1 : s = ByteArray.mk (List.toArray [(102 : UInt8), (114 : UInt8), (111 : UInt8), (109 : UInt8)])
    · rw [if_pos hs1, if_pos (show s = n_from from hs1)]
      rfl
    rw [if_neg hs1, if_neg (show ¬ s = n_from from hs1)]
    by_cases hs2 : s = ByteArray.mk (List.toArray [(116 : UInt8), (111 : UInt8)])
    · rw [if_pos hs2, if_pos (show s = n_to from hs2)]
      rfl
    rw [if_neg hs2, if_neg (show ¬ s = n_to from hs2)]
    by_cases hs3 : s = ByteArray.mk (List.toArray [(112 : UInt8), (97 : UInt8), (114 : UInt8), (116 : UInt8), (115 : UInt8)])
    · rw [if_pos hs3, if_pos (show s = n_parts from hs3)]
      rfl
    rw [if_neg hs3, if_neg (show ¬ s = n_parts from hs3)]
    by_cases hs4 : s = ByteArray.mk (List.toArray [(112 : UInt8), (111 : UInt8), (105 : UInt8), (110 : UInt8), (116 : UInt8), (115 : UInt8)])
    · rw [if_pos hs4, if_pos (show s = n_points from hs4)]
      rfl
    rw [if_neg hs4, if_neg (show ¬ s = n_points from hs4)]
    by_cases hs5 : s = ByteArray.mk (List.toArray [(119 : UInt8), (101 : UInt8), (115 : UInt8), (116 : UInt8)])
    · rw [if_pos hs5, if_pos (show s = n_west from hs5)]
      rfl
    rw [if_neg hs5, if_neg (show ¬ s = n_west from hs5)]
    by_cases hs6 : s = ByteArray.mk (List.toArray [(115 : UInt8), (111 : UInt8), (117 : UInt8), (116 : UInt8), (104 : UInt8)])
    · rw [if_pos hs6, if_pos (show s = n_south from hs6)]
      rfl
    rw [if_neg hs6, if_neg (show ¬ s = n_south from hs6)]
    by_cases hs7 : s = ByteArray.mk (List.toArray [(101 : UInt8), (97 : UInt8), (115 : UInt8), (116 : UInt8)])
    · rw [if_pos hs7, if_pos (show s = n_east from hs7)]
      rfl
    rw [if_neg hs7, if_neg (show ¬ s = n_east from hs7)]
    by_cases hs8 : s = ByteArray.mk (List.toArray [(110 : UInt8), (111 : UInt8), (114 : UInt8), (116 : UInt8), (104 : UInt8)])
    · rw [if_pos hs8, if_pos (show s = n_north from hs8)]
      rfl
    rw [if_neg hs8, if_neg (show ¬ s = n_north from hs8)]
    rw [g1, cond_true]
    show Option.bind (kindL[f.2.1.toNat]?) _ = _
    rw [g2]
    rfl
set_option maxHeartbeats 4000000 in
theorem prop_eq (s : ByteArray) (f : DFea) (h : BoxOk f) (hk : 1 ≤ f.2.1 ∧ f.2.1 ≤ 3) : r42 (s, (f, ())) = some (fieldV s f, ()) := by
  have hb := bound_eq f h
  have hb' : r76 ((f.1, (f.2.1, (f.2.2.1, (f.2.2.2.1, (f.2.2.2.2.1, (f.2.2.2.2.2.1, Unit.unit)))))), Unit.unit) = some (boxF f) := hb
  have hF : f.2.2.1.flatten.length ≤ 4000 := by
    have := flat_le (l := f.2.2.1) (k := 200) h.pts
    have := h.parts
    omega
  have hT : ∀ i, (f.2.2.1.take i).flatten.length ≤ 4000 := fun i => by
    have := flat_le_take (l := f.2.2.1) (k := 200) (i := i) h.pts
    have := h.parts
    omega
  obtain ⟨g1, g2⟩ := kind_at hk.1 hk.2
  unfold r42
  simp only [hb', Option.bind_some]
  refine loop_is embN f.2.2.1.length (fun i => ((f.2.2.1.take i).flatten.length : Int)) (fun s => Sum.inl ((s, ()), ())) (fun i hi => ?_) ?_ ?_ 0 rfl
  · obtain ⟨p, hq⟩ := get_lt hi
    have hpl := h.pts p (List.mem_of_getElem? hq)
    have hp := h.parts
    have hTi := hT i
    have e1 : IntKind.wrap .i64 ((((f.2.2.1.take i).flatten.length : Nat) : Int) + (p.length : Int)) = (((f.2.2.1.take (i + 1)).flatten.length : Nat) : Int) := by
      rw [flat_take hq, List.length_append, wrap64 (by omega) (by omega)]
      omega
    simp only [embN, dec_lt hi, inB_lt hi, Int.toNat_natCast, hq, cond_true, Option.bind_some, e1]
    rw [wrapS hi (by omega)]
  · simp only [embN, dec_nlt, cond_false]
  · rw [List.take_length]
    unfold fieldV
    simp only [sumE, beqS, cond_dec]
    by_cases hs0 : s = ByteArray.mk (List.toArray [(105 : UInt8), (100 : UInt8)])
    · rw [if_pos hs0, if_pos (show s = n_id from hs0)]
      rfl
    rw [if_neg hs0, if_neg (show ¬ s = n_id from hs0)]
    by_cases hs1 : s = ByteArray.mk (List.toArray [(102 : UInt8), (114 : UInt8), (111 : UInt8), (109 : UInt8)])
    · rw [if_pos hs1, if_pos (show s = n_from from hs1)]
      rfl
    rw [if_neg hs1, if_neg (show ¬ s = n_from from hs1)]
    by_cases hs2 : s = ByteArray.mk (List.toArray [(116 : UInt8), (111 : UInt8)])
    · rw [if_pos hs2, if_pos (show s = n_to from hs2)]
      rfl
    rw [if_neg hs2, if_neg (show ¬ s = n_to from hs2)]
    by_cases hs3 : s = ByteArray.mk (List.toArray [(112 : UInt8), (97 : UInt8), (114 : UInt8), (116 : UInt8), (115 : UInt8)])
    · rw [if_pos hs3, if_pos (show s = n_parts from hs3)]
      rfl
    rw [if_neg hs3, if_neg (show ¬ s = n_parts from hs3)]
    by_cases hs4 : s = ByteArray.mk (List.toArray [(112 : UInt8), (111 : UInt8), (105 : UInt8), (110 : UInt8), (116 : UInt8), (115 : UInt8)])
    · rw [if_pos hs4, if_pos (show s = n_points from hs4)]
      rfl
    rw [if_neg hs4, if_neg (show ¬ s = n_points from hs4)]
    by_cases hs5 : s = ByteArray.mk (List.toArray [(119 : UInt8), (101 : UInt8), (115 : UInt8), (116 : UInt8)])
    · rw [if_pos hs5, if_pos (show s = n_west from hs5)]
      rfl
    rw [if_neg hs5, if_neg (show ¬ s = n_west from hs5)]
    by_cases hs6 : s = ByteArray.mk (List.toArray [(115 : UInt8), (111 : UInt8), (117 : UInt8), (116 : UInt8), (104 : UInt8)])
    · rw [if_pos hs6, if_pos (show s = n_south from hs6)]
      rfl
    rw [if_neg hs6, if_neg (show ¬ s = n_south from hs6)]
    by_cases hs7 : s = ByteArray.mk (List.toArray [(101 : UInt8), (97 : UInt8), (115 : UInt8), (116 : UInt8)])
    · rw [if_pos hs7, if_pos (show s = n_east from hs7)]
      rfl
    rw [if_neg hs7, if_neg (show ¬ s = n_east from hs7)]
    by_cases hs8 : s = ByteArray.mk (List.toArray [(110 : UInt8), (111 : UInt8), (114 : UInt8), (116 : UInt8), (104 : UInt8)])
    · rw [if_pos hs8, if_pos (show s = n_north from hs8)]
      rfl
    rw [if_neg hs8, if_neg (show ¬ s = n_north from hs8)]
    have hkd : r77 () = some (kindL, ()) := rfl
    have hln : kindL.length = 4 := rfl
    rw [hkd]
    simp only [Option.bind_some, hln, g1, cond_true, g2]
    rfl
end Go.Proofs.YtfmadjkakghohaaGreatDoor.I

namespace Go.Proofs.YtfmadjkakghohaaGreatDoor.I
open Go.RowKit
set_option linter.unusedVariables false
set_option linter.unusedSimpArgs false
set_option linter.constructorNameAsVariable false
def cmpB (op n : Int) : Bool := if op = 8 then decide (n < 0) else if op = 9 then decide (n ≤ 0) else if op = 10 then decide (0 < n) else decide (0 ≤ n)
instance : DecidableEq DVal := inferInstance
def strictV (op : Int) (l : List DVal) : DVal × Int :=
  if op = 6 ∨ op = 7 then (boolV (decide (decide (l.getD 0 zeroV0 = l.getD 1 zeroV0) = decide (op = 6))), 0)
  else if 8 ≤ op ∧ op ≤ 11 then
    (if (l.getD 0 zeroV0).1 ≠ (l.getD 1 zeroV0).1 ∨ ¬ ((l.getD 0 zeroV0).1 = 1 ∨ (l.getD 0 zeroV0).1 = 2) then (zeroV0, 8) else (boolV (cmpB op (cmpV (l.getD 0 zeroV0) (l.getD 1 zeroV0))), 0))
  else if op = 19 then (if (l.getD 0 zeroV0).1 ≠ 2 then (zeroV0, 8) else (numV ((l.getD 0 zeroV0).2.2.1.size : Int), 0))
  else if l.any (fun v => decide (v.1 ≠ 1)) = true then (zeroV0, 8)
  else if op = 17 then (numV (-(l.getD 0 zeroV0).2.1), 0) else arV op (l.getD 0 zeroV0).2.1 (l.getD 1 zeroV0).2.1
theorem val_eqB (a b : DVal) : (Bool.and (decide (a.1 = b.1)) (Bool.and (decide (a.2.1 = b.2.1)) (Bool.and (decide (a.2.2.1 = b.2.2.1)) (decide (a.2.2.2.1 = b.2.2.2.1))))) = decide (a = b) := by
  obtain ⟨a1, a2, a3, a4, ⟨⟩⟩ := a
  obtain ⟨b1, b2, b3, b4, ⟨⟩⟩ := b
  rw [Bool.eq_iff_iff]
  simp
theorem in0_2 : inB (0 : Int) 2 = true := rfl
theorem in1_2 : inB (1 : Int) 2 = true := rfl
theorem in0_1 : inB (0 : Int) 1 = true := rfl
set_option maxHeartbeats 8000000
theorem st_eq {op : Int} (hop : op = 6 ∨ op = 7) (a b : DVal) : r69 (op, ([a, b], ())) = arR (strictV op [a, b]) := by
  have hS : strictV op [a, b] = (boolV (decide (decide (a = b) = decide (op = 6))), 0) := by unfold strictV; rw [if_pos hop]; rfl
  rw [hS]
  unfold r69 arR
  rcases hop with rfl | rfl <;> simp only [Int.reduceEq, decide_true, decide_false, cond_true, cond_false, List.length_cons, List.length_nil, Nat.reduceAdd, in0_2, in1_2, List.getElem?_cons_zero, List.getElem?_cons_succ, Option.bind_some, val_eqB, r31] <;> rfl
theorem st_cmp {op : Int} (hop : op = 8 ∨ op = 9 ∨ op = 10 ∨ op = 11) (a b : DVal) : r69 (op, ([a, b], ())) = arR (strictV op [a, b]) := by
  have hS : strictV op [a, b] = if a.1 ≠ b.1 ∨ ¬ (a.1 = 1 ∨ a.1 = 2) then (zeroV0, 8) else (boolV (cmpB op (cmpV a b)), 0) := by unfold strictV; rw [if_neg (by omega), if_pos (by omega)]; rfl
  rw [hS]
  have hc : r119 ((a.1, (a.2.1, (a.2.2.1, (a.2.2.2.1, Unit.unit)))), ((b.1, (b.2.1, (b.2.2.1, (b.2.2.2.1, Unit.unit)))), Unit.unit)) = some (cmpV a b, ()) := cmp_eq a b
  unfold r69 arR
  by_cases h1 : a.1 = b.1
  · by_cases h2 : a.1 = 1 ∨ a.1 = 2
    · rw [if_neg (fun h => h.elim (fun h => h h1) (fun h => h h2))]
      rcases h2 with h2 | h2
      · rcases hop with rfl | rfl | rfl | rfl <;> simp only [Int.reduceEq, Int.reduceBEq, decide_true, decide_false, cond_true, cond_false, List.length_cons, List.length_nil, Nat.reduceAdd, in0_2, in1_2, List.getElem?_cons_zero, List.getElem?_cons_succ, Option.bind_some, hc, decide_eq_true h1, decide_eq_true h2, Bool.not_true, Bool.not_false, r31] <;> rfl
      · have e1 : decide (a.1 = 1) = false := decide_eq_false (by rw [h2]; decide)
        rcases hop with rfl | rfl | rfl | rfl <;> simp only [Int.reduceEq, Int.reduceBEq, decide_true, decide_false, cond_true, cond_false, List.length_cons, List.length_nil, Nat.reduceAdd, in0_2, in1_2, List.getElem?_cons_zero, List.getElem?_cons_succ, Option.bind_some, hc, decide_eq_true h1, decide_eq_true h2, e1, Bool.not_true, Bool.not_false, r31] <;> rfl
    · rw [if_pos (.inr h2)]
      have e1 : decide (a.1 = 1) = false := decide_eq_false (fun h => h2 (.inl h))
      have e2 : decide (a.1 = 2) = false := decide_eq_false (fun h => h2 (.inr h))
      rcases hop with rfl | rfl | rfl | rfl <;> simp only [Int.reduceEq, Int.reduceBEq, decide_true, decide_false, cond_true, cond_false, List.length_cons, List.length_nil, Nat.reduceAdd, in0_2, in1_2, List.getElem?_cons_zero, List.getElem?_cons_succ, Option.bind_some, decide_eq_true h1, e1, e2, Bool.not_true, Bool.not_false] <;> rfl
  · rw [if_pos (.inl h1)]
    rcases hop with rfl | rfl | rfl | rfl <;> simp only [Int.reduceEq, Int.reduceBEq, decide_true, decide_false, cond_true, cond_false, List.length_cons, List.length_nil, Nat.reduceAdd, in0_2, in1_2, List.getElem?_cons_zero, List.getElem?_cons_succ, Option.bind_some, decide_eq_false h1, Bool.not_false] <;> rfl
theorem st_len (a : DVal) : r69 ((19 : Int), ([a], ())) = arR (strictV 19 [a]) := by
  have hS : strictV 19 [a] = if a.1 ≠ 2 then (zeroV0, 8) else (numV (a.2.2.1.size : Int), 0) := by unfold strictV; rw [if_neg (by omega), if_neg (by omega), if_pos rfl]; rfl
  rw [hS]
  unfold r69 arR
  by_cases h1 : a.1 = 2
  · rw [if_neg (by simpa using h1)]
    simp only [Int.reduceEq, decide_true, decide_false, cond_true, cond_false, List.length_cons, List.length_nil, Nat.reduceAdd, in0_1, List.getElem?_cons_zero, Option.bind_some, decide_eq_true h1, Bool.not_true, r117]
    rfl
  · rw [if_pos h1]
    simp only [Int.reduceEq, decide_true, decide_false, cond_true, cond_false, List.length_cons, List.length_nil, Nat.reduceAdd, in0_1, List.getElem?_cons_zero, Option.bind_some, decide_eq_false h1, Bool.not_false]
    rfl
theorem st_nums {op : Int} (hop : ¬ (op = 6 ∨ op = 7 ∨ op = 8 ∨ op = 9 ∨ op = 10 ∨ op = 11 ∨ op = 19)) (h611 : ¬ (8 ≤ op ∧ op ≤ 11)) (l : List DVal) (h : l.any (fun v => decide (v.1 ≠ 1)) = true) : strictV op l = (zeroV0, 8) := by
  unfold strictV
  rw [if_neg (by omega), if_neg h611, if_neg (by omega), if_pos h]
theorem st_num {op : Int} (hop : op = 12 ∨ op = 13 ∨ op = 14 ∨ op = 15 ∨ op = 16 ∨ op = 20 ∨ op = 21) (a b : DVal) (ha : a.1 = 1 → In12 a.2.1) (hb : b.1 = 1 → In12 b.2.1) : r69 (op, ([a, b], ())) = arR (strictV op [a, b]) := by
  have hsE : a.1 = 1 → b.1 = 1 → strictV op [a, b] = arV op a.2.1 b.2.1 := fun h1 h2 => by
    unfold strictV
    rw [if_neg (by omega), if_neg (by omega), if_neg (by omega), if_neg (by simp [h1, h2]), if_neg (by omega)]
    rfl
  have hsB : ¬ (a.1 = 1 ∧ b.1 = 1) → strictV op [a, b] = (zeroV0, 8) := fun h => st_nums (by omega) (by omega) [a, b] (by
    simp only [List.any_cons, List.any_nil, Bool.or_false, Bool.or_eq_true, decide_eq_true_eq]
    by_cases h1 : a.1 = 1
    · exact .inr (fun h2 => h ⟨h1, h2⟩)
    · exact .inl h1)
  have hn : a.1 = 1 → b.1 = 1 → r120 (op, (a.2.1, (b.2.1, Unit.unit))) = arR (arV op a.2.1 b.2.1) := fun h1 h2 => number_eq (ha h1) (hb h2) hop
  unfold r69
  rcases hop with rfl | rfl | rfl | rfl | rfl | rfl | rfl
  all_goals
    simp only [Int.reduceEq, decide_true, decide_false, cond_true, cond_false]
    refine bind_loop (Post := fun o => (o = Sum.inl (((8 : Int), ((0 : Int), ((0 : Int), (emptyS, (false, ()))))), ()) ∧ ¬ (a.1 = 1 ∧ b.1 = 1)) ∨ (o = Sum.inr (Sum.inl ((), ())) ∧ a.1 = 1 ∧ b.1 = 1)) (loop_up embI 2 (fun j _ => (1 ≤ j → a.1 = 1) ∧ (2 ≤ j → b.1 = 1)) _ (fun j u hj hI => ?_) (fun u hI => ?_) 0 () (Nat.zero_le _) ⟨fun h => by omega, fun h => by omega⟩) (fun o ho => ?_)
    · have hj2 : j = 0 ∨ j = 1 := by omega
      rcases hj2 with rfl | rfl
      · by_cases hz : a.1 = 1
        · exact .inl ⟨(), by simp [embI, inB, hz]; decide, fun _ => hz, fun h => by omega⟩
        · exact .inr ⟨_, by simp [embI, inB, hz]; rfl, .inl ⟨rfl, fun h => hz h.1⟩⟩
      · have h0 := hI.1 (by omega)
        by_cases hz : b.1 = 1
        · exact .inl ⟨(), by simp [embI, inB, hz]; decide, fun _ => h0, fun _ => hz⟩
        · exact .inr ⟨_, by simp [embI, inB, hz]; rfl, .inl ⟨rfl, fun h => hz h.2⟩⟩
    · exact ⟨_, by simp [embI], .inr ⟨rfl, hI.1 (by omega), hI.2 (by omega)⟩⟩
    · rcases ho with ⟨rfl, h⟩ | ⟨rfl, h1, h2⟩
      · rw [hsB h]
        rfl
      · rw [hsE h1 h2]
        simp only [sumE, List.length_cons, List.length_nil, Nat.reduceAdd, in0_2, in1_2, List.getElem?_cons_zero, List.getElem?_cons_succ, Option.bind_some, cond_true, hn h1 h2, arR]
theorem st_neg (a : DVal) (ha : a.1 = 1 → In12 a.2.1) : r69 ((17 : Int), ([a], ())) = arR (strictV 17 [a]) := by
  have hsE : a.1 = 1 → strictV 17 [a] = (numV (-a.2.1), 0) := fun h1 => by
    unfold strictV
    rw [if_neg (by omega), if_neg (by omega), if_neg (by omega), if_neg (by simp [h1]), if_pos rfl]
    rfl
  have hsB : ¬ a.1 = 1 → strictV 17 [a] = (zeroV0, 8) := fun h => st_nums (by omega) (by omega) [a] (by simp [h])
  unfold r69
  simp only [Int.reduceEq, decide_true, decide_false, cond_true, cond_false]
  refine bind_loop (Post := fun o => (o = Sum.inl (((8 : Int), ((0 : Int), ((0 : Int), (emptyS, (false, ()))))), ()) ∧ ¬ a.1 = 1) ∨ (o = Sum.inr (Sum.inl ((), ())) ∧ a.1 = 1)) (loop_up embI 1 (fun j _ => 1 ≤ j → a.1 = 1) _ (fun j u hj hI => ?_) (fun u hI => ?_) 0 () (Nat.zero_le _) (fun h => by omega)) (fun o ho => ?_)
  · obtain rfl : j = 0 := by omega
    by_cases hz : a.1 = 1
    · exact .inl ⟨(), by simp [embI, inB, hz]; decide, fun _ => hz⟩
    · exact .inr ⟨_, by simp [embI, inB, hz]; rfl, .inl ⟨rfl, hz⟩⟩
  · exact ⟨_, by simp [embI], .inr ⟨rfl, hI (by omega)⟩⟩
  · rcases ho with ⟨rfl, h⟩ | ⟨rfl, h1⟩
    · rw [hsB h]
      rfl
    · rw [hsE h1]
      have hi := ha h1
      unfold In12 at hi
      have hw : IntKind.wrap .i64 ((0 : Int) - a.2.1) = -a.2.1 := by rw [wr12 (by omega) (by omega)]; omega
      simp only [sumE, List.length_cons, List.length_nil, Nat.reduceAdd, in0_1, List.getElem?_cons_zero, Option.bind_some, cond_true, hw, arR, r117]
      rfl
end Go.Proofs.YtfmadjkakghohaaGreatDoor.I

namespace Go.Proofs.YtfmadjkakghohaaGreatDoor.I
open Go.RowKit
set_option linter.unusedVariables false
set_option linter.unusedSimpArgs false
set_option linter.constructorNameAsVariable false
def trE (p : DVal × Int) : Int := if p.2 ≠ 0 then p.2 else if p.1.1 ≠ 3 then 8 else 0
def bOf (p : DVal × Int) : Bool := p.1.2.2.2.1
def nth (l : List (DVal × Int)) (i : Nat) : DVal × Int := l.getD i (zeroV0, 0)
def firstX (l : List (DVal × Int)) : Int := fnz (l.map (·.2))
def opV (f : DFea) (nd : DNode) (l : List (DVal × Int)) : DVal × Int :=
  if nd.1 = 0 then (nd.2.1, 0) else if nd.1 = 1 then (getV f.2.2.2.1 nd.2.2.1, 0) else if nd.1 = 2 then (fieldV nd.2.2.1 f, 0)
  else if nd.1 = 3 ∨ nd.1 = 4 then
    (if trE (nth l 0) ≠ 0 then (zeroV0, trE (nth l 0)) else if bOf (nth l 0) = decide (nd.1 = 3) then (boolV (bOf (nth l 0)), 0)
    else if trE (nth l 1) ≠ 0 then (zeroV0, trE (nth l 1)) else (boolV (bOf (nth l 1)), 0))
  else if nd.1 = 5 then (if trE (nth l 0) ≠ 0 then (zeroV0, trE (nth l 0)) else (boolV (!bOf (nth l 0)), 0))
  else if nd.1 = 18 then (if trE (nth l 0) ≠ 0 then (zeroV0, trE (nth l 0)) else if bOf (nth l 0) = true then nth l 1 else nth l 2)
  else if firstX l ≠ 0 then (zeroV0, firstX l) else strictV nd.1 (l.map (·.1))
mutual
def evV (f : DFea) : DExp → DVal × Int
  | .node nd ks => opV f nd (evL f ks)
def evL (f : DFea) : List DExp → List (DVal × Int)
  | [] => []
  | t :: ts => evV f t :: evL f ts
end
theorem evL_map (f : DFea) : ∀ ks : List DExp, evL f ks = ks.map (evV f)
  | [] => rfl
  | t :: ts => by simp only [evL, List.map_cons, evL_map f ts]
theorem evV_node (f : DFea) (t : DExp) : evV f t = opV f (Tree.val t) ((Tree.kids t).map (evV f)) := by
  cases t
  simp only [evV, evL_map, Tree.val, Tree.kids]
mutual
def VE : DExp → Prop
  | .node nd ks => oneE nd ks.length = 0 ∧ VEL ks
def VEL : List DExp → Prop
  | [] => True
  | t :: ts => VE t ∧ VEL ts
end
theorem VEL_iff : ∀ {ks : List DExp}, VEL ks ↔ ∀ k ∈ ks, VE k
  | [] => by simp [VEL]
  | t :: ts => by simp [VEL, VEL_iff (ks := ts)]
theorem VE_node (t : DExp) : VE t ↔ oneE (Tree.val t) (Tree.kids t).length = 0 ∧ ∀ k ∈ Tree.kids t, VE k := by
  cases t
  simp only [VE, Tree.val, Tree.kids, VEL_iff]
mutual
theorem ve_of : ∀ (t : DExp) (d i : Nat), firstE i (pre d t) = 0 → VE t
  | .node nd ks, d, i, h => by
    simp only [pre, firstE] at h
    by_cases h1 : nodeE i (.node nd ks, d) = 0
    · simp only [h1, ne_eq, not_true_eq_false, if_false] at h
      unfold nodeE at h1
      split at h1
      · cases h1
      · rename_i hd
        rw [if_neg (fun h => hd (.inr h))] at h
        simp only [VE]
        exact ⟨h1, vel_of ks (d + 1) (i + 1) h⟩
    · simp only [h1, ne_eq, not_false_eq_true, if_true] at h
theorem vel_of : ∀ (ks : List DExp) (d i : Nat), firstE i (preL d ks) = 0 → VEL ks
  | [], _, _, _ => by simp only [VEL]
  | t :: ts, d, i, h => by
    simp only [preL] at h
    rw [firstE_app] at h
    by_cases h1 : firstE i (pre d t) = 0
    · simp only [h1, ne_eq, not_true_eq_false, if_false] at h
      simp only [VEL]
      exact ⟨ve_of t d i h1, vel_of ts d _ h⟩
    · simp only [h1, ne_eq, not_false_eq_true, if_true] at h
end
theorem v_bool (b : Bool) : checkV (boolV b) = 0 := by cases b <;> rfl
theorem v_zero : checkV zeroV0 = 0 := rfl
theorem v_num {n : Int} (h : In12 n) : checkV (numV n) = 0 := by
  unfold In12 at h
  unfold checkV numV
  rw [if_neg (by simp), if_neg (by simp), if_neg (by simp), if_neg (by simp [emptyS]), if_neg (by simp), if_neg (by simp; omega), if_neg (by simp; omega), if_neg (by simp [emptyS]; decide)]
  rfl
theorem check_in {v : DVal} (h : checkV v = 0) : In12 v.2.1 ∧ v.2.2.1.size ≤ 40 := by
  unfold checkV at h
  repeat' (split at h; first | cases h | skip)
  all_goals first | (cases h; done) | (unfold In12; omega)
theorem check_bool {v : DVal} (h : checkV v = 0) (h3 : v.1 = 3) : v = boolV v.2.2.2.1 := by
  obtain ⟨k, n, s, b, ⟨⟩⟩ := v
  simp only at h3
  subst h3
  unfold checkV at h
  simp only at h
  by_cases h1 : n = 0
  · by_cases h2 : s = ByteArray.mk (List.toArray [])
    · subst h1 h2; rfl
    · simp [h1, h2] at h
  · simp [h1] at h
theorem v_bnd (n : Int) (h : (bndV n).2 = 0) : checkV (bndV n).1 = 0 := by
  unfold bndV at h ⊢
  split at h
  · cases h
  · rename_i hn
    rw [if_neg hn]
    exact v_num ⟨by omega, by omega⟩
theorem v_ar (op a b : Int) (h : (arV op a b).2 = 0) : checkV (arV op a b).1 = 0 := by
  unfold arV at h ⊢
  by_cases h12 : op = 12
  · simp only [h12, if_true] at h ⊢; exact v_bnd _ h
  by_cases h13 : op = 13
  · simp only [h12, h13, if_true, if_false] at h ⊢; exact v_bnd _ h
  by_cases h14 : op = 14
  · simp only [h12, h13, h14, if_true, if_false] at h ⊢; exact v_bnd _ h
  by_cases h15 : op = 15
  · by_cases hb : b = 0
    · simp [h15, hb] at h
    · simp only [h12, h13, h14, h15, hb, if_true, if_false] at h ⊢; exact v_bnd _ h
  by_cases h16 : op = 16
  · by_cases hb : b = 0
    · simp [h16, hb] at h
    · simp only [h12, h13, h14, h15, h16, hb, if_true, if_false] at h ⊢; exact v_bnd _ h
  by_cases h20 : op = 20
  · simp only [h12, h13, h14, h15, h16, h20, if_true, if_false] at h ⊢; exact v_bnd _ h
  by_cases h21 : op = 21
  · simp only [h12, h13, h14, h15, h16, h20, h21, if_true, if_false] at h ⊢; exact v_bnd _ h
  simp only [h12, h13, h14, h15, h16, h20, h21, if_false] at h ⊢
  exact v_bnd _ h
theorem v_strict (op : Int) (l : List DVal) (hl : ∀ i, checkV (l.getD i zeroV0) = 0) (h : (strictV op l).2 = 0) : checkV (strictV op l).1 = 0 := by
  have h0 := check_in (hl 0)
  unfold strictV at h ⊢
  split
  · exact v_bool _
  split
  · split
    · exact v_zero
    · exact v_bool _
  split
  · split
    · exact v_zero
    · exact v_num ⟨by omega, by omega⟩
  split
  · exact v_zero
  split
  · refine v_num ?_
    have := h0.1
    unfold In12 at this ⊢
    omega
  · rename_i k1 k2 k3 k4 k5
    rw [if_neg k1, if_neg k2, if_neg k3, if_neg k4, if_neg k5] at h
    exact v_ar _ _ _ h
end Go.Proofs.YtfmadjkakghohaaGreatDoor.I

namespace Go.Proofs.YtfmadjkakghohaaGreatDoor.I
open Go.RowKit
set_option linter.unusedVariables false
set_option linter.constructorNameAsVariable false
theorem ring_len (p : List DPt) (hp : p.length ≤ 200) (h : r131 (p, ()) = some (0, ())) : 3 ≤ p.length := by
  rcases Nat.lt_or_ge p.length 3 with h3 | h3
  · exfalso
    unfold r131 at h
    have e1 : decide ((200 : Int) < (p.length : Int)) = false := decide_eq_false (by omega)
    have e2 : decide ((p.length : Int) < 3) = true := decide_eq_true (by omega)
    simp only [e1, e2, cond_false, cond_true] at h
    cases h
  · exact h3
theorem area_len (l : List (List DPt)) (hl : l.length ≤ 20) (hp : ∀ p ∈ l, p.length ≤ 200) (h : r75 (l, ()) = some (0, ())) : ∀ p ∈ l, 3 ≤ p.length := by
  unfold r75 at h
  have e1 : decide ((20 : Int) < (l.length : Int)) = false := decide_eq_false (by omega)
  simp only [e1, cond_false] at h
  obtain ⟨o, h1, h2⟩ := Option.bind_eq_some_iff.1 h
  have hP := loop_post embI l.length (fun i _ => ∀ p ∈ l.take i, 3 ≤ p.length) (fun o => (∃ e, o = Sum.inl ((e, ()), ()) ∧ e ≠ 0) ∨ (o = Sum.inr (Sum.inl ((), ())) ∧ ∀ p ∈ l, 3 ≤ p.length)) () h1 (fun i s hi hs => ?_) (fun s hs => ?_) (by simp)
  · rcases hP with ⟨e, rfl, he⟩ | ⟨rfl, hall⟩
    · simp only [sumE, Option.some.injEq, Prod.mk.injEq] at h2
      exact absurd h2.1 he
    · exact hall
  · obtain ⟨p, hq⟩ := get_lt hi
    have hpl := hp p (List.mem_of_getElem? hq)
    obtain ⟨⟨e, ⟨⟩⟩, he⟩ := t88 p (by omega)
    simp only [embI, dec_lt hi, inB_lt hi, Int.toNat_natCast, hq, cond_true, Option.bind_some, he]
    by_cases hz : e = 0
    · subst hz
      refine .inl ⟨(), ?_, ?_⟩
      · simp only [decide_true, Bool.not_true, cond_false]
        rw [wrapS hi (by omega)]
      · intro q hqm
        rw [take_succ hq] at hqm
        rcases List.mem_append.1 hqm with h5 | h5
        · exact hs q h5
        · rw [List.mem_singleton.1 h5]
          exact ring_len p hpl he
    · refine .inr ⟨_, ?_, .inl ⟨e, rfl, hz⟩⟩
      simp only [decide_eq_false hz, Bool.not_false, cond_true]
  · rw [List.take_length] at hs
    refine ⟨_, ?_, .inr ⟨rfl, hs⟩⟩
    simp only [embI, dec_nlt, cond_false]
/-- A valid feature's parts. -/
structure PartsOk (f : DFea) : Prop where
  kind : 1 ≤ f.2.1 ∧ f.2.1 ≤ 3
  parts : f.2.2.1.length ≤ 20
  pts : ∀ p ∈ f.2.2.1, p.length ≤ 200
  inp : ∀ p ∈ f.2.2.1, ∀ q ∈ p, (-1048576 ≤ q.1 ∧ q.1 ≤ 1048576) ∧ (-1048576 ≤ q.2.1 ∧ q.2.1 ≤ 1048576)
  one : ∀ p ∈ f.2.2.1, p ≠ []
  some : f.2.2.1 ≠ []
theorem findSome_none {α : Type} {F : α → Int} : ∀ {l : List α}, l.findSome? (fun p => if F p = 0 then none else some (F p)) = none → ∀ p ∈ l, F p = 0
  | [], _, p, hp => by cases hp
  | a :: l, h, p, hp => by
    simp only [List.findSome?_cons] at h
    by_cases hz : F a = 0
    · simp only [hz, if_true] at h
      rcases List.mem_cons.1 hp with rfl | hp
      · exact hz
      · exact findSome_none h p hp
    · simp [hz] at h
theorem findSome_ne {α : Type} {F : α → Int} {e : Int} : ∀ {l : List α}, l.findSome? (fun p => if F p = 0 then none else some (F p)) = some e → e ≠ 0
  | [], h => by cases h
  | a :: l, h => by
    simp only [List.findSome?_cons] at h
    by_cases hz : F a = 0
    · simp only [hz, if_true] at h
      exact findSome_ne h
    · simp [hz] at h
      omega
theorem far_in {q : DPt} (h : far q = false) : (-1048576 ≤ q.1 ∧ q.1 ≤ 1048576) ∧ (-1048576 ≤ q.2.1 ∧ q.2.1 ≤ 1048576) := by
  unfold far at h
  simp only [Bool.or_eq_false_iff, decide_eq_false_iff_not] at h
  omega
theorem partE_zero {kind : Int} {p : List DPt} (h : partE kind p = 0) : (∀ q ∈ p, (-1048576 ≤ q.1 ∧ q.1 ≤ 1048576) ∧ (-1048576 ≤ q.2.1 ∧ q.2.1 ≤ 1048576)) ∧ (kind ≤ 2 → 1 ≤ kind → p ≠ []) := by
  unfold partE at h
  split at h
  · cases h
  · rename_i hf
    refine ⟨fun q hq => far_in ?_, fun h1 h2 => ?_⟩
    · cases hfq : far q with
      | false => rfl
      | true => exact absurd (List.any_eq_true.2 ⟨q, hq, hfq⟩) hf
    · rintro rfl
      split at h
      · simp at h
      · split at h
        · simp at h
        · omega
theorem partsV_ok {f : DFea} (hs : small kFea f) (h : partsV f.2.1 f.2.2.1 = 0) : PartsOk f := by
  have h1 := parts_some (kind := f.2.1) (fea_small hs).1
  rw [h] at h1
  unfold partsE at h1
  split at h1
  · cases h1
  split at h1
  · cases h1
  split at h1
  · cases h1
  split at h1
  · cases h1
  split at h1
  · cases h1
  rename_i k1 k2 k3 k4 k5
  have hpts : ∀ p ∈ f.2.2.1, p.length ≤ 200 := fun p hp => by
    rcases Nat.lt_or_ge 200 p.length with h | h
    · exact absurd (List.any_eq_true.2 ⟨p, hp, by simp; omega⟩) k4
    · exact h
  split at h1
  · rename_i e he
    injection h1 with h1
    injection h1 with h1
    exact absurd h1 (findSome_ne he)
  · rename_i hn
    have hz := findSome_none hn
    refine ⟨⟨by omega, by omega⟩, by omega, hpts, fun p hp => (partE_zero (hz p hp)).1, fun p hp => ?_, fun he => k5 (by rw [he]; rfl)⟩
    split at h1
    · rename_i k6
      unfold areaO at h1
      obtain ⟨⟨e, ⟨⟩⟩, h2, h3⟩ := Option.bind_eq_some_iff.1 h1
      injection h3 with h3
      injection h3 with h3
      simp only at h3
      subst h3
      have := area_len f.2.2.1 (by omega) hpts h2 p hp
      rintro rfl
      simp at this
    · exact (partE_zero (hz p hp)).2 (by omega) (by omega)
theorem featV_ok {f : DFea} (hs : small kFea f) (h : featV f = 0) : PartsOk f ∧ 1 ≤ f.1 ∧ f.1 ≤ 1073741824 ∧ attrsE false f.2.2.2.1 = 0 ∧ 0 ≤ f.2.2.2.2.1 ∧ f.2.2.2.2.1 < f.2.2.2.2.2.1 ∧ f.2.2.2.2.2.1 ≤ 1073741824 := by
  unfold featV at h
  split at h
  · cases h
  split at h
  · cases h
  split at h
  · contradiction
  split at h
  · contradiction
  split at h
  · cases h
  split at h
  · cases h
  split at h
  · cases h
  rename_i k1 k2 k3 k4 k5 k6 k7
  have k3 : partsV f.2.1 f.2.2.1 = 0 := by simpa using k3
  have k4 : attrsE false f.2.2.2.1 = 0 := by simpa using k4
  exact ⟨partsV_ok hs k3, by omega, by omega, k4, by omega, by omega, by omega⟩
end Go.Proofs.YtfmadjkakghohaaGreatDoor.I

namespace Go.Proofs.YtfmadjkakghohaaGreatDoor.I
open Go.RowKit
set_option linter.unusedVariables false
set_option linter.unusedSimpArgs false
set_option linter.constructorNameAsVariable false
theorem boxOk_parts {f : DFea} (h : PartsOk f) : BoxOk f := ⟨h.parts, h.pts, h.inp, fun he => by
  obtain ⟨p, ps, hp⟩ := List.exists_cons_of_ne_nil h.some
  have h1 := h.one p (by rw [hp]; simp)
  rw [hp, List.flatten_cons] at he
  exact h1 (List.append_eq_nil_iff.1 he).1⟩
/-- What is used of a valid feature. -/
structure FOk (f : DFea) : Prop where
  box : BoxOk f
  kind : 1 ≤ f.2.1 ∧ f.2.1 ≤ 3
  nums : In12 f.1 ∧ In12 f.2.2.2.2.1 ∧ In12 f.2.2.2.2.2.1
  atts : ∀ a ∈ f.2.2.2.1, checkV a.2.1 = 0
  few : Few f
theorem scan_atts : ∀ (l : List DAtt) (k : ByteArray), scan (attF false) (fun a => a.1) 0 k l = 0 → ∀ a ∈ l, checkV a.2.1 = 0
  | [], _, _, a, ha => by cases ha
  | x :: l, k, h, a, ha => by
    simp only [scan] at h
    split at h
    · rename_i e he
      subst h
      unfold attF at he
      repeat' (split at he)
      all_goals first | (cases he; done) | (injection he with he; contradiction) | skip
    · rename_i he
      rcases List.mem_cons.1 ha with rfl | ha
      · unfold attF at he
        split at he
        · cases he
        split at he
        · cases he
        split at he
        · cases he
        · rename_i hc
          exact Classical.byContradiction (fun hn => hc hn)
      · exact scan_atts l _ h a ha
theorem fOk_of {f : DFea} (hs : small kFea f) (h : featV f = 0) : FOk f := by
  obtain ⟨h1, h2, h3, h4, h5, h6, h7⟩ := featV_ok hs h
  refine ⟨boxOk_parts h1, h1.kind, ⟨⟨by omega, by omega⟩, ⟨by omega, by omega⟩, ⟨by omega, by omega⟩⟩, fun a ha => ?_, ⟨?_, fun p hp => ?_, ?_⟩⟩
  · unfold attrsE at h4
    split at h4
    · cases h4
    · exact scan_atts _ _ h4 a ha
  · have := h1.parts; omega
  · have := h1.pts p hp; omega
  · unfold attrsE at h4
    split at h4
    · cases h4
    · omega
theorem v_get {f : DFea} (hF : FOk f) (key : ByteArray) : checkV (getV f.2.2.2.1 key) = 0 := by
  unfold getV
  split
  · rename_i a ha
    exact hF.atts a (List.mem_of_find?_eq_some ha)
  · rfl
theorem fold_min : ∀ (l : List Int) (x : Int), (-1048576 ≤ x ∧ x ≤ 1048576) → (∀ y ∈ l, -1048576 ≤ y ∧ y ≤ 1048576) → -1048576 ≤ l.foldl minI x ∧ l.foldl minI x ≤ 1048576
  | [], x, h, _ => h
  | y :: l, x, h, k => by
    have hy := k y (by simp)
    exact fold_min l (minI x y) (by unfold minI; split <;> omega) (fun z hz => k z (by simp [hz]))
theorem fold_max : ∀ (l : List Int) (x : Int), (-1048576 ≤ x ∧ x ≤ 1048576) → (∀ y ∈ l, -1048576 ≤ y ∧ y ≤ 1048576) → -1048576 ≤ l.foldl maxI x ∧ l.foldl maxI x ≤ 1048576
  | [], x, h, _ => h
  | y :: l, x, h, k => by
    have hy := k y (by simp)
    exact fold_max l (maxI x y) (by unfold maxI; split <;> omega) (fun z hz => k z (by simp [hz]))
theorem mn_in {l : List Int} (k : ∀ y ∈ l, -1048576 ≤ y ∧ y ≤ 1048576) : -1048576 ≤ mn l ∧ mn l ≤ 1048576 := by
  cases l with
  | nil => exact ⟨by show (-1048576 : Int) ≤ 0; omega, by show (0 : Int) ≤ 1048576; omega⟩
  | cons x l => exact fold_min l x (k x (by simp)) (fun y hy => k y (by simp [hy]))
theorem mx_in {l : List Int} (k : ∀ y ∈ l, -1048576 ≤ y ∧ y ≤ 1048576) : -1048576 ≤ mx l ∧ mx l ≤ 1048576 := by
  cases l with
  | nil => exact ⟨by show (-1048576 : Int) ≤ 0; omega, by show (0 : Int) ≤ 1048576; omega⟩
  | cons x l => exact fold_max l x (k x (by simp)) (fun y hy => k y (by simp [hy]))
theorem v_field {f : DFea} (hF : FOk f) (s : ByteArray) : checkV (fieldV s f) = 0 := by
  have hp := hF.box.parts
  have hl : f.2.2.1.flatten.length ≤ 4000 := by
    have := flat_le (l := f.2.2.1) (k := 200) hF.box.pts
    omega
  have hx : ∀ y ∈ f.2.2.1.flatten.map (·.1), -1048576 ≤ y ∧ y ≤ 1048576 := fun y hy => by
    obtain ⟨q, hq, rfl⟩ := List.mem_map.1 hy
    obtain ⟨p, hp, hq⟩ := List.mem_flatten.1 hq
    exact (hF.box.inp p hp q hq).1
  have hy : ∀ y ∈ f.2.2.1.flatten.map (·.2.1), -1048576 ≤ y ∧ y ≤ 1048576 := fun y hy => by
    obtain ⟨q, hq, rfl⟩ := List.mem_map.1 hy
    obtain ⟨p, hp, hq⟩ := List.mem_flatten.1 hq
    exact (hF.box.inp p hp q hq).2
  have b1 := mn_in hx
  have b2 := mn_in hy
  have b3 := mx_in hx
  have b4 := mx_in hy
  obtain ⟨n1, n2, n3⟩ := hF.nums
  unfold fieldV bx
  split
  · exact v_num n1
  split
  · exact v_num n2
  split
  · exact v_num n3
  split
  · exact v_num ⟨by omega, by omega⟩
  split
  · exact v_num ⟨by omega, by omega⟩
  split
  · exact v_num ⟨by simp only; omega, by simp only; omega⟩
  split
  · exact v_num ⟨by simp only; omega, by simp only; omega⟩
  split
  · exact v_num ⟨by simp only; omega, by simp only; omega⟩
  split
  · exact v_num ⟨by simp only; omega, by simp only; omega⟩
  have key : ∀ n : Fin 4, checkV (textV (kindL.getD (n : Nat) emptyS)) = 0 := by decide +kernel
  exact key ⟨f.2.1.toNat, by have := hF.kind; omega⟩
theorem nth_ok {l : List (DVal × Int)} (hl : ∀ p ∈ l, p.2 = 0 → checkV p.1 = 0) (i : Nat) (h : (nth l i).2 = 0) : checkV (nth l i).1 = 0 := by
  unfold nth at h ⊢
  rw [List.getD_eq_getElem?_getD] at h ⊢
  cases hi : l[i]? with
  | none => rfl
  | some p =>
    rw [hi] at h
    exact hl p (List.mem_of_getElem? hi) h
theorem fnz_all : ∀ {l : List Int}, fnz l = 0 → ∀ x ∈ l, x = 0
  | [], _, x, hx => by cases hx
  | a :: l, h, x, hx => by
    simp only [fnz] at h
    by_cases ha : a = 0
    · rw [if_neg (by simpa using ha)] at h
      rcases List.mem_cons.1 hx with rfl | hx
      · exact ha
      · exact fnz_all h x hx
    · rw [if_pos ha] at h
      exact absurd h ha
theorem opV_ok {f : DFea} (hF : FOk f) (nd : DNode) (l : List (DVal × Int)) (hl : ∀ p ∈ l, p.2 = 0 → checkV p.1 = 0) (h0 : nd.1 = 0 → checkV nd.2.1 = 0) (h : (opV f nd l).2 = 0) : checkV (opV f nd l).1 = 0 := by
  unfold opV at h ⊢
  by_cases k0 : nd.1 = 0
  · rw [if_pos k0]; exact h0 k0
  rw [if_neg k0] at h ⊢
  by_cases k1 : nd.1 = 1
  · rw [if_pos k1]; exact v_get hF _
  rw [if_neg k1] at h ⊢
  by_cases k2 : nd.1 = 2
  · rw [if_pos k2]; exact v_field hF _
  rw [if_neg k2] at h ⊢
  by_cases k3 : nd.1 = 3 ∨ nd.1 = 4
  · rw [if_pos k3]
    repeat' split
    all_goals first | exact v_zero | exact v_bool _
  rw [if_neg k3] at h ⊢
  by_cases k5 : nd.1 = 5
  · rw [if_pos k5]
    repeat' split
    all_goals first | exact v_zero | exact v_bool _
  rw [if_neg k5] at h ⊢
  by_cases k18 : nd.1 = 18
  · rw [if_pos k18] at h ⊢
    split
    · exact v_zero
    · rename_i ht
      rw [if_neg ht] at h
      split
      · rename_i hb
        rw [if_pos hb] at h
        exact nth_ok hl 1 h
      · rename_i hb
        rw [if_neg hb] at h
        exact nth_ok hl 2 h
  rw [if_neg k18] at h ⊢
  by_cases kx : firstX l ≠ 0
  · rw [if_pos kx]; exact v_zero
  rw [if_neg kx] at h ⊢
  refine v_strict _ _ (fun i => ?_) h
  rw [List.getD_eq_getElem?_getD, List.getElem?_map]
  cases hi : l[i]? with
  | none => rfl
  | some p =>
    have hp := List.mem_of_getElem? hi
    exact hl p hp (fnz_all (Classical.not_not.1 kx) _ (List.mem_map.2 ⟨p, hp, rfl⟩))
theorem oneE_val {nd : DNode} {k : Nat} (h : oneE nd k = 0) (h0 : nd.1 = 0) : checkV nd.2.1 = 0 := by
  unfold oneE at h
  split at h
  · cases h
  split at h
  · cases h
  · first | exact h | (rw [if_pos h0] at h; exact h)
theorem ev_ok {f : DFea} (hF : FOk f) : ∀ (n : Nat) (t : DExp), sz t ≤ n → VE t → (evV f t).2 = 0 → checkV (evV f t).1 = 0
  | 0, t, hn, _, _ => by rw [sz_node] at hn; omega
  | n + 1, t, hn, hv, h => by
    rw [evV_node] at h ⊢
    obtain ⟨h1, h2⟩ := (VE_node t).1 hv
    refine opV_ok hF _ _ (fun p hp h0 => ?_) (oneE_val h1) h
    obtain ⟨k, hk, rfl⟩ := List.mem_map.1 hp
    have := szL_mem hk
    rw [sz_node] at hn
    exact ev_ok hF n k (by omega) (h2 k hk) h0
end Go.Proofs.YtfmadjkakghohaaGreatDoor.I

namespace Go.Proofs.YtfmadjkakghohaaGreatDoor.I
open Go.RowKit
set_option linter.unusedVariables false
set_option linter.unusedSimpArgs false
set_option linter.constructorNameAsVariable false
theorem val_node {α : Type} (v : α) (ks : List (Tree α)) : Tree.val (.node v ks) = v := rfl
theorem kids_node {α : Type} (v : α) (ks : List (Tree α)) : Tree.kids (.node v ks) = ks := rfl
theorem oneE_kids {nd : DNode} {k : Nat} (h : oneE nd k = 0) : 0 ≤ nd.1 ∧ nd.1 ≤ 21 ∧ (k : Int) = kidsN nd.1 := by
  unfold oneE at h
  split at h
  · cases h
  · rename_i h1
    split at h
    · cases h
    · rename_i h2
      have h3 : (k : Int) = kidsN nd.1 := Classical.byContradiction (fun hc => h2 (.inl hc))
      refine ⟨?_, ?_, h3⟩
      · rcases Int.lt_or_le nd.1 0 with h4 | h4
        · exact absurd (kids_out (.inl h4)) h1
        · exact h4
      · rcases Int.lt_or_le 21 nd.1 with h4 | h4
        · exact absurd (kids_out (.inr h4)) h1
        · exact h4
/-- An answer and an error: as told, where there is none. -/
def IsV (r : Option (DVal × Int × Unit)) (e : DVal × Int) : Prop := ∃ v, r = some (v, (e.2, ())) ∧ (e.2 = 0 → v = e.1)
def IsB (r : Option (Bool × Int × Unit)) (e : DVal × Int) : Prop := ∃ b, r = some (b, (trE e, ())) ∧ (trE e = 0 → b = bOf e)
theorem trE_of {v : DVal} {e : DVal × Int} (h : e.2 = 0 → v = e.1) : trE (v, e.2) = trE e := by
  unfold trE
  by_cases hz : e.2 = 0
  · rw [h hz]
  · simp only [hz, ne_eq, not_false_eq_true, if_true]
theorem truth_eq (n : Nat) (t : DExp) (f : DFea) (e : DVal × Int) (h : IsV (r30 n (t, (f, ()))) e) : IsB (r68 (n + 1) (t, (f, ()))) e := by
  obtain ⟨v, h1, h2⟩ := h
  have h1 : r30 n (t, ((f.1, (f.2.1, (f.2.2.1, (f.2.2.2.1, (f.2.2.2.2.1, (f.2.2.2.2.2.1, Unit.unit)))))), Unit.unit)) = some (v, (e.2, ())) := h1
  refine ⟨v.2.2.2.1, ?_, fun hz => ?_⟩
  · rw [r68_succ]
    unfold r68B
    simp only [t_eta, h1, Option.bind_some]
    rw [← trE_of h2]
    unfold trE
    by_cases hz : e.2 = 0
    · by_cases h3 : v.1 = 3
      · rw [decide_eq_true hz, decide_eq_true h3]
        simp [hz, h3]
      · rw [decide_eq_true hz, decide_eq_false h3]
        simp [hz, h3]
    · rw [decide_eq_false hz]
      simp [hz]
  · unfold trE at hz
    split at hz
    · contradiction
    · rename_i h3
      rw [h2 (Classical.not_not.1 h3)]
      rfl
theorem isV_mk {r : Option (DVal × Int × Unit)} {e : DVal × Int} (h : r = some (e.1, (e.2, ()))) : IsV r e := ⟨e.1, h, fun _ => rfl⟩
set_option maxHeartbeats 8000000
theorem opV_or {f : DFea} {nd : DNode} {l : List (DVal × Int)} (h : nd.1 = 3 ∨ nd.1 = 4) : opV f nd l = (if trE (nth l 0) ≠ 0 then (zeroV0, trE (nth l 0)) else if bOf (nth l 0) = decide (nd.1 = 3) then (boolV (bOf (nth l 0)), 0)
    else if trE (nth l 1) ≠ 0 then (zeroV0, trE (nth l 1)) else (boolV (bOf (nth l 1)), 0)) := by
  unfold opV
  rw [if_neg (by omega), if_neg (by omega), if_neg (by omega), if_pos h]
theorem of_or (n : Nat) (nd : DNode) (a b : DExp) (f : DFea) (A B : DVal × Int) (hop : nd.1 = 3 ∨ nd.1 = 4) (ha : IsB (r68 n (a, (f, ()))) A) (hb : IsB (r68 n (b, (f, ()))) B) :
    IsV (r30 (n + 1) (.node nd [a, b], (f, ()))) (opV f nd [A, B]) := by
  obtain ⟨p, ha1, ha2⟩ := ha
  obtain ⟨q, hb1, hb2⟩ := hb
  rw [opV_or hop]
  have e0 : nth [A, B] 0 = A := rfl
  have e1 : nth [A, B] 1 = B := rfl
  rw [e0, e1]
  obtain ⟨f1, f2, f3, f4, f5, f6, ⟨⟩⟩ := f
  obtain ⟨op, v0, nm, ⟨⟩⟩ := nd
  simp only at hop
  rw [r30_succ]
  unfold r30B
  by_cases hz : trE A = 0
  · have hpa := ha2 hz
    rw [if_neg (by simpa using hz)]
    rw [hz] at ha1
    rcases hop with rfl | rfl
    · cases hA : bOf A
      · rw [hA] at hpa
        subst hpa
        rw [if_neg (by simp)]
        simp only [val_node, kids_node, Int.reduceEq, decide_true, decide_false, cond_true, cond_false, List.length_cons, List.length_nil, Nat.reduceAdd, in0_2, in1_2, List.getElem?_cons_zero, List.getElem?_cons_succ, Option.bind_some, t_eta, ha1, hb1, r31]
        by_cases hq : trE B = 0
        · rw [if_neg (by simpa using hq)]
          refine ⟨_, by rw [hq], fun _ => ?_⟩
          rw [hb2 hq]
          rfl
        · rw [if_pos hq]
          exact ⟨_, rfl, fun h => absurd h hq⟩
      · rw [hA] at hpa
        subst hpa
        rw [if_pos (by simp)]
        simp only [val_node, kids_node, Int.reduceEq, decide_true, decide_false, cond_true, cond_false, List.length_cons, List.length_nil, Nat.reduceAdd, in0_2, in1_2, List.getElem?_cons_zero, List.getElem?_cons_succ, Option.bind_some, t_eta, ha1, hb1, r31]
        exact ⟨_, rfl, fun _ => rfl⟩
    · cases hA : bOf A
      · rw [hA] at hpa
        subst hpa
        rw [if_pos (by simp)]
        simp only [val_node, kids_node, Int.reduceEq, decide_true, decide_false, cond_true, cond_false, List.length_cons, List.length_nil, Nat.reduceAdd, in0_2, in1_2, List.getElem?_cons_zero, List.getElem?_cons_succ, Option.bind_some, t_eta, ha1, hb1, r31]
        exact ⟨_, rfl, fun _ => rfl⟩
      · rw [hA] at hpa
        subst hpa
        rw [if_neg (by simp)]
        simp only [val_node, kids_node, Int.reduceEq, decide_true, decide_false, cond_true, cond_false, List.length_cons, List.length_nil, Nat.reduceAdd, in0_2, in1_2, List.getElem?_cons_zero, List.getElem?_cons_succ, Option.bind_some, t_eta, ha1, hb1, r31]
        by_cases hq : trE B = 0
        · rw [if_neg (by simpa using hq)]
          refine ⟨_, by rw [hq], fun _ => ?_⟩
          rw [hb2 hq]
          rfl
        · rw [if_pos hq]
          exact ⟨_, rfl, fun h => absurd h hq⟩
  · rw [if_pos hz]
    rcases hop with rfl | rfl
    all_goals
      simp only [val_node, kids_node, Int.reduceEq, decide_true, decide_false, cond_true, cond_false, List.length_cons, List.length_nil, Nat.reduceAdd, in0_2, in1_2, List.getElem?_cons_zero, List.getElem?_cons_succ, Option.bind_some, t_eta, ha1, decide_eq_false hz, r31]
      exact ⟨_, rfl, fun h => absurd h hz⟩
end Go.Proofs.YtfmadjkakghohaaGreatDoor.I

namespace Go.Proofs.YtfmadjkakghohaaGreatDoor.I
open Go.RowKit
set_option linter.unusedVariables false
set_option linter.unusedSimpArgs false
set_option linter.constructorNameAsVariable false
theorem in0_3 : inB (0 : Int) 3 = true := rfl
theorem in1_3 : inB (1 : Int) 3 = true := rfl
theorem in2_3 : inB (2 : Int) 3 = true := rfl
set_option maxHeartbeats 8000000
theorem of_not (n : Nat) (nd : DNode) (a : DExp) (f : DFea) (A : DVal × Int) (hop : nd.1 = 5) (ha : IsB (r68 n (a, (f, ()))) A) :
    IsV (r30 (n + 1) (.node nd [a], (f, ()))) (opV f nd [A]) := by
  obtain ⟨p, ha1, ha2⟩ := ha
  have hS : opV f nd [A] = if trE A ≠ 0 then (zeroV0, trE A) else (boolV (!bOf A), 0) := by
    unfold opV
    rw [if_neg (by omega), if_neg (by omega), if_neg (by omega), if_neg (by omega), if_pos hop]
    rfl
  rw [hS]
  obtain ⟨f1, f2, f3, f4, f5, f6, ⟨⟩⟩ := f
  obtain ⟨op, v0, nm, ⟨⟩⟩ := nd
  simp only at hop
  subst hop
  rw [r30_succ]
  unfold r30B
  simp only [val_node, kids_node, Int.reduceEq, decide_true, decide_false, cond_true, cond_false, List.length_cons, List.length_nil, Nat.reduceAdd, in0_1, in0_2, in1_2, in0_3, in1_3, in2_3, List.getElem?_cons_zero, List.getElem?_cons_succ, Option.bind_some, t_eta, ha1, r31]
  by_cases hz : trE A = 0
  · rw [if_neg (by simpa using hz)]
    refine ⟨_, by rw [hz], fun _ => ?_⟩
    rw [ha2 hz]
    rfl
  · rw [if_pos hz]
    exact ⟨_, rfl, fun h => absurd h hz⟩
theorem of_if (n : Nat) (nd : DNode) (a b c : DExp) (f : DFea) (A B C : DVal × Int) (hop : nd.1 = 18) (ha : IsB (r68 n (a, (f, ()))) A) (hb : IsV (r30 n (b, (f, ()))) B) (hc : IsV (r30 n (c, (f, ()))) C) :
    IsV (r30 (n + 1) (.node nd [a, b, c], (f, ()))) (opV f nd [A, B, C]) := by
  obtain ⟨p, ha1, ha2⟩ := ha
  obtain ⟨q, hb1, hb2⟩ := hb
  obtain ⟨r, hc1, hc2⟩ := hc
  have hS : opV f nd [A, B, C] = if trE A ≠ 0 then (zeroV0, trE A) else if bOf A = true then B else C := by
    unfold opV
    rw [if_neg (by omega), if_neg (by omega), if_neg (by omega), if_neg (by omega), if_neg (by omega), if_pos hop]
    rfl
  rw [hS]
  obtain ⟨f1, f2, f3, f4, f5, f6, ⟨⟩⟩ := f
  obtain ⟨op, v0, nm, ⟨⟩⟩ := nd
  simp only at hop
  subst hop
  rw [r30_succ]
  unfold r30B
  simp only [val_node, kids_node, Int.reduceEq, decide_true, decide_false, cond_true, cond_false, List.length_cons, List.length_nil, Nat.reduceAdd, in0_1, in0_2, in1_2, in0_3, in1_3, in2_3, List.getElem?_cons_zero, List.getElem?_cons_succ, Option.bind_some, t_eta, ha1, hb1, hc1]
  by_cases hz : trE A = 0
  · rw [if_neg (by simpa using hz), decide_eq_true hz, ha2 hz]
    cases hA : bOf A
    · rw [if_neg (by simp)]
      exact ⟨r, rfl, hc2⟩
    · rw [if_pos rfl]
      exact ⟨q, rfl, hb2⟩
  · rw [if_pos hz, decide_eq_false hz]
    exact ⟨_, rfl, fun h => absurd h hz⟩
theorem of_leaf (n : Nat) (nd : DNode) (f : DFea) (hF : FOk f) (hop : nd.1 = 0 ∨ nd.1 = 1 ∨ nd.1 = 2) (ks : List DExp) :
    IsV (r30 (n + 1) (.node nd ks, (f, ()))) (opV f nd (ks.map (evV f))) := by
  have hg := get_eq f nd.2.2.1 hF.few
  have hp := field_eq nd.2.2.1 f hF.box hF.kind
  generalize ks.map (evV f) = L
  obtain ⟨f1, f2, f3, f4, f5, f6, ⟨⟩⟩ := f
  obtain ⟨op, v0, nm, ⟨⟩⟩ := nd
  simp only at hop hg hp
  rw [r30_succ]
  unfold r30B opV
  rcases hop with rfl | rfl | rfl
  · simp only [val_node, kids_node, Int.reduceEq, decide_true, decide_false, cond_true, cond_false, List.length_cons, List.length_nil, Nat.reduceAdd, in0_1, in0_2, in1_2, in0_3, in1_3, in2_3, List.getElem?_cons_zero, List.getElem?_cons_succ, Option.bind_some, t_eta]
    exact ⟨_, rfl, fun _ => rfl⟩
  · simp only [val_node, kids_node, Int.reduceEq, decide_true, decide_false, cond_true, cond_false, List.length_cons, List.length_nil, Nat.reduceAdd, in0_1, in0_2, in1_2, in0_3, in1_3, in2_3, List.getElem?_cons_zero, List.getElem?_cons_succ, Option.bind_some, t_eta, hg]
    exact ⟨_, rfl, fun _ => rfl⟩
  · simp only [val_node, kids_node, Int.reduceEq, decide_true, decide_false, cond_true, cond_false, List.length_cons, List.length_nil, Nat.reduceAdd, in0_1, in0_2, in1_2, in0_3, in1_3, in2_3, List.getElem?_cons_zero, List.getElem?_cons_succ, Option.bind_some, t_eta, hp]
    exact ⟨_, rfl, fun _ => rfl⟩
@[reducible] def embVs (i : Int) (s : List DVal) : (List DVal × Int × Unit) × Unit := ((s, (i, ())), ())
theorem fnz_take {l : List Int} {i : Nat} {a : Int} (h : l[i]? = some a) (h0 : ∀ x ∈ l.take i, x = 0) (ha : a ≠ 0) : fnz l = a := by
  induction l generalizing i with
  | nil => simp at h
  | cons x l ih =>
    cases i with
    | zero =>
      simp at h
      subst h
      simp only [fnz, if_pos ha]
    | succ i =>
      have hx : x = 0 := h0 x (by simp)
      simp only [fnz, hx, ne_eq, not_true_eq_false, if_false]
      exact ih (by simpa using h) (fun y hy => h0 y (by simp [hy]))
theorem fnz_zero {l : List Int} (h0 : ∀ x ∈ l, x = 0) : fnz l = 0 := by
  induction l with
  | nil => rfl
  | cons x l ih =>
    have hx : x = 0 := h0 x (by simp)
    simp only [fnz, hx, ne_eq, not_true_eq_false, if_false]
    exact ih (fun y hy => h0 y (by simp [hy]))
theorem opV_strict {f : DFea} {nd : DNode} {l : List (DVal × Int)} (h : ¬ (nd.1 = 0 ∨ nd.1 = 1 ∨ nd.1 = 2 ∨ nd.1 = 3 ∨ nd.1 = 4 ∨ nd.1 = 5 ∨ nd.1 = 18)) : opV f nd l = if firstX l ≠ 0 then (zeroV0, firstX l) else strictV nd.1 (l.map (·.1)) := by
  unfold opV
  rw [if_neg (by omega), if_neg (by omega), if_neg (by omega), if_neg (by omega), if_neg (by omega), if_neg (by omega)]
theorem of_strict (n : Nat) (nd : DNode) (ks : List DExp) (f : DFea) (hop : ¬ (nd.1 = 0 ∨ nd.1 = 1 ∨ nd.1 = 2 ∨ nd.1 = 3 ∨ nd.1 = 4 ∨ nd.1 = 5 ∨ nd.1 = 18)) (hl : ks.length ≤ 3) (ih : ∀ k ∈ ks, IsV (r30 n (k, (f, ()))) (evV f k))
    (hst : firstX (ks.map (evV f)) = 0 → r69 (nd.1, ((ks.map (evV f)).map (·.1), ())) = arR (strictV nd.1 ((ks.map (evV f)).map (·.1)))) :
    IsV (r30 (n + 1) (.node nd ks, (f, ()))) (opV f nd (ks.map (evV f))) := by
  rw [opV_strict hop]
  obtain ⟨op, v0, nm, ⟨⟩⟩ := nd
  simp only at hop hst ⊢
  have c0 : ¬ op = 0 := by omega
  have c1 : ¬ op = 1 := by omega
  have c2 : ¬ op = 2 := by omega
  have c3 : ¬ op = 3 := by omega
  have c4 : ¬ op = 4 := by omega
  have c5 : ¬ op = 5 := by omega
  have c18 : ¬ op = 18 := by omega
  rw [r30_succ]
  unfold r30B
  simp only [val_node, kids_node, c0, c1, c2, c3, c4, c5, c18, decide_false, cond_false]
  refine bind_loopQ (fun r => IsV r (if firstX (ks.map (evV f)) ≠ 0 then (zeroV0, firstX (ks.map (evV f))) else strictV op ((ks.map (evV f)).map (·.1))))
    (loop_up embVs ks.length (fun j s => s = ((ks.take j).map (evV f)).map (·.1) ∧ ∀ x ∈ ((ks.take j).map (evV f)).map (·.2), x = 0) (fun o => (o = Sum.inl ((firstX (ks.map (evV f)), ((0 : Int), ((0 : Int), (emptyS, (false, ()))))), ()) ∧ firstX (ks.map (evV f)) ≠ 0) ∨ (o = Sum.inr (Sum.inl (((ks.map (evV f)).map (·.1), ()), ())) ∧ firstX (ks.map (evV f)) = 0)) (fun j s hj hI => ?_) (fun s hI => ?_) 0 [] (Nat.zero_le _) ⟨by simp, by simp⟩) (fun o ho => ?_)
  · obtain ⟨rfl, hI⟩ := hI
    obtain ⟨k, hk⟩ := get_lt hj
    obtain ⟨v, h1, h2⟩ := ih k (List.mem_of_getElem? hk)
    have h1 : r30 n (k, ((f.1, (f.2.1, (f.2.2.1, (f.2.2.2.1, (f.2.2.2.2.1, (f.2.2.2.2.2.1, Unit.unit)))))), Unit.unit)) = some (v, ((evV f k).2, ())) := h1
    have q1 : (j : Int) < (ks.length : Int) := by omega
    simp only [embVs, q1, decide_true, inB_lt hj, Int.toNat_natCast, hk, cond_true, Option.bind_some, t_eta, h1]
    by_cases hz : (evV f k).2 = 0
    · have hft : fits ((((ks.take j).map (evV f)).map (·.1)).length + [((v.1, (v.2.1, (v.2.2.1, (v.2.2.2.1, Unit.unit)))) : DVal)].length) 40 = true := by
        unfold fits
        simp
        omega
      refine .inl ⟨_, by rw [decide_eq_true hz, hft]; simp only [Bool.not_true, cond_false, cond_true]; rw [wrapS hj (by omega)], ?_, fun x hx => ?_⟩
      · rw [take_succ hk, h2 hz]
        simp
      · rw [take_succ hk] at hx
        simp only [List.map_append, List.map_cons, List.map_nil, List.mem_append, List.mem_singleton] at hx
        rcases hx with hx | rfl
        · exact hI x (by simpa using hx)
        · exact hz
    · have hfx : firstX (ks.map (evV f)) = (evV f k).2 := by
        unfold firstX
        refine fnz_take (i := j) (by simp [hk]) (fun x hx => hI x ?_) hz
        rw [List.map_take, List.map_take]
        exact hx
      refine .inr ⟨_, by rw [decide_eq_false hz]; rfl, .inl ⟨?_, by rw [hfx]; exact hz⟩⟩
      rw [hfx]
      rfl
  · obtain ⟨rfl, hI⟩ := hI
    rw [List.take_length] at hI ⊢
    have q2 : ¬ ((ks.length : Int) < (ks.length : Int)) := by omega
    exact ⟨_, by simp only [embVs, q2, decide_false, cond_false], .inr ⟨rfl, fnz_zero hI⟩⟩
  · rcases ho with ⟨rfl, h⟩ | ⟨rfl, h⟩
    · rw [if_pos h]
      exact ⟨_, rfl, fun h0 => absurd h0 h⟩
    · rw [if_neg (by simpa using h)]
      have hst := hst h
      refine isV_mk ?_
      simp only [sumE, hst, arR, Option.bind_some]
end Go.Proofs.YtfmadjkakghohaaGreatDoor.I

namespace Go.Proofs.YtfmadjkakghohaaGreatDoor.I
open Go.RowKit
set_option linter.unusedVariables false
set_option linter.unusedSimpArgs false
set_option linter.constructorNameAsVariable false
theorem len1 {α : Type} {l : List α} (h : l.length = 1) : ∃ a, l = [a] := by
  match l, h with
  | [a], _ => exact ⟨a, rfl⟩
theorem len2 {α : Type} {l : List α} (h : l.length = 2) : ∃ a b, l = [a, b] := by
  match l, h with
  | [a, b], _ => exact ⟨a, b, rfl⟩
theorem len3 {α : Type} {l : List α} (h : l.length = 3) : ∃ a b c, l = [a, b, c] := by
  match l, h with
  | [a, b, c], _ => exact ⟨a, b, c, rfl⟩
theorem kidsN_two {op : Int} (h : op = 3 ∨ op = 4 ∨ op = 6 ∨ op = 7 ∨ op = 8 ∨ op = 9 ∨ op = 10 ∨ op = 11 ∨ op = 12 ∨ op = 13 ∨ op = 14 ∨ op = 15 ∨ op = 16 ∨ op = 20 ∨ op = 21) : kidsN op = 2 := by
  rcases h with rfl | rfl | rfl | rfl | rfl | rfl | rfl | rfl | rfl | rfl | rfl | rfl | rfl | rfl | rfl <;> rfl
theorem kidsN_one {op : Int} (h : op = 5 ∨ op = 17 ∨ op = 19) : kidsN op = 1 := by
  rcases h with rfl | rfl | rfl <;> rfl
theorem strict_ok {f : DFea} (hF : FOk f) {nd : DNode} {ks : List DExp} (h1 : oneE nd ks.length = 0) (hv : ∀ k ∈ ks, VE k) (hop : ¬ (nd.1 = 0 ∨ nd.1 = 1 ∨ nd.1 = 2 ∨ nd.1 = 3 ∨ nd.1 = 4 ∨ nd.1 = 5 ∨ nd.1 = 18)) :
    ks.length ≤ 2 ∧ (firstX (ks.map (evV f)) = 0 → r69 (nd.1, ((ks.map (evV f)).map (·.1), ())) = arR (strictV nd.1 ((ks.map (evV f)).map (·.1)))) := by
  obtain ⟨g1, g2, g3⟩ := oneE_kids h1
  have hin : firstX (ks.map (evV f)) = 0 → ∀ k ∈ ks, In12 (evV f k).1.2.1 := fun h0 k hk => by
    have hz : (evV f k).2 = 0 := fnz_all h0 _ (List.mem_map.2 ⟨evV f k, List.mem_map.2 ⟨k, hk, rfl⟩, rfl⟩)
    exact (check_in (ev_ok hF (sz k) k (Nat.le_refl _) (hv k hk) hz)).1
  by_cases hu : nd.1 = 17 ∨ nd.1 = 19
  · have hl : ks.length = 1 := by
      rw [kidsN_one (by omega)] at g3
      omega
    refine ⟨by omega, fun h0 => ?_⟩
    obtain ⟨a, rfl⟩ := len1 hl
    rcases hu with h17 | h19
    · rw [h17]
      exact st_neg _ (fun _ => hin h0 a (by simp))
    · rw [h19]
      exact st_len _
  · have hl : ks.length = 2 := by
      rw [kidsN_two (by omega)] at g3
      omega
    refine ⟨by omega, fun h0 => ?_⟩
    obtain ⟨a, b, rfl⟩ := len2 hl
    by_cases e1 : nd.1 = 6 ∨ nd.1 = 7
    · exact st_eq e1 _ _
    by_cases e2 : nd.1 = 8 ∨ nd.1 = 9 ∨ nd.1 = 10 ∨ nd.1 = 11
    · exact st_cmp e2 _ _
    exact st_num (by omega) _ _ (fun _ => hin h0 a (by simp)) (fun _ => hin h0 b (by simp))
theorem evof_eq {f : DFea} (hF : FOk f) : ∀ (n : Nat) (t : DExp), 2 * sz t ≤ n → VE t → IsV (r30 n (t, (f, ()))) (evV f t) := by
  intro n
  induction n using Nat.strongRecOn with
  | _ n IH =>
    intro t hn hv
    obtain ⟨h1, h2⟩ := (VE_node t).1 hv
    have hsz := sz_node t
    have hkn : ∀ k ∈ Tree.kids t, 2 * sz k + 2 ≤ n := fun k hk => by
      have := szL_mem hk
      omega
    rw [evV_node]
    obtain ⟨l, rfl⟩ : ∃ l, n = l + 2 := ⟨n - 2, by omega⟩
    have hof : ∀ k ∈ Tree.kids t, IsV (r30 (l + 1) (k, (f, ()))) (evV f k) := fun k hk => IH (l + 1) (by omega) k (by have := hkn k hk; omega) (h2 k hk)
    have htr : ∀ k ∈ Tree.kids t, IsB (r68 (l + 1) (k, (f, ()))) (evV f k) := fun k hk => truth_eq l k f _ (IH l (by omega) k (by have := hkn k hk; omega) (h2 k hk))
    obtain ⟨g1, g2, g3⟩ := oneE_kids h1
    cases t with
    | node nd ks =>
      simp only [val_node, kids_node] at h1 h2 hof htr g1 g2 g3 ⊢
      by_cases o1 : nd.1 = 0 ∨ nd.1 = 1 ∨ nd.1 = 2
      · exact of_leaf (l + 1) nd f hF o1 ks
      by_cases o2 : nd.1 = 3 ∨ nd.1 = 4
      · obtain ⟨a, b, rfl⟩ := len2 (l := ks) (by rw [kidsN_two (by omega)] at g3; omega)
        exact of_or (l + 1) nd a b f _ _ o2 (htr a (by simp)) (htr b (by simp))
      by_cases o3 : nd.1 = 5
      · obtain ⟨a, rfl⟩ := len1 (l := ks) (by rw [kidsN_one (by omega)] at g3; omega)
        exact of_not (l + 1) nd a f _ o3 (htr a (by simp))
      by_cases o4 : nd.1 = 18
      · obtain ⟨a, b, c, rfl⟩ := len3 (l := ks) (by rw [o4] at g3; have : kidsN 18 = 3 := rfl; omega)
        exact of_if (l + 1) nd a b c f _ _ _ o4 (htr a (by simp)) (hof b (by simp)) (hof c (by simp))
      obtain ⟨q1, q2⟩ := strict_ok hF h1 h2 (by omega)
      exact of_strict (l + 1) nd ks f (by omega) (by omega) hof q2
def ofV (t : DExp) (f : DFea) (e c : Int) : DVal × Int := if e ≠ 0 then (zeroV0, e) else if c ≠ 0 then (zeroV0, c) else if (evV f t).2 ≠ 0 then (zeroV0, (evV f t).2) else evV f t
theorem evalOf_eq (n : Nat) (t : DExp) (f : DFea) (hn : 2 * sz t ≤ n) (hs : small kExp t) (hf : small kFea f) : r8 n (t, (f, ())) = arR (ofV t f (expE t) (featV f)) := by
  have hc := check_eq n t (by omega) hs
  have hfe := r18_eq f hf
  have hfe : r29 ((f.1, (f.2.1, (f.2.2.1, (f.2.2.2.1, (f.2.2.2.2.1, (f.2.2.2.2.2.1, Unit.unit)))))), Unit.unit) = some (featV f, ()) := hfe
  unfold r8 ofV arR
  simp only [t_eta, hc, Option.bind_some]
  by_cases h1 : expE t = 0
  rotate_left
  · rw [if_pos h1, decide_eq_false h1]
    rfl
  rw [if_neg (by simpa using h1), decide_eq_true h1]
  simp only [Bool.not_true, cond_false, hfe, Option.bind_some]
  by_cases h2 : featV f = 0
  rotate_left
  · rw [if_pos h2, decide_eq_false h2]
    rfl
  rw [if_neg (by simpa using h2), decide_eq_true h2]
  obtain ⟨v, g1, g2⟩ := evof_eq (fOk_of hf h2) n t hn (ve_of t 1 0 h1)
  have g1 : r30 n (t, ((f.1, (f.2.1, (f.2.2.1, (f.2.2.2.1, (f.2.2.2.2.1, (f.2.2.2.2.2.1, Unit.unit)))))), Unit.unit)) = some (v, ((evV f t).2, ())) := g1
  simp only [Bool.not_true, cond_false, g1, Option.bind_some]
  by_cases h3 : (evV f t).2 = 0
  · rw [if_neg (by simpa using h3), decide_eq_true h3, g2 h3, h3]
    rfl
  · rw [if_pos h3, decide_eq_false h3]
    rfl
end Go.Proofs.YtfmadjkakghohaaGreatDoor.I

namespace Go.Proofs.YtfmadjkakghohaaGreatDoor.I
open Go.RowKit
set_option linter.unusedVariables false
set_option linter.unusedSimpArgs false
set_option linter.constructorNameAsVariable false
set_option maxHeartbeats 8000000
/-- A valid answer. -/
def VA (e : DVal × Int) : Prop := e.2 = 0 → checkV e.1 = 0
theorem lazy_or (n : Nat) (nd : DNode) (a b : DExp) (f : DFea) (A B : DVal × Int) (vA : VA A) (vB : VA B) (hop : nd.1 = 3 ∨ nd.1 = 4) (ha : r14 n (a, (f, ())) = arR A) (hb : r14 n (b, (f, ())) = arR B) :
    r43 (n + 1) (.node nd [a, b], (f, ())) = arR (opV f nd [A, B]) := by
  rw [opV_or hop]
  have e0 : nth [A, B] 0 = A := rfl
  have e1 : nth [A, B] 1 = B := rfl
  rw [e0, e1]
  obtain ⟨f1, f2, f3, f4, f5, f6, ⟨⟩⟩ := f
  obtain ⟨op, v0, nm, ⟨⟩⟩ := nd
  simp only at hop
  unfold arR at ha hb
  rw [r43_succ]
  unfold r43B arR
  by_cases hx : A.2 = 0
  rotate_left
  · have hz : trE A = A.2 := by unfold trE; rw [if_pos hx]
    rw [hz, if_pos hx]
    rcases hop with rfl | rfl <;> simp only [val_node, kids_node, Int.reduceEq, decide_true, decide_false, cond_true, cond_false, List.length_cons, List.length_nil, Nat.reduceAdd, in0_1, in0_2, in1_2, in0_3, in1_3, in2_3, List.getElem?_cons_zero, List.getElem?_cons_succ, Option.bind_some, t_eta, ha, decide_eq_false hx, Bool.not_false] <;> rfl
  by_cases hk : A.1.1 = 3
  rotate_left
  · have hz : trE A = 8 := by unfold trE; rw [if_neg (by simpa using hx), if_pos hk]
    rw [hz, if_pos (by omega)]
    rcases hop with rfl | rfl <;> simp only [val_node, kids_node, Int.reduceEq, decide_true, decide_false, cond_true, cond_false, List.length_cons, List.length_nil, Nat.reduceAdd, in0_1, in0_2, in1_2, in0_3, in1_3, in2_3, List.getElem?_cons_zero, List.getElem?_cons_succ, Option.bind_some, t_eta, ha, decide_eq_true hx, decide_eq_false hk, Bool.not_false] <;> rfl
  have hz : trE A = 0 := by unfold trE; rw [if_neg (by simpa using hx), if_neg (by simpa using hk)]
  have hA := check_bool (vA hx) hk
  rw [if_neg (by simpa using hz)]
  have tail : ∀ y : DVal × Int × Unit, (cond (decide (B.2 = 0)) (cond (!decide (B.1.1 = 3)) (some (zeroV0, ((8 : Int), ()))) (cond (!decide (B.2 = 0)) (some (zeroV0, (B.2, ()))) (some (B.1, ((0 : Int), ()))))) (cond (!decide (B.2 = 0)) (some (zeroV0, (B.2, ()))) (some (B.1, ((0 : Int), ()))))) = some ((if trE B ≠ 0 then (zeroV0, trE B) else (boolV (bOf B), (0 : Int))).1, ((if trE B ≠ 0 then (zeroV0, trE B) else (boolV (bOf B), (0 : Int))).2, ())) := fun y => by
    by_cases kx : B.2 = 0
    rotate_left
    · have kz : trE B = B.2 := by unfold trE; rw [if_pos kx]
      rw [kz, if_pos kx, decide_eq_false kx]
      rfl
    by_cases kk : B.1.1 = 3
    rotate_left
    · have kz : trE B = 8 := by unfold trE; rw [if_neg (by simpa using kx), if_pos kk]
      rw [kz, if_pos (by omega), decide_eq_true kx, decide_eq_false kk]
      rfl
    have kz : trE B = 0 := by unfold trE; rw [if_neg (by simpa using kx), if_neg (by simpa using kk)]
    have hB := check_bool (vB kx) kk
    rw [if_neg (by simpa using kz), decide_eq_true kx, decide_eq_true kk]
    simp only [cond_true, cond_false, Bool.not_true]
    exact congrArg (fun v => some (v, ((0 : Int), ()))) hB
  have tail := tail (zeroV0, (0, ()))
  have hAo : A.1.2.2.2.1 = bOf A := rfl
  have hA' : ((A.1.1, (A.1.2.1, (A.1.2.2.1, (bOf A, ())))) : DVal) = boolV (bOf A) := hA
  rcases hop with rfl | rfl
  · cases hb0 : bOf A
    · rw [if_neg (by simp)]
      simp only [val_node, kids_node, Int.reduceEq, decide_true, decide_false, cond_true, cond_false, List.length_cons, List.length_nil, Nat.reduceAdd, in0_1, in0_2, in1_2, in0_3, in1_3, in2_3, List.getElem?_cons_zero, List.getElem?_cons_succ, Option.bind_some, t_eta, ha, hb, hAo, hb0, decide_eq_true hx, decide_eq_true hk, Bool.not_true, Bool.false_eq_true, reduceCtorEq]
      exact tail
    · rw [if_pos (by simp)]
      simp only [val_node, kids_node, Int.reduceEq, decide_true, decide_false, cond_true, cond_false, List.length_cons, List.length_nil, Nat.reduceAdd, in0_1, in0_2, in1_2, in0_3, in1_3, in2_3, List.getElem?_cons_zero, List.getElem?_cons_succ, Option.bind_some, t_eta, ha, hAo, hb0, decide_eq_true hx, decide_eq_true hk, Bool.not_true]
      rw [hb0] at hA'
      exact congrArg (fun v : DVal => some (v, ((0 : Int), ()))) hA'
  · cases hb0 : bOf A
    · rw [if_pos (by simp)]
      simp only [val_node, kids_node, Int.reduceEq, decide_true, decide_false, cond_true, cond_false, List.length_cons, List.length_nil, Nat.reduceAdd, in0_1, in0_2, in1_2, in0_3, in1_3, in2_3, List.getElem?_cons_zero, List.getElem?_cons_succ, Option.bind_some, t_eta, ha, hAo, hb0, decide_eq_true hx, decide_eq_true hk, Bool.not_true]
      rw [hb0] at hA'
      exact congrArg (fun v : DVal => some (v, ((0 : Int), ()))) hA'
    · rw [if_neg (by simp)]
      simp only [val_node, kids_node, Int.reduceEq, decide_true, decide_false, cond_true, cond_false, List.length_cons, List.length_nil, Nat.reduceAdd, in0_1, in0_2, in1_2, in0_3, in1_3, in2_3, List.getElem?_cons_zero, List.getElem?_cons_succ, Option.bind_some, t_eta, ha, hb, hAo, hb0, decide_eq_true hx, decide_eq_true hk, Bool.not_true, Bool.false_eq_true, reduceCtorEq]
      exact tail
end Go.Proofs.YtfmadjkakghohaaGreatDoor.I

namespace Go.Proofs.YtfmadjkakghohaaGreatDoor.I
open Go.RowKit
set_option linter.unusedVariables false
set_option linter.unusedSimpArgs false
set_option linter.constructorNameAsVariable false
set_option maxHeartbeats 8000000
theorem lazy_not (n : Nat) (nd : DNode) (a : DExp) (f : DFea) (A : DVal × Int) (hop : nd.1 = 5) (ha : r14 n (a, (f, ())) = arR A) :
    r43 (n + 1) (.node nd [a], (f, ())) = arR (opV f nd [A]) := by
  have hS : opV f nd [A] = if trE A ≠ 0 then (zeroV0, trE A) else (boolV (!bOf A), 0) := by
    unfold opV
    rw [if_neg (by omega), if_neg (by omega), if_neg (by omega), if_neg (by omega), if_pos hop]
    rfl
  rw [hS]
  obtain ⟨f1, f2, f3, f4, f5, f6, ⟨⟩⟩ := f
  obtain ⟨op, v0, nm, ⟨⟩⟩ := nd
  simp only at hop
  subst hop
  unfold arR at ha
  rw [r43_succ]
  unfold r43B arR
  by_cases hx : A.2 = 0
  rotate_left
  · have hz : trE A = A.2 := by unfold trE; rw [if_pos hx]
    rw [hz, if_pos hx]
    simp only [val_node, kids_node, Int.reduceEq, decide_true, decide_false, cond_true, cond_false, List.length_cons, List.length_nil, Nat.reduceAdd, in0_1, in0_2, in1_2, in0_3, in1_3, in2_3, List.getElem?_cons_zero, List.getElem?_cons_succ, Option.bind_some, t_eta, ha, decide_eq_false hx, Bool.not_false]
    rfl
  by_cases hk : A.1.1 = 3
  rotate_left
  · have hz : trE A = 8 := by unfold trE; rw [if_neg (by simpa using hx), if_pos hk]
    rw [hz, if_pos (by omega)]
    simp only [val_node, kids_node, Int.reduceEq, decide_true, decide_false, cond_true, cond_false, List.length_cons, List.length_nil, Nat.reduceAdd, in0_1, in0_2, in1_2, in0_3, in1_3, in2_3, List.getElem?_cons_zero, List.getElem?_cons_succ, Option.bind_some, t_eta, ha, decide_eq_true hx, decide_eq_false hk, Bool.not_false]
    rfl
  have hz : trE A = 0 := by unfold trE; rw [if_neg (by simpa using hx), if_neg (by simpa using hk)]
  rw [if_neg (by simpa using hz)]
  simp only [val_node, kids_node, Int.reduceEq, decide_true, decide_false, cond_true, cond_false, List.length_cons, List.length_nil, Nat.reduceAdd, in0_1, in0_2, in1_2, in0_3, in1_3, in2_3, List.getElem?_cons_zero, List.getElem?_cons_succ, Option.bind_some, t_eta, ha, decide_eq_true hx, decide_eq_true hk, Bool.not_true]
  rfl
theorem lazy_if (n : Nat) (nd : DNode) (a b c : DExp) (f : DFea) (A B C : DVal × Int) (hop : nd.1 = 18) (ha : r14 n (a, (f, ())) = arR A) (hb : r14 n (b, (f, ())) = arR B) (hc : r14 n (c, (f, ())) = arR C) :
    r43 (n + 1) (.node nd [a, b, c], (f, ())) = arR (opV f nd [A, B, C]) := by
  have hS : opV f nd [A, B, C] = if trE A ≠ 0 then (zeroV0, trE A) else if bOf A = true then B else C := by
    unfold opV
    rw [if_neg (by omega), if_neg (by omega), if_neg (by omega), if_neg (by omega), if_neg (by omega), if_pos hop]
    rfl
  rw [hS]
  obtain ⟨f1, f2, f3, f4, f5, f6, ⟨⟩⟩ := f
  obtain ⟨op, v0, nm, ⟨⟩⟩ := nd
  simp only at hop
  subst hop
  unfold arR at ha hb hc
  rw [r43_succ]
  unfold r43B arR
  by_cases hx : A.2 = 0
  rotate_left
  · have hz : trE A = A.2 := by unfold trE; rw [if_pos hx]
    rw [hz, if_pos hx]
    simp only [val_node, kids_node, Int.reduceEq, decide_true, decide_false, cond_true, cond_false, List.length_cons, List.length_nil, Nat.reduceAdd, in0_1, in0_2, in1_2, in0_3, in1_3, in2_3, List.getElem?_cons_zero, List.getElem?_cons_succ, Option.bind_some, t_eta, ha, decide_eq_false hx, Bool.not_false]
    rfl
  by_cases hk : A.1.1 = 3
  rotate_left
  · have hz : trE A = 8 := by unfold trE; rw [if_neg (by simpa using hx), if_pos hk]
    rw [hz, if_pos (by omega)]
    simp only [val_node, kids_node, Int.reduceEq, decide_true, decide_false, cond_true, cond_false, List.length_cons, List.length_nil, Nat.reduceAdd, in0_1, in0_2, in1_2, in0_3, in1_3, in2_3, List.getElem?_cons_zero, List.getElem?_cons_succ, Option.bind_some, t_eta, ha, decide_eq_true hx, decide_eq_false hk, Bool.not_false]
    rfl
  have hz : trE A = 0 := by unfold trE; rw [if_neg (by simpa using hx), if_neg (by simpa using hk)]
  rw [if_neg (by simpa using hz)]
  have hAo : A.1.2.2.2.1 = bOf A := rfl
  cases hb0 : bOf A
  · rw [if_neg (by simp)]
    simp only [val_node, kids_node, Int.reduceEq, decide_true, decide_false, cond_true, cond_false, List.length_cons, List.length_nil, Nat.reduceAdd, in0_1, in0_2, in1_2, in0_3, in1_3, in2_3, List.getElem?_cons_zero, List.getElem?_cons_succ, Option.bind_some, t_eta, ha, hb, hc, hAo, hb0, decide_eq_true hx, decide_eq_true hk, Bool.not_true]
  · rw [if_pos rfl]
    simp only [val_node, kids_node, Int.reduceEq, decide_true, decide_false, cond_true, cond_false, List.length_cons, List.length_nil, Nat.reduceAdd, in0_1, in0_2, in1_2, in0_3, in1_3, in2_3, List.getElem?_cons_zero, List.getElem?_cons_succ, Option.bind_some, t_eta, ha, hb, hc, hAo, hb0, decide_eq_true hx, decide_eq_true hk, Bool.not_true]
theorem ordI_zero (a b : Int) : ordI a b = 0 ↔ a = b := by
  unfold ordI
  split
  · constructor
    · intro h; cases h
    · intro h; omega
  · split
    · constructor
      · intro h; cases h
      · intro h; omega
    · constructor
      · intro _; omega
      · intro _; rfl
theorem cmpV_zero (a b : DVal) : cmpV a b = 0 ↔ a = b := by
  constructor
  · intro h
    have hall := fnz_all h
    have h1 := (ordI_zero _ _).1 (hall (ordI a.1 b.1) (by simp))
    have h2 := (ordI_zero _ _).1 (hall (ordI a.2.1 b.2.1) (by simp))
    have h3 := hall (Lib.compareBytes a.2.2.1.data.toList b.2.2.1.data.toList) (by simp)
    have h4 := hall (biI a.2.2.2.1 - biI b.2.2.2.1) (by simp)
    have h5 : a.2.2.1 = b.2.2.1 := by
      rcases less_cmpS a.2.2.1 b.2.2.1 with ⟨_, _, k⟩ | ⟨_, k, _⟩ | ⟨_, _, k⟩
      · rw [k] at h3; cases h3
      · exact k
      · rw [k] at h3; cases h3
    have h6 : a.2.2.2.1 = b.2.2.2.1 := by
      cases ha : a.2.2.2.1 <;> cases hb : b.2.2.2.1 <;> simp [ha, hb, biI] at h4 ⊢
    obtain ⟨a1, a2, a3, a4, ⟨⟩⟩ := a
    obtain ⟨b1, b2, b3, b4, ⟨⟩⟩ := b
    simp only at h1 h2 h5 h6
    subst h1 h2 h5 h6
    rfl
  · rintro rfl
    refine fnz_zero (fun x hx => ?_)
    simp only [List.mem_cons, List.not_mem_nil, or_false] at hx
    rcases hx with rfl | rfl | rfl | rfl
    · exact (ordI_zero _ _).2 rfl
    · exact (ordI_zero _ _).2 rfl
    · rcases less_cmpS a.2.2.1 a.2.2.1 with ⟨_, k, _⟩ | ⟨_, _, k⟩ | ⟨_, k, _⟩
      · exact absurd rfl k
      · exact k
      · exact absurd rfl k
    · omega
end Go.Proofs.YtfmadjkakghohaaGreatDoor.I

namespace Go.Proofs.YtfmadjkakghohaaGreatDoor.I
open Go.RowKit
set_option linter.unusedVariables false
set_option linter.unusedSimpArgs false
set_option linter.constructorNameAsVariable false
set_option maxHeartbeats 16000000
theorem reval_leaf (n : Nat) (nd : DNode) (f : DFea) (hF : FOk f) (hop : nd.1 = 0 ∨ nd.1 = 1 ∨ nd.1 = 2) (ks : List DExp) :
    r14 (n + 1) (.node nd ks, (f, ())) = arR (opV f nd (ks.map (evV f))) := by
  have hg := got_eq f nd.2.2.1 hF.few
  have hp := prop_eq nd.2.2.1 f hF.box hF.kind
  generalize ks.map (evV f) = L
  obtain ⟨f1, f2, f3, f4, f5, f6, ⟨⟩⟩ := f
  obtain ⟨op, v0, nm, ⟨⟩⟩ := nd
  simp only at hop hg hp
  rw [r14_succ]
  unfold r14B opV arR
  rcases hop with rfl | rfl | rfl
  · simp only [val_node, kids_node, Int.reduceEq, decide_true, decide_false, cond_true, cond_false, List.length_cons, List.length_nil, Nat.reduceAdd, in0_1, in0_2, in1_2, in0_3, in1_3, in2_3, List.getElem?_cons_zero, List.getElem?_cons_succ, Option.bind_some, t_eta]
    rfl
  · simp only [val_node, kids_node, Int.reduceEq, decide_true, decide_false, cond_true, cond_false, List.length_cons, List.length_nil, Nat.reduceAdd, in0_1, in0_2, in1_2, in0_3, in1_3, in2_3, List.getElem?_cons_zero, List.getElem?_cons_succ, Option.bind_some, t_eta, hg]
    rfl
  · simp only [val_node, kids_node, Int.reduceEq, decide_true, decide_false, cond_true, cond_false, List.length_cons, List.length_nil, Nat.reduceAdd, in0_1, in0_2, in1_2, in0_3, in1_3, in2_3, List.getElem?_cons_zero, List.getElem?_cons_succ, Option.bind_some, t_eta, hp]
    rfl
theorem reval_lazy (n : Nat) (nd : DNode) (ks : List DExp) (f : DFea) (e : DVal × Int) (hop : nd.1 = 3 ∨ nd.1 = 4 ∨ nd.1 = 5 ∨ nd.1 = 18) (h : r43 n (.node nd ks, (f, ())) = arR e) :
    r14 (n + 1) (.node nd ks, (f, ())) = arR e := by
  obtain ⟨f1, f2, f3, f4, f5, f6, ⟨⟩⟩ := f
  obtain ⟨op, v0, nm, ⟨⟩⟩ := nd
  simp only at hop
  unfold arR at h ⊢
  rw [r14_succ]
  unfold r14B
  rcases hop with rfl | rfl | rfl | rfl <;> simp only [val_node, kids_node, Int.reduceEq, decide_true, decide_false, cond_true, cond_false, List.length_cons, List.length_nil, Nat.reduceAdd, in0_1, in0_2, in1_2, in0_3, in1_3, in2_3, List.getElem?_cons_zero, List.getElem?_cons_succ, Option.bind_some, t_eta, h]
theorem reval_strict (n : Nat) (nd : DNode) (ks : List DExp) (f : DFea) (hF : FOk f) (hop : ¬ (nd.1 = 0 ∨ nd.1 = 1 ∨ nd.1 = 2 ∨ nd.1 = 3 ∨ nd.1 = 4 ∨ nd.1 = 5 ∨ nd.1 = 18)) (h1 : oneE nd ks.length = 0) (hv : ∀ k ∈ ks, VE k) (ih : ∀ k ∈ ks, r14 n (k, (f, ())) = arR (evV f k)) :
    r14 (n + 1) (.node nd ks, (f, ())) = arR (opV f nd (ks.map (evV f))) := by
  obtain ⟨g1, g2, g3⟩ := oneE_kids h1
  have hin : firstX (ks.map (evV f)) = 0 → ∀ k ∈ ks, In12 (evV f k).1.2.1 := fun h0 k hk => by
    have hz : (evV f k).2 = 0 := fnz_all h0 _ (List.mem_map.2 ⟨evV f k, List.mem_map.2 ⟨k, hk, rfl⟩, rfl⟩)
    exact (check_in (ev_ok hF (sz k) k (Nat.le_refl _) (hv k hk) hz)).1
  have hl : ks.length ≤ 2 := (strict_ok hF h1 hv hop).1
  rw [opV_strict hop]
  obtain ⟨op, v0, nm, ⟨⟩⟩ := nd
  simp only at hop g1 g2 g3 ⊢
  have c0 : ¬ op = 0 := by omega
  have c1 : ¬ op = 1 := by omega
  have c2 : ¬ op = 2 := by omega
  have c3 : ¬ op = 3 := by omega
  have c4 : ¬ op = 4 := by omega
  have c5 : ¬ op = 5 := by omega
  have c18 : ¬ op = 18 := by omega
  rw [r14_succ]
  unfold r14B
  simp only [val_node, kids_node, c0, c1, c2, c3, c4, c5, c18, decide_false, cond_false]
  refine bind_loopQ (fun r => r = arR (if firstX (ks.map (evV f)) ≠ 0 then (zeroV0, firstX (ks.map (evV f))) else strictV op ((ks.map (evV f)).map (·.1))))
    (loop_up embVs ks.length (fun j s => s = ((ks.take j).map (evV f)).map (·.1) ∧ ∀ x ∈ ((ks.take j).map (evV f)).map (·.2), x = 0) (fun o => (o = Sum.inl ((firstX (ks.map (evV f)), ((0 : Int), ((0 : Int), (emptyS, (false, ()))))), ()) ∧ firstX (ks.map (evV f)) ≠ 0) ∨ (o = Sum.inr (Sum.inl (((ks.map (evV f)).map (·.1), ()), ())) ∧ firstX (ks.map (evV f)) = 0)) (fun j s hj hI => ?_) (fun s hI => ?_) 0 [] (Nat.zero_le _) ⟨by simp, by simp⟩) (fun o ho => ?_)
  · obtain ⟨rfl, hI⟩ := hI
    obtain ⟨k, hk⟩ := get_lt hj
    have h1 : r14 n (k, ((f.1, (f.2.1, (f.2.2.1, (f.2.2.2.1, (f.2.2.2.2.1, (f.2.2.2.2.2.1, Unit.unit)))))), Unit.unit)) = some ((evV f k).1, ((evV f k).2, ())) := ih k (List.mem_of_getElem? hk)
    have q1 : (j : Int) < (ks.length : Int) := by omega
    simp only [embVs, q1, decide_true, inB_lt hj, Int.toNat_natCast, hk, cond_true, Option.bind_some, t_eta, h1]
    by_cases hz : (evV f k).2 = 0
    · have hft : fits ((((ks.take j).map (evV f)).map (·.1)).length + [(((evV f k).1.1, ((evV f k).1.2.1, ((evV f k).1.2.2.1, ((evV f k).1.2.2.2.1, Unit.unit)))) : DVal)].length) 40 = true := by
        unfold fits
        simp
        omega
      refine .inl ⟨_, by rw [decide_eq_true hz, hft]; simp only [Bool.not_true, cond_false, cond_true]; rw [wrapS hj (by omega)], ?_, fun x hx => ?_⟩
      · rw [take_succ hk]
        simp
      · rw [take_succ hk] at hx
        simp only [List.map_append, List.map_cons, List.map_nil, List.mem_append, List.mem_singleton] at hx
        rcases hx with hx | rfl
        · exact hI x (by simpa using hx)
        · exact hz
    · have hfx : firstX (ks.map (evV f)) = (evV f k).2 := by
        unfold firstX
        refine fnz_take (i := j) (by simp [hk]) (fun x hx => hI x ?_) hz
        rw [List.map_take, List.map_take]
        exact hx
      refine .inr ⟨_, by rw [decide_eq_false hz]; rfl, .inl ⟨?_, by rw [hfx]; exact hz⟩⟩
      rw [hfx]
      rfl
  · obtain ⟨rfl, hI⟩ := hI
    rw [List.take_length] at hI ⊢
    have q2 : ¬ ((ks.length : Int) < (ks.length : Int)) := by omega
    exact ⟨_, by simp only [embVs, q2, decide_false, cond_false], .inr ⟨rfl, fnz_zero hI⟩⟩
  · rcases ho with ⟨rfl, h⟩ | ⟨rfl, h⟩
    · rw [if_pos h]
      rfl
    · rw [if_neg (by simpa using h)]
      have hin := hin h
      simp only [sumE]
      by_cases hu : op = 17 ∨ op = 19
      · obtain ⟨a, rfl⟩ := len1 (l := ks) (by rw [kidsN_one (by omega)] at g3; omega)
        have ha := hin a (by simp)
        simp only [List.map_cons, List.map_nil]
        generalize (evV f a).1 = x at ha
        rcases hu with rfl | rfl
        · have hsE : x.1 = 1 → strictV 17 [x] = (numV (-x.2.1), 0) := fun h1 => by
            unfold strictV
            rw [if_neg (by omega), if_neg (by omega), if_neg (by omega), if_neg (by simp [h1]), if_pos rfl]
            rfl
          have hsB : ¬ x.1 = 1 → strictV 17 [x] = (zeroV0, 8) := fun h => st_nums (by omega) (by omega) [x] (by simp [h])
          simp only [Int.reduceEq, Int.reduceLE, Int.reduceTMod, Int.reduceLT, decide_true, decide_false, cond_true, cond_false, List.length_cons, List.length_nil, Nat.reduceAdd, in0_1, in0_2, in1_2, List.getElem?_cons_zero, List.getElem?_cons_succ, Option.bind_some]
          refine bind_loop (Post := fun o => (o = Sum.inl (((8 : Int), ((0 : Int), ((0 : Int), (emptyS, (false, ()))))), ()) ∧ ¬ x.1 = 1) ∨ (o = Sum.inr (Sum.inl ((), ())) ∧ x.1 = 1)) (loop_up embI 1 (fun j _ => 1 ≤ j → x.1 = 1) _ (fun j u hj hI => ?_) (fun u hI => ?_) 0 () (Nat.zero_le _) (fun h => by omega)) (fun o ho => ?_)
          · obtain rfl : j = 0 := by omega
            by_cases hz : x.1 = 1
            · exact .inl ⟨(), by simp [embI, inB, hz]; decide, fun _ => hz⟩
            · exact .inr ⟨_, by simp [embI, inB, hz]; rfl, .inl ⟨rfl, hz⟩⟩
          · exact ⟨_, by simp [embI], .inr ⟨rfl, hI (by omega)⟩⟩
          · rcases ho with ⟨rfl, h⟩ | ⟨rfl, h1⟩
            · rw [hsB h]
              rfl
            · rw [hsE h1]
              unfold In12 at ha
              have hw : IntKind.wrap .i64 ((0 : Int) - x.2.1) = -x.2.1 := by rw [wr12 (by omega) (by omega)]; omega
              simp only [sumE, Int.reduceEq, Int.reduceLE, Int.reduceTMod, Int.reduceLT, decide_true, decide_false, cond_true, cond_false, List.length_cons, List.length_nil, Nat.reduceAdd, in0_1, in0_2, in1_2, List.getElem?_cons_zero, List.getElem?_cons_succ, Option.bind_some, hw, arR]
              rfl
        · have hS : strictV 19 [x] = if x.1 ≠ 2 then (zeroV0, 8) else (numV (x.2.2.1.size : Int), 0) := by unfold strictV; rw [if_neg (by omega), if_neg (by omega), if_pos rfl]; rfl
          rw [hS]
          by_cases k1 : x.1 = 2
          · rw [if_neg (by simpa using k1)]
            simp only [Int.reduceEq, Int.reduceLE, Int.reduceTMod, Int.reduceLT, decide_true, decide_false, cond_true, cond_false, List.length_cons, List.length_nil, Nat.reduceAdd, in0_1, in0_2, in1_2, List.getElem?_cons_zero, List.getElem?_cons_succ, Option.bind_some, decide_eq_true k1, Bool.not_true]
            rfl
          · rw [if_pos k1]
            simp only [Int.reduceEq, Int.reduceLE, Int.reduceTMod, Int.reduceLT, decide_true, decide_false, cond_true, cond_false, List.length_cons, List.length_nil, Nat.reduceAdd, in0_1, in0_2, in1_2, List.getElem?_cons_zero, List.getElem?_cons_succ, Option.bind_some, decide_eq_false k1, Bool.not_false]
            rfl
      · obtain ⟨a, b, rfl⟩ := len2 (l := ks) (by rw [kidsN_two (by omega)] at g3; omega)
        have ha := hin a (by simp)
        have hb := hin b (by simp)
        simp only [List.map_cons, List.map_nil]
        generalize (evV f a).1 = x at ha
        generalize (evV f b).1 = y at hb
        have hc : r45 ((x.1, (x.2.1, (x.2.2.1, (x.2.2.2.1, Unit.unit)))), ((y.1, (y.2.1, (y.2.2.1, (y.2.2.2.1, Unit.unit)))), Unit.unit)) = some (cmpV x y, ()) := rcmp_eq x y
        by_cases e1 : op = 6 ∨ op = 7
        · have hS : strictV op [x, y] = (boolV (decide (decide (x = y) = decide (op = 6))), 0) := by unfold strictV; rw [if_pos e1]; rfl
          have hxy : decide (x = y) = decide (cmpV x y = 0) := by rw [decide_eq_decide]; exact (cmpV_zero x y).symm
          rw [hS, hxy]
          rcases e1 with rfl | rfl <;> simp only [Int.reduceEq, Int.reduceLE, Int.reduceTMod, Int.reduceLT, decide_true, decide_false, cond_true, cond_false, List.length_cons, List.length_nil, Nat.reduceAdd, in0_1, in0_2, in1_2, List.getElem?_cons_zero, List.getElem?_cons_succ, Option.bind_some, hc, r44] <;> rfl
        by_cases e2 : op = 8 ∨ op = 9 ∨ op = 10 ∨ op = 11
        · have hS : strictV op [x, y] = if x.1 ≠ y.1 ∨ ¬ (x.1 = 1 ∨ x.1 = 2) then (zeroV0, 8) else (boolV (cmpB op (cmpV x y)), 0) := by unfold strictV; rw [if_neg (by omega), if_pos (by omega)]; rfl
          rw [hS]
          by_cases k1 : x.1 = y.1
          rotate_left
          · rw [if_pos (.inl k1)]
            rcases e2 with rfl | rfl | rfl | rfl <;> simp only [Int.reduceEq, Int.reduceLE, Int.reduceTMod, Int.reduceLT, decide_true, decide_false, cond_true, cond_false, List.length_cons, List.length_nil, Nat.reduceAdd, in0_1, in0_2, in1_2, List.getElem?_cons_zero, List.getElem?_cons_succ, Option.bind_some, decide_eq_false k1, Bool.not_false] <;> rfl
          by_cases k2 : x.1 = 1 ∨ x.1 = 2
          rotate_left
          · rw [if_pos (.inr k2)]
            by_cases k3 : x.1 < 1
            · rcases e2 with rfl | rfl | rfl | rfl <;> simp only [Int.reduceEq, Int.reduceLE, Int.reduceTMod, Int.reduceLT, decide_true, decide_false, cond_true, cond_false, List.length_cons, List.length_nil, Nat.reduceAdd, in0_1, in0_2, in1_2, List.getElem?_cons_zero, List.getElem?_cons_succ, Option.bind_some, decide_eq_true k1, decide_eq_true k3, Bool.not_true] <;> rfl
            · have k4 : 2 < x.1 := by omega
              rcases e2 with rfl | rfl | rfl | rfl <;> simp only [Int.reduceEq, Int.reduceLE, Int.reduceTMod, Int.reduceLT, decide_true, decide_false, cond_true, cond_false, List.length_cons, List.length_nil, Nat.reduceAdd, in0_1, in0_2, in1_2, List.getElem?_cons_zero, List.getElem?_cons_succ, Option.bind_some, decide_eq_true k1, decide_eq_false k3, decide_eq_true k4, Bool.not_true] <;> rfl
          rw [if_neg (fun h => h.elim (fun h => h k1) (fun h => h k2))]
          have k3 : ¬ x.1 < 1 := by omega
          have k4 : ¬ 2 < x.1 := by omega
          generalize cmpV x y = m at hc
          unfold cmpB
          rcases Int.lt_trichotomy m 0 with k5 | k5 | k5
          · have k6 : ¬ m = 0 := by omega
            have k7 : ¬ 0 < m := by omega
            have k8 : m ≤ 0 := by omega
            have k9 : ¬ 0 ≤ m := by omega
            rcases e2 with rfl | rfl | rfl | rfl <;> simp only [Int.reduceEq, Int.reduceLE, Int.reduceTMod, Int.reduceLT, decide_true, decide_false, cond_true, cond_false, List.length_cons, List.length_nil, Nat.reduceAdd, in0_1, in0_2, in1_2, List.getElem?_cons_zero, List.getElem?_cons_succ, Option.bind_some, if_true, if_false, hc, decide_eq_true k1, decide_eq_false k3, decide_eq_false k4, k5, k6, k7, k8, k9, Bool.not_true, r44] <;> rfl
          · subst k5
            rcases e2 with rfl | rfl | rfl | rfl <;> simp only [Int.reduceEq, Int.reduceLE, Int.reduceTMod, Int.reduceLT, decide_true, decide_false, cond_true, cond_false, List.length_cons, List.length_nil, Nat.reduceAdd, in0_1, in0_2, in1_2, List.getElem?_cons_zero, List.getElem?_cons_succ, Option.bind_some, if_true, if_false, hc, decide_eq_true k1, decide_eq_false k3, decide_eq_false k4, Bool.not_true, r44] <;> rfl
          · have k6 : ¬ m = 0 := by omega
            have k7 : ¬ m < 0 := by omega
            have k8 : ¬ m ≤ 0 := by omega
            have k9 : 0 ≤ m := by omega
            rcases e2 with rfl | rfl | rfl | rfl <;> simp only [Int.reduceEq, Int.reduceLE, Int.reduceTMod, Int.reduceLT, decide_true, decide_false, cond_true, cond_false, List.length_cons, List.length_nil, Nat.reduceAdd, in0_1, in0_2, in1_2, List.getElem?_cons_zero, List.getElem?_cons_succ, Option.bind_some, if_true, if_false, hc, decide_eq_true k1, decide_eq_false k3, decide_eq_false k4, k5, k6, k7, k8, k9, Bool.not_true, r44] <;> rfl
        have e3 : op = 12 ∨ op = 13 ∨ op = 14 ∨ op = 15 ∨ op = 16 ∨ op = 20 ∨ op = 21 := by omega
        have hsE : x.1 = 1 → y.1 = 1 → strictV op [x, y] = arV op x.2.1 y.2.1 := fun h1 h2 => by
          unfold strictV
          rw [if_neg (by omega), if_neg (by omega), if_neg (by omega), if_neg (by simp [h1, h2]), if_neg (by omega)]
          rfl
        have hsB : ¬ (x.1 = 1 ∧ y.1 = 1) → strictV op [x, y] = (zeroV0, 8) := fun h => st_nums (by omega) (by omega) [x, y] (by
          simp only [List.any_cons, List.any_nil, Bool.or_false, Bool.or_eq_true, decide_eq_true_eq]
          by_cases h1 : x.1 = 1
          · exact .inr (fun h2 => h ⟨h1, h2⟩)
          · exact .inl h1)
        have hn : r46 (op, (x.2.1, (y.2.1, Unit.unit))) = arR (arV op x.2.1 y.2.1) := arith_eq ha hb e3
        have d6 : ¬ op = 6 := by omega
        have d7 : ¬ op = 7 := by omega
        have d11 : ¬ op ≤ 11 := by omega
        have d19 : ¬ op = 19 := by omega
        have d17 : ¬ op = 17 := by omega
        simp only [d6, d7, d11, d19, d17, decide_false, cond_false]
        refine bind_loop (Post := fun o => (o = Sum.inl (((8 : Int), ((0 : Int), ((0 : Int), (emptyS, (false, ()))))), ()) ∧ ¬ (x.1 = 1 ∧ y.1 = 1)) ∨ (o = Sum.inr (Sum.inl ((), ())) ∧ x.1 = 1 ∧ y.1 = 1)) (loop_up embI 2 (fun j _ => (1 ≤ j → x.1 = 1) ∧ (2 ≤ j → y.1 = 1)) _ (fun j u hj hI => ?_) (fun u hI => ?_) 0 () (Nat.zero_le _) ⟨fun h => by omega, fun h => by omega⟩) (fun o ho => ?_)
        · have hj2 : j = 0 ∨ j = 1 := by omega
          rcases hj2 with rfl | rfl
          · by_cases hz : x.1 = 1
            · exact .inl ⟨(), by simp [embI, inB, hz]; decide, fun _ => hz, fun h => by omega⟩
            · exact .inr ⟨_, by simp [embI, inB, hz]; rfl, .inl ⟨rfl, fun h => hz h.1⟩⟩
          · have h0 := hI.1 (by omega)
            by_cases hz : y.1 = 1
            · exact .inl ⟨(), by simp [embI, inB, hz]; decide, fun _ => h0, fun _ => hz⟩
            · exact .inr ⟨_, by simp [embI, inB, hz]; rfl, .inl ⟨rfl, fun h => hz h.2⟩⟩
        · exact ⟨_, by simp [embI], .inr ⟨rfl, hI.1 (by omega), hI.2 (by omega)⟩⟩
        · rcases ho with ⟨rfl, h⟩ | ⟨rfl, h1, h2⟩
          · rw [hsB h]
            rfl
          · rw [hsE h1 h2]
            simp only [sumE, Int.reduceEq, Int.reduceLE, Int.reduceTMod, Int.reduceLT, decide_true, decide_false, cond_true, cond_false, List.length_cons, List.length_nil, Nat.reduceAdd, in0_1, in0_2, in1_2, List.getElem?_cons_zero, List.getElem?_cons_succ, Option.bind_some, hn, arR]
end Go.Proofs.YtfmadjkakghohaaGreatDoor.I

namespace Go.Proofs.YtfmadjkakghohaaGreatDoor.I
open Go.RowKit
set_option linter.unusedVariables false
set_option linter.unusedSimpArgs false
set_option linter.constructorNameAsVariable false
theorem reval_eq {f : DFea} (hF : FOk f) : ∀ (n : Nat) (t : DExp), 2 * sz t ≤ n → VE t → r14 n (t, (f, ())) = arR (evV f t) := by
  intro n
  induction n using Nat.strongRecOn with
  | _ n IH =>
    intro t hn hv
    obtain ⟨h1, h2⟩ := (VE_node t).1 hv
    have hsz := sz_node t
    have hkn : ∀ k ∈ Tree.kids t, 2 * sz k + 2 ≤ n := fun k hk => by
      have := szL_mem hk
      omega
    rw [evV_node]
    obtain ⟨l, rfl⟩ : ∃ l, n = l + 2 := ⟨n - 2, by omega⟩
    have hof : ∀ k ∈ Tree.kids t, r14 (l + 1) (k, (f, ())) = arR (evV f k) := fun k hk => IH (l + 1) (by omega) k (by have := hkn k hk; omega) (h2 k hk)
    have hlz : ∀ k ∈ Tree.kids t, r14 l (k, (f, ())) = arR (evV f k) := fun k hk => IH l (by omega) k (by have := hkn k hk; omega) (h2 k hk)
    have hva : ∀ k ∈ Tree.kids t, VA (evV f k) := fun k hk h0 => ev_ok hF (sz k) k (Nat.le_refl _) (h2 k hk) h0
    obtain ⟨g1, g2, g3⟩ := oneE_kids h1
    cases t with
    | node nd ks =>
      simp only [val_node, kids_node] at h1 h2 hof hlz hva g1 g2 g3 ⊢
      by_cases o1 : nd.1 = 0 ∨ nd.1 = 1 ∨ nd.1 = 2
      · exact reval_leaf (l + 1) nd f hF o1 ks
      by_cases o2 : nd.1 = 3 ∨ nd.1 = 4
      · obtain ⟨a, b, rfl⟩ := len2 (l := ks) (by rw [kidsN_two (by omega)] at g3; omega)
        exact reval_lazy (l + 1) nd _ f _ (by omega) (lazy_or l nd a b f _ _ (hva a (by simp)) (hva b (by simp)) o2 (hlz a (by simp)) (hlz b (by simp)))
      by_cases o3 : nd.1 = 5
      · obtain ⟨a, rfl⟩ := len1 (l := ks) (by rw [kidsN_one (by omega)] at g3; omega)
        exact reval_lazy (l + 1) nd _ f _ (by omega) (lazy_not l nd a f _ o3 (hlz a (by simp)))
      by_cases o4 : nd.1 = 18
      · obtain ⟨a, b, c, rfl⟩ := len3 (l := ks) (by rw [o4] at g3; have : kidsN 18 = 3 := rfl; omega)
        exact reval_lazy (l + 1) nd _ f _ (by omega) (lazy_if l nd a b c f _ _ _ o4 (hlz a (by simp)) (hlz b (by simp)) (hlz c (by simp)))
      exact reval_strict (l + 1) nd ks f hF (by omega) h1 h2 hof
theorem isTrue_eq (v : DVal) : (Bool.and (decide (v.1 = (3 : Int))) (Bool.and (decide (v.2.1 = (0 : Int))) (Bool.and (decide (v.2.2.1 = (ByteArray.mk (List.toArray (List.nil))))) (decide (v.2.2.2.1 = Bool.true))))) = decide (v = boolV true) := by
  obtain ⟨a, b, c, d, ⟨⟩⟩ := v
  rw [Bool.eq_iff_iff]
  simp [boolV, emptyS]
theorem yes_eq (n : Nat) (t : DExp) (f : DFea) (hn : 2 * sz t ≤ n) (hs : small kExp t) (hf : small kFea f) : r10 n (t, (f, ())) = some (decide ((ofV t f (expE t) (featV f)).2 = 0) && decide ((ofV t f (expE t) (featV f)).1 = boolV true), ()) := by
  have h := evalOf_eq n t f hn hs hf
  unfold arR at h
  have h : r8 n (t, ((f.1, (f.2.1, (f.2.2.1, (f.2.2.2.1, (f.2.2.2.2.1, (f.2.2.2.2.2.1, Unit.unit)))))), Unit.unit)) = some ((ofV t f (expE t) (featV f)).1, ((ofV t f (expE t) (featV f)).2, ())) := h
  unfold r10
  simp only [t_eta, h, Option.bind_some]
  generalize ofV t f (expE t) (featV f) = o
  by_cases h0 : o.2 = 0
  · rw [decide_eq_true h0]
    simp only [cond_true, r31, Option.bind_some, Bool.true_and]
    rw [isTrue_eq]
  · rw [decide_eq_false h0]
    rfl
theorem rtrue_eq (n : Nat) (t : DExp) (f : DFea) (hn : 2 * sz t ≤ n) (hs : small kExp t) (hf : small kFea f) : r11 n (t, (f, ())) = some (decide ((ofV t f (expE t) (featV f)).2 = 0) && decide ((ofV t f (expE t) (featV f)).1 = boolV true), ()) := by
  have he := exprErr_eq n t (by omega) hs
  have hfe := r19_eq f hf
  have hfe : r13 ((f.1, (f.2.1, (f.2.2.1, (f.2.2.2.1, (f.2.2.2.2.1, (f.2.2.2.2.2.1, Unit.unit)))))), Unit.unit) = some (featV f, ()) := hfe
  unfold r11 ofV
  simp only [t_eta, he, Option.bind_some]
  by_cases h1 : expE t = 0
  rotate_left
  · rw [if_pos h1, decide_eq_false h1]
    simp only [Bool.not_false, cond_true, decide_eq_false h1, Bool.false_and]
  rw [if_neg (by simpa using h1), decide_eq_true h1]
  simp only [Bool.not_true, cond_false, hfe, Option.bind_some]
  by_cases h2 : featV f = 0
  rotate_left
  · rw [if_pos h2, decide_eq_false h2]
    simp only [Bool.not_false, cond_true, decide_eq_false h2, Bool.false_and]
  rw [if_neg (by simpa using h2), decide_eq_true h2]
  have g1 := reval_eq (fOk_of hf h2) n t hn (ve_of t 1 0 h1)
  have g1 : r14 n (t, ((f.1, (f.2.1, (f.2.2.1, (f.2.2.2.1, (f.2.2.2.2.1, (f.2.2.2.2.2.1, Unit.unit)))))), Unit.unit)) = some ((evV f t).1, ((evV f t).2, ())) := g1
  simp only [Bool.not_true, cond_false, g1, Option.bind_some]
  by_cases h3 : (evV f t).2 = 0
  · rw [if_neg (by simpa using h3), decide_eq_true h3]
    simp only [cond_true, Bool.true_and]
    rw [isTrue_eq]
  · rw [if_pos h3, decide_eq_false h3]
    simp only [cond_false, decide_eq_false h3, Bool.false_and]
def dotE : DFea := (1, (1, ([[(3, (4, ()))]], ([], (0, (9, ()))))))
theorem dotE_ok : featV dotE = 0 := by
  have : partsV 1 [[((3 : Int), ((4 : Int), ()))]] = 0 := by
    unfold partsV partsE
    simp [partE, far]
  unfold featV dotE
  simp only [this]
  have h2 : attrsE false [] = 0 := by simp [attrsE, scan]
  simp [h2]
theorem iwf (n : Int) (h : (Lit.int .i64 n).wf = true) : small (.int .i64) n := h
theorem dotE_small : small kFea dotE := by
  refine ⟨iwf 1 rfl, iwf 1 rfl, ⟨by decide, fun p hp => ?_⟩, ⟨by decide, fun a ha => by cases ha⟩, iwf 0 rfl, iwf 9 rfl, trivial⟩
  have hp : p ∈ [[((3 : Int), ((4 : Int), ()))]] := hp
  simp only [List.mem_singleton] at hp
  subst hp
  refine ⟨by decide, fun q hq => ?_⟩
  have hq : q ∈ [((3 : Int), ((4 : Int), ()))] := hq
  simp only [List.mem_singleton] at hq
  subst hq
  exact ⟨iwf 3 rfl, iwf 4 rfl, trivial⟩
def twoE : DExp := .node (0, (numV 2, (emptyS, ()))) []
theorem twoE_small : small kExp twoE := ⟨⟨iwf 0 rfl, ⟨iwf 1 rfl, iwf 2 rfl, (by decide : (0 : Nat) ≤ maxLen), trivial, trivial⟩, (by decide : (0 : Nat) ≤ maxLen), trivial⟩, by decide, trivial⟩
theorem twoE_ok : expE twoE = 0 := by
  have h : oneE (0, (numV 2, (emptyS, ()))) 0 = 0 := by
    unfold oneE
    have hk : kidsN 0 = 0 := rfl
    have hv : checkV (numV 2) = 0 := rfl
    simp [hk, hv]
  have hn : nodeE 0 (twoE, 1) = 0 := by
    unfold nodeE
    rw [if_neg (by simp)]
    exact h
  have hk : Tree.kids twoE = [] := rfl
  unfold expE
  rw [pre_node, hk]
  simp [firstE, hn, preL]
theorem two_val : ofV twoE dotE (expE twoE) (featV dotE) = (numV 2, 0) := by
  rw [twoE_ok, dotE_ok]
  have : evV dotE twoE = (numV 2, 0) := by
    unfold twoE
    simp only [evV, evL, opV, if_true]
  unfold ofV
  rw [this]
  rfl
set_option maxHeartbeats 8000000 in
theorem evalTells_raw (t : DExp) (f : DFea) (hs : small kExp t) (hf : small kFea f) : r3 (2 * sz t + 2) (t, (f, ())) = some (true, ()) := by
  have hd : r9 () = some ([dotE], ()) := rfl
  have h2 := evalOf_eq (2 * sz t + 2) twoE dotE (by unfold twoE; simp only [sz, szL]; omega) twoE_small dotE_small
  rw [two_val] at h2
  have h2 : r8 (2 * sz t + 2) ((Tree.node ((0 : Int), (((1 : Int), ((2 : Int), ((ByteArray.mk (List.toArray (List.nil))), (Bool.false, Unit.unit)))), ((ByteArray.mk (List.toArray (List.nil))), Unit.unit))) (List.nil)), ((dotE.1, (dotE.2.1, (dotE.2.2.1, (dotE.2.2.2.1, (dotE.2.2.2.2.1, (dotE.2.2.2.2.2.1, Unit.unit)))))), Unit.unit)) = some (numV 2, ((0 : Int), ())) := h2
  have hO := evalOf_eq (2 * sz t + 2) t f (by omega) hs hf
  have hO : r8 (2 * sz t + 2) (t, ((f.1, (f.2.1, (f.2.2.1, (f.2.2.2.1, (f.2.2.2.2.1, (f.2.2.2.2.2.1, Unit.unit)))))), Unit.unit)) = some ((ofV t f (expE t) (featV f)).1, ((ofV t f (expE t) (featV f)).2, ())) := hO
  have hY := yes_eq (2 * sz t + 2) t f (by omega) hs hf
  have hY : r10 (2 * sz t + 2) (t, ((f.1, (f.2.1, (f.2.2.1, (f.2.2.2.1, (f.2.2.2.2.1, (f.2.2.2.2.2.1, Unit.unit)))))), Unit.unit)) = _ := hY
  have hT := rtrue_eq (2 * sz t + 2) t f (by omega) hs hf
  have hT : r11 (2 * sz t + 2) (t, ((f.1, (f.2.1, (f.2.2.1, (f.2.2.2.1, (f.2.2.2.2.1, (f.2.2.2.2.2.1, Unit.unit)))))), Unit.unit)) = _ := hT
  have hE := exprErr_eq (2 * sz t + 2) t (by omega) hs
  have hfe := r19_eq f hf
  have hfe : r13 ((f.1, (f.2.1, (f.2.2.1, (f.2.2.2.1, (f.2.2.2.2.1, (f.2.2.2.2.2.1, Unit.unit)))))), Unit.unit) = some (featV f, ()) := hfe
  have i0 : inB (0 : Int) (List.length [dotE]) = true := rfl
  unfold r3
  simp only [hd, i0, List.getElem?_cons_zero, Option.bind_some, cond_true, h2, t_eta, hO, hY, hT, hE, hfe]
  have n1 : decide ((numV 2).1 = (1 : Int)) = true := rfl
  have n2 : decide ((numV 2).2.1 = (2 : Int)) = true := rfl
  have n3 : decide ((numV 2).2.2.1 = (ByteArray.mk (List.toArray (List.nil)))) = true := rfl
  have n4 : decide ((numV 2).2.2.2.1 = Bool.false) = true := rfl
  simp only [n1, n2, n3, n4, decide_true, Bool.not_true, cond_false, Bool.and_true]
  by_cases h1 : expE t = 0
  rotate_left
  · have e : ofV t f (expE t) (featV f) = (zeroV0, expE t) := by unfold ofV; rw [if_pos h1]
    rw [e]
    simp only [h1, decide_false, decide_true, Bool.not_false, cond_true, cond_false]
    rfl
  by_cases h3 : featV f = 0
  rotate_left
  · have e : ofV t f (expE t) (featV f) = (zeroV0, featV f) := by unfold ofV; rw [if_neg (by simpa using h1), if_pos h3]
    rw [e]
    simp only [h1, h3, decide_false, decide_true, Bool.not_false, cond_true, cond_false]
    rfl
  have g1 := reval_eq (fOk_of hf h3) (2 * sz t + 2) t (by omega) (ve_of t 1 0 h1)
  have g1 : r14 (2 * sz t + 2) (t, ((f.1, (f.2.1, (f.2.2.1, (f.2.2.2.1, (f.2.2.2.2.1, (f.2.2.2.2.2.1, Unit.unit)))))), Unit.unit)) = some ((evV f t).1, ((evV f t).2, ())) := g1
  by_cases h4 : (evV f t).2 = 0
  rotate_left
  · have e : ofV t f (expE t) (featV f) = (zeroV0, (evV f t).2) := by unfold ofV; rw [if_neg (by simpa using h1), if_neg (by simpa using h3), if_pos h4]
    rw [e]
    simp only [h1, h3, h4, g1, Option.bind_some, decide_false, decide_true, Bool.not_false, cond_true, cond_false]
    rfl
  · have e : ofV t f (expE t) (featV f) = evV f t := by unfold ofV; rw [if_neg (by simpa using h1), if_neg (by simpa using h3), if_neg (by simpa using h4)]
    rw [e]
    simp only [h1, h3, h4, g1, Option.bind_some, decide_false, decide_true, Bool.not_false, Bool.not_true, cond_true, cond_false, Bool.and_self]
end Go.Proofs.YtfmadjkakghohaaGreatDoor.I

namespace Go.Proofs.YtfmadjkakghohaaGreatDoor.I
open Go.RowKit
theorem fTab_of_reads {P : Program} {w : World} {n : String} {k : IntKind} {zs : List Int} {t e : TypeId} {m : Nat} (h : Lib.VarReads P w n (Lib.tabData k zs)) (hty : ((P.globalNamed n).bind fun g => (P.globals[g]?).map (·.type)) = some t)
    (ht : P.underlying t = some (.array m e)) (he : P.underlying e = some (.int k)) (hce : P.cellsOf e = 1) (hct : P.cellsOf t = m) : Lib.TabIs P w n k zs := by
  obtain ⟨g', t', cs, fuel, p, hg', ht', hv, hd⟩ := h
  rw [hg', Option.bind_some] at hty
  obtain rfl := Option.some.inj (hty.symm.trans ht')
  unfold Lib.TabIs
  rw [hv, ← Lib.cells_of_tab ht he hce hct hd]
set_option maxRecDepth 100000 in
theorem gF_of_laid {w : World} {l : List (String × DataW Unit)} (h : laidMet Tryz.prog l w) (h3 : ("strings.asciiSpace", Rows.laid_strings_asciiSpace) ∈ l) : gF w :=
  fTab_of_reads (zs := Lib.asciiSpaceTab) (Lib.laidMet.reads h h3) (by kernel_rfl) Tryz.underlying152 Tryz.underlying5 (by kernel_rfl) (by kernel_rfl)
end Go.Proofs.YtfmadjkakghohaaGreatDoor.I
