import Derived.Test.YtgabpbnndikheaaFm3
import Derived.Lib.ItoaLen
import Derived.OpenShut
import Derived.Lib.Small
import Derived.Lib.Join
namespace Go.Proofs.Ytgabpbnndikheaa.I
open Go.RowKit
set_option linter.unusedVariables false
set_option linter.constructorNameAsVariable false
def Near (q : DPt) : Prop := (-1000 ≤ q.1 ∧ q.1 ≤ 1000) ∧ (-1000 ≤ q.2.1 ∧ q.2.1 ≤ 1000)
theorem mul_bd {a b : Int} {m n : Nat} (ha : -(m : Int) ≤ a ∧ a ≤ m) (hb : -(n : Int) ≤ b ∧ b ≤ n) : -((m * n : Nat) : Int) ≤ a * b ∧ a * b ≤ ((m * n : Nat) : Int) := by
  have h1 : (a * b).natAbs ≤ m * n := by
    rw [Int.natAbs_mul]
    exact Nat.mul_le_mul (by omega) (by omega)
  omega
theorem clamp_near {x : Int} (h : -1000 ≤ x ∧ x ≤ 1000) : maxI (-1048576) (minI x 1048576) = x := by
  unfold maxI minI
  split <;> split <;> omega
theorem clampN (q : DPt) (h : Near q) : r70 (q, ()) = some (q, ()) := by
  obtain ⟨x, y, ⟨⟩⟩ := q
  unfold r70 r75
  have h1 := clamp_near h.1
  have h2 := clamp_near h.2
  have h3 : IntKind.wrap .i64 (0 - 1048576) = -1048576 := wrap64 (by omega) (by omega)
  simp only at h1 h2
  simp only [Option.bind_some, h3, h1, h2]
def wayD (a b : DPt) : DPt := (b.1 - a.1, (b.2.1 - a.2.1, ()))
theorem way_eq (a b : DPt) (ha : Near a) (hb : Near b) : r87 (a, (b, ())) = some (wayD a b, ()) := by
  unfold r87
  have e1 : r70 ((a.1, (a.2.1, ())), ()) = some (a, ()) := clampN a ha
  have e2 : r70 ((b.1, (b.2.1, ())), ()) = some (b, ()) := clampN b hb
  obtain ⟨⟨h1, h2⟩, h3, h4⟩ := ha
  obtain ⟨⟨h5, h6⟩, h7, h8⟩ := hb
  simp only [e1, e2, Option.bind_some]
  rw [wrap64 (by omega) (by omega), wrap64 (by omega) (by omega)]
  rfl
def crossD (a b c : DPt) : Int := (b.1 - a.1) * (c.2.1 - a.2.1) - (b.2.1 - a.2.1) * (c.1 - a.1)
def dotD (a b c : DPt) : Int := (b.1 - a.1) * (c.1 - a.1) + (b.2.1 - a.2.1) * (c.2.1 - a.2.1)
theorem way_bd {a b : DPt} (ha : Near a) (hb : Near b) : (-((2000 : Nat) : Int) ≤ b.1 - a.1 ∧ b.1 - a.1 ≤ ((2000 : Nat) : Int)) ∧ (-((2000 : Nat) : Int) ≤ b.2.1 - a.2.1 ∧ b.2.1 - a.2.1 ≤ ((2000 : Nat) : Int)) := by
  obtain ⟨⟨h1, h2⟩, h3, h4⟩ := ha
  obtain ⟨⟨h5, h6⟩, h7, h8⟩ := hb
  omega
theorem cross_eq (a b c : DPt) (ha : Near a) (hb : Near b) (hc : Near c) : r83 (a, (b, (c, ()))) = some (crossD a b c, ()) := by
  unfold r83
  have e1 : r87 ((a.1, (a.2.1, ())), ((b.1, (b.2.1, ())), ())) = some (wayD a b, ()) := way_eq a b ha hb
  have e2 : r87 ((a.1, (a.2.1, ())), ((c.1, (c.2.1, ())), ())) = some (wayD a c, ()) := way_eq a c ha hc
  obtain ⟨h1, h2⟩ := way_bd ha hb
  obtain ⟨h3, h4⟩ := way_bd ha hc
  have k1 := mul_bd h1 h4
  have k2 := mul_bd h2 h3
  simp only [e1, e2, Option.bind_some, wayD]
  rw [wrap64 (n := (b.1 - a.1) * (c.2.1 - a.2.1)) (by omega) (by omega), wrap64 (n := (b.2.1 - a.2.1) * (c.1 - a.1)) (by omega) (by omega), wrap64 (by omega) (by omega)]
  rfl
theorem dot_eq (a b c : DPt) (ha : Near a) (hb : Near b) (hc : Near c) : r88 (a, (b, (c, ()))) = some (dotD a b c, ()) := by
  unfold r88
  have e1 : r87 ((a.1, (a.2.1, ())), ((b.1, (b.2.1, ())), ())) = some (wayD a b, ()) := way_eq a b ha hb
  have e2 : r87 ((a.1, (a.2.1, ())), ((c.1, (c.2.1, ())), ())) = some (wayD a c, ()) := way_eq a c ha hc
  obtain ⟨h1, h2⟩ := way_bd ha hb
  obtain ⟨h3, h4⟩ := way_bd ha hc
  have k1 := mul_bd h1 h3
  have k2 := mul_bd h2 h4
  simp only [e1, e2, Option.bind_some, wayD]
  rw [wrap64 (n := (b.1 - a.1) * (c.1 - a.1)) (by omega) (by omega), wrap64 (n := (b.2.1 - a.2.1) * (c.2.1 - a.2.1)) (by omega) (by omega), wrap64 (by omega) (by omega)]
  rfl
def sg (x : Int) : Int := if x < 0 then -1 else if 0 < x then 1 else 0
theorem cmp0_eq (x : Int) : r82 (x, ((0 : Int), ())) = some (sg x, ()) := by
  unfold r82 r86 sg
  simp only [Option.bind_some, decide_true, Bool.not_true, cond_false]
  by_cases h1 : x < 0
  · simp only [decide_eq_true h1, cond_true, if_pos h1]
  · by_cases h2 : 0 < x
    · simp only [decide_eq_false h1, decide_eq_true h2, cond_true, cond_false, if_neg h1, if_pos h2]
    · simp only [decide_eq_false h1, decide_eq_false h2, cond_false, if_neg h1, if_neg h2]
def turnD (a b c : DPt) : Int := sg (crossD a b c)
theorem sg_bd (x : Int) : -((1 : Nat) : Int) ≤ sg x ∧ sg x ≤ ((1 : Nat) : Int) := by
  unfold sg
  split
  · omega
  · split <;> omega
theorem turn_eq (a b c : DPt) (ha : Near a) (hb : Near b) (hc : Near c) : r79 (a, (b, (c, ()))) = some (turnD a b c, ()) := by
  unfold r79
  have e1 : r83 ((a.1, (a.2.1, ())), ((b.1, (b.2.1, ())), ((c.1, (c.2.1, ())), ()))) = some (crossD a b c, ()) := cross_eq a b c ha hb hc
  simp only [e1, Option.bind_some]
  exact bind_of (cmp0_eq (crossD a b c)) rfl
def onD (a b p : DPt) : Bool := decide (turnD a b p = 0) && decide (dotD p a b ≤ 0)
theorem on_eq (a b p : DPt) (ha : Near a) (hb : Near b) (hp : Near p) : r85 (a, (b, (p, ()))) = some (onD a b p, ()) := by
  unfold r85 onD
  have e1 : r79 ((a.1, (a.2.1, ())), ((b.1, (b.2.1, ())), ((p.1, (p.2.1, ())), ()))) = some (turnD a b p, ()) := turn_eq a b p ha hb hp
  have e2 : r88 ((p.1, (p.2.1, ())), ((a.1, (a.2.1, ())), ((b.1, (b.2.1, ())), ()))) = some (dotD p a b, ()) := dot_eq p a b hp ha hb
  simp only [e1, e2, Option.bind_some]
  cases decide (turnD a b p = 0) <;> rfl
def sameP (a b : DPt) : Bool := decide (a.1 = b.1) && decide (a.2.1 = b.2.1)
def addD (d : List DPt) (p q r : DPt) : List DPt := cond (onD q r p) (cond (d.any fun x => sameP x p) d (d ++ [p])) d
theorem add_eq (d : List DPt) (p q r : DPt) (hd : d.length ≤ 1000) (hp : Near p) (hq : Near q) (hr : Near r) : r84 (p, (q, (r, ()))) (d, ()) = some ((), (addD d p q r, ())) := by
  unfold r84 addD
  have e1 : r85 ((q.1, (q.2.1, ())), ((r.1, (r.2.1, ())), ((p.1, (p.2.1, ())), ()))) = some (onD q r p, ()) := on_eq q r p hq hr hp
  simp only [e1, Option.bind_some]
  cases onD q r p with
  | false => rfl
  | true =>
    simp only [Bool.not_true, cond_false, cond_true]
    refine bind_loop (loop_up (fun (i : Int) (_ : Unit) => ((i, ()), ())) d.length (fun i _ => (d.take i).any (fun x => sameP x p) = false) (fun o => (o = Sum.inl ((), ()) ∧ d.any (fun x => sameP x p) = true) ∨ (o = Sum.inr (Sum.inl ((), ())) ∧ d.any (fun x => sameP x p) = false)) (fun i s hi hs => ?_) (fun s hs => ?_) 0 () (Nat.zero_le _) rfl) ?_
    · obtain ⟨x, hx⟩ := get_lt hi
      simp only [dec_lt hi, inB_lt hi, Int.toNat_natCast, hx, cond_true, Option.bind_some]
      have hxs : (decide (x.1 = p.1) && decide (x.2.1 = p.2.1)) = sameP x p := rfl
      cases hc : sameP x p with
      | true =>
        refine .inr ⟨_, by simp only [hxs, hc, cond_true], .inl ⟨rfl, List.any_eq_true.2 ⟨x, List.mem_of_getElem? hx, hc⟩⟩⟩
      | false =>
        refine .inl ⟨(), by simp only [hxs, hc, cond_false]; rw [wrapS hi (by omega)], ?_⟩
        rw [take_succ hx, List.any_append, hs]
        simp [hc]
    · rw [List.take_length] at hs
      exact ⟨_, by simp only [dec_nlt, cond_false], .inr ⟨rfl, hs⟩⟩
    · rintro o (⟨rfl, h⟩ | ⟨rfl, h⟩)
      · rw [h]
        rfl
      · rw [h]
        have hf : fits (d.length + 1) 16 = true := by unfold fits; simp; omega
        simp only [sumE, List.length_cons, List.length_nil, Nat.zero_add, hf, cond_true, cond_false]
theorem add_len (d : List DPt) (p q r : DPt) : (addD d p q r).length ≤ d.length + 1 := by
  unfold addD
  cases onD q r p with
  | false => simp
  | true =>
    cases d.any fun x => sameP x p with
    | true => simp
    | false => simp
def sharedD (a b c d : DPt) : List DPt := addD (addD (addD (addD [] a c d) b c d) c a b) d a b
theorem shared_eq (a b c d : DPt) (ha : Near a) (hb : Near b) (hc : Near c) (hd : Near d) : r80 (a, (b, (c, (d, ())))) = some (sharedD a b c d, ()) := by
  unfold r80 sharedD
  have l1 := add_len [] a c d
  have l2 := add_len (addD [] a c d) b c d
  have l3 := add_len (addD (addD [] a c d) b c d) c a b
  simp only [List.length_nil] at l1
  have e1 : r84 ((a.1, (a.2.1, ())), ((c.1, (c.2.1, ())), ((d.1, (d.2.1, ())), ()))) ([], ()) = some ((), (addD [] a c d, ())) := add_eq [] a c d (by simp) ha hc hd
  have e2 : r84 ((b.1, (b.2.1, ())), ((c.1, (c.2.1, ())), ((d.1, (d.2.1, ())), ()))) (addD [] a c d, ()) = some ((), (addD (addD [] a c d) b c d, ())) := add_eq _ b c d (by omega) hb hc hd
  have e3 : r84 ((c.1, (c.2.1, ())), ((a.1, (a.2.1, ())), ((b.1, (b.2.1, ())), ()))) (addD (addD [] a c d) b c d, ()) = some ((), (addD (addD (addD [] a c d) b c d) c a b, ())) := add_eq _ c a b (by omega) hc ha hb
  have e4 : r84 ((d.1, (d.2.1, ())), ((a.1, (a.2.1, ())), ((b.1, (b.2.1, ())), ()))) (addD (addD (addD [] a c d) b c d) c a b, ()) = some ((), (addD (addD (addD (addD [] a c d) b c d) c a b) d a b, ())) := add_eq _ d a b (by omega) hd ha hb
  simp only [e1, e2, e3, e4, Option.bind_some]
def meetD (a b c d : DPt) : Int := cond (decide (turnD a b c * turnD a b d < 0) && decide (turnD c d a * turnD c d b < 0)) 1 (minI 2 ((sharedD a b c d).length : Int))
theorem meet_eq (a b c d : DPt) (ha : Near a) (hb : Near b) (hc : Near c) (hd : Near d) : r76 (a, (b, (c, (d, ())))) = some (meetD a b c d, ()) := by
  unfold r76 meetD
  have c1 : r70 ((a.1, (a.2.1, ())), ()) = some (a, ()) := clampN a ha
  have c2 : r70 ((b.1, (b.2.1, ())), ()) = some (b, ()) := clampN b hb
  have c3 : r70 ((c.1, (c.2.1, ())), ()) = some (c, ()) := clampN c hc
  have c4 : r70 ((d.1, (d.2.1, ())), ()) = some (d, ()) := clampN d hd
  have t1 : r79 ((a.1, (a.2.1, ())), ((b.1, (b.2.1, ())), ((c.1, (c.2.1, ())), ()))) = some (turnD a b c, ()) := turn_eq a b c ha hb hc
  have t2 : r79 ((a.1, (a.2.1, ())), ((b.1, (b.2.1, ())), ((d.1, (d.2.1, ())), ()))) = some (turnD a b d, ()) := turn_eq a b d ha hb hd
  have t3 : r79 ((c.1, (c.2.1, ())), ((d.1, (d.2.1, ())), ((a.1, (a.2.1, ())), ()))) = some (turnD c d a, ()) := turn_eq c d a hc hd ha
  have t4 : r79 ((c.1, (c.2.1, ())), ((d.1, (d.2.1, ())), ((b.1, (b.2.1, ())), ()))) = some (turnD c d b, ()) := turn_eq c d b hc hd hb
  have s1 : r80 ((a.1, (a.2.1, ())), ((b.1, (b.2.1, ())), ((c.1, (c.2.1, ())), ((d.1, (d.2.1, ())), ())))) = some (sharedD a b c d, ()) := shared_eq a b c d ha hb hc hd
  have k1 := mul_bd (sg_bd (crossD a b c)) (sg_bd (crossD a b d))
  have k2 := mul_bd (sg_bd (crossD c d a)) (sg_bd (crossD c d b))
  have w1 : IntKind.wrap .i64 (turnD a b c * turnD a b d) = turnD a b c * turnD a b d := by unfold turnD; exact wrap64 (by omega) (by omega)
  have w2 : IntKind.wrap .i64 (turnD c d a * turnD c d b) = turnD c d a * turnD c d b := by unfold turnD; exact wrap64 (by omega) (by omega)
  simp only [c1, c2, c3, c4, t1, t2, t3, t4, s1, w1, w2, Option.bind_some]
  cases decide (turnD a b c * turnD a b d < 0) with
  | false => rfl
  | true =>
    cases decide (turnD c d a * turnD c d b < 0) with
    | false => rfl
    | true => rfl
def cornersD (a b c d : DPt) : Bool := cond (decide (meetD a b c d = 0)) true (cond (decide (meetD a b c d = 1)) (sameP a c || (sameP a d || (sameP b c || sameP b d))) false)
theorem corners_eq (a b c d : DPt) (ha : Near a) (hb : Near b) (hc : Near c) (hd : Near d) : r73 (a, (b, (c, (d, ())))) = some (cornersD a b c d, ()) := by
  unfold r73 cornersD
  have e1 : r76 ((a.1, (a.2.1, ())), ((b.1, (b.2.1, ())), ((c.1, (c.2.1, ())), ((d.1, (d.2.1, ())), ())))) = some (meetD a b c d, ()) := meet_eq a b c d ha hb hc hd
  simp only [e1, Option.bind_some]
  cases decide (meetD a b c d = 0) with
  | true => rfl
  | false =>
    cases decide (meetD a b c d = 1) with
    | false => rfl
    | true =>
      show cond (sameP a c) _ (cond (sameP a d) _ (cond (sameP b c) _ (some (sameP b d, ())))) = _
      cases sameP a c <;> cases sameP a d <;> cases sameP b c <;> rfl
end Go.Proofs.Ytgabpbnndikheaa.I

namespace Go.Proofs.Ytgabpbnndikheaa.I
open Go.RowKit
set_option linter.unusedVariables false
set_option linter.constructorNameAsVariable false
def getP (r : List DPt) (i : Nat) : DPt := (r[i]?).getD (0, (0, ()))
def nxtP (r : List DPt) (i : Nat) : DPt := getP r ((i + 1) % r.length)
theorem getP_some {r : List DPt} {i : Nat} (h : i < r.length) : r[i]? = some (getP r i) := by
  unfold getP
  obtain ⟨a, ha⟩ := get_lt h
  rw [ha]; rfl
theorem getP_mem {r : List DPt} {i : Nat} (h : i < r.length) : getP r i ∈ r := List.mem_of_getElem? (getP_some h)
theorem tmod_nat (i n : Nat) : Int.tmod ((i : Int) + 1) (n : Int) = (((i + 1) % n : Nat) : Int) := by
  have h : ((i : Int) + 1) = ((i + 1 : Nat) : Int) := by omega
  rw [h]
  rfl
theorem nxt_lt {r : List DPt} {i : Nat} (h : i < r.length) : (i + 1) % r.length < r.length := Nat.mod_lt _ (by omega)
def NearL (r : List DPt) : Prop := ∀ q ∈ r, Near q
theorem near_get {r : List DPt} (hr : NearL r) {i : Nat} (h : i < r.length) : Near (getP r i) := hr _ (getP_mem h)
theorem near_nxt {r : List DPt} (hr : NearL r) {i : Nat} (h : i < r.length) : Near (nxtP r i) := near_get hr (nxt_lt h)
def stepS (px py : Int) (c d : DPt) (v : Int) : Int :=
  if d.2.1 < c.2.1 then (if 2 * d.2.1 < py then (if py ≤ 2 * c.2.1 then (if 0 < (c.1 - d.1) * (py - 2 * d.2.1) - (c.2.1 - d.2.1) * (px - 2 * d.1) then 0 - v else v) else v) else v)
  else (if 2 * c.2.1 < py then (if py ≤ 2 * d.2.1 then (if 0 < (d.1 - c.1) * (py - 2 * c.2.1) - (d.2.1 - c.2.1) * (px - 2 * c.1) then 0 - v else v) else v) else v)
def sideTo (px py : Int) (s : List DPt) (n : Nat) : Int := (List.range n).foldl (fun v k => stepS px py (getP s k) (nxtP s k) v) (-1)
def sideD (r : List DPt) (i : Nat) (s : List DPt) : Int := sideTo ((getP r i).1 + (nxtP r i).1) ((getP r i).2.1 + (nxtP r i).2.1) s s.length
theorem stepS_bd {px py v : Int} {c d : DPt} (h : -1 ≤ v ∧ v ≤ 1) : -1 ≤ stepS px py c d v ∧ stepS px py c d v ≤ 1 := by
  unfold stepS
  split
  · split
    · split
      · split <;> omega
      · exact h
    · exact h
  · split
    · split
      · split <;> omega
      · exact h
    · exact h
theorem sideTo_succ (px py : Int) (s : List DPt) (n : Nat) : sideTo px py s (n + 1) = stepS px py (getP s n) (nxtP s n) (sideTo px py s n) := by
  unfold sideTo
  rw [List.range_succ, List.foldl_append]
  rfl
theorem sideTo_bd (px py : Int) (s : List DPt) : ∀ n, -1 ≤ sideTo px py s n ∧ sideTo px py s n ≤ 1
  | 0 => by unfold sideTo; simp
  | n + 1 => by rw [sideTo_succ]; exact stepS_bd (sideTo_bd px py s n)
@[reducible] def embV (i : Int) (v : Int) : (Int × Int × Unit) × Unit := ((v, (i, ())), ())
theorem side_eq (r s : List DPt) (i : Nat) (hi : i < r.length) (hr : NearL r) (hs : NearL s) (hl : r.length ≤ 200) (hm : s.length ≤ 200) : r77 (r, ((i : Int), (s, ()))) = some (sideD r i s, ()) := by
  unfold r77 sideD
  have hn := nxt_lt hi
  have w1 : IntKind.wrap .i64 ((i : Int) + 1) = (i : Int) + 1 := wrapS hi (by omega)
  have h0 : decide ((r.length : Int) = 0) = false := decide_eq_false (by omega)
  obtain ⟨⟨a1, a2⟩, a3, a4⟩ := near_get hr hi
  obtain ⟨⟨b1, b2⟩, b3, b4⟩ := near_nxt hr hi
  have g2 : r[(i + 1) % r.length]? = some (nxtP r i) := getP_some hn
  simp only [inB_lt hi, Int.toNat_natCast, getP_some hi, cond_true, Option.bind_some, h0, cond_false, w1, tmod_nat, inB_lt hn, g2]
  generalize getP r i = a at *
  generalize nxtP r i = b at *
  have w2 : IntKind.wrap .i64 (a.2.1 + b.2.1) = a.2.1 + b.2.1 := wrap64 (by omega) (by omega)
  have w3 : IntKind.wrap .i64 (a.1 + b.1) = a.1 + b.1 := wrap64 (by omega) (by omega)
  simp only [w2, w3]
  refine loop_is embV s.length (fun k => sideTo (a.1 + b.1) (a.2.1 + b.2.1) s k) (fun v => Sum.inl ((v, ()), ())) (fun k hk => ?_) ?_ ?_ (-1) rfl
  · have hk2 := nxt_lt hk
    have w4 : IntKind.wrap .i64 ((k : Int) + 1) = (k : Int) + 1 := wrapS hk (by omega)
    have h1 : decide ((s.length : Int) = 0) = false := decide_eq_false (by omega)
    have g4 : s[(k + 1) % s.length]? = some (nxtP s k) := getP_some hk2
    obtain ⟨⟨c1, c2⟩, c3, c4⟩ := near_get hs hk
    obtain ⟨⟨d1, d2⟩, d3, d4⟩ := near_nxt hs hk
    simp only [embV, dec_lt hk, inB_lt hk, Int.toNat_natCast, getP_some hk, cond_true, Option.bind_some, h1, cond_false, w4, tmod_nat, inB_lt hk2, g4, sideTo_succ]
    generalize getP s k = c at *
    generalize nxtP s k = d at *
    have hv := sideTo_bd (a.1 + b.1) (a.2.1 + b.2.1) s k
    generalize sideTo (a.1 + b.1) (a.2.1 + b.2.1) s k = v at *
    have w5 : IntKind.wrap .i64 (0 - v) = 0 - v := wrap64 (by omega) (by omega)
    have w6 : IntKind.wrap .i64 (2 * c.2.1) = 2 * c.2.1 := wrap64 (by omega) (by omega)
    have w7 : IntKind.wrap .i64 (2 * d.2.1) = 2 * d.2.1 := wrap64 (by omega) (by omega)
    have w8 : IntKind.wrap .i64 (2 * c.1) = 2 * c.1 := wrap64 (by omega) (by omega)
    have w9 : IntKind.wrap .i64 (2 * d.1) = 2 * d.1 := wrap64 (by omega) (by omega)
    have v1 : IntKind.wrap .i64 (c.1 - d.1) = c.1 - d.1 := wrap64 (by omega) (by omega)
    have v2 : IntKind.wrap .i64 (c.2.1 - d.2.1) = c.2.1 - d.2.1 := wrap64 (by omega) (by omega)
    have v3 : IntKind.wrap .i64 (d.1 - c.1) = d.1 - c.1 := wrap64 (by omega) (by omega)
    have v4 : IntKind.wrap .i64 (d.2.1 - c.2.1) = d.2.1 - c.2.1 := wrap64 (by omega) (by omega)
    have v5 : IntKind.wrap .i64 (a.2.1 + b.2.1 - 2 * d.2.1) = a.2.1 + b.2.1 - 2 * d.2.1 := wrap64 (by omega) (by omega)
    have v6 : IntKind.wrap .i64 (a.1 + b.1 - 2 * d.1) = a.1 + b.1 - 2 * d.1 := wrap64 (by omega) (by omega)
    have v7 : IntKind.wrap .i64 (a.2.1 + b.2.1 - 2 * c.2.1) = a.2.1 + b.2.1 - 2 * c.2.1 := wrap64 (by omega) (by omega)
    have v8 : IntKind.wrap .i64 (a.1 + b.1 - 2 * c.1) = a.1 + b.1 - 2 * c.1 := wrap64 (by omega) (by omega)
    have m1 := mul_bd (a := c.1 - d.1) (b := a.2.1 + b.2.1 - 2 * d.2.1) (m := 2000) (n := 4000) (by omega) (by omega)
    have m2 := mul_bd (a := c.2.1 - d.2.1) (b := a.1 + b.1 - 2 * d.1) (m := 2000) (n := 4000) (by omega) (by omega)
    have m3 := mul_bd (a := d.1 - c.1) (b := a.2.1 + b.2.1 - 2 * c.2.1) (m := 2000) (n := 4000) (by omega) (by omega)
    have m4 := mul_bd (a := d.2.1 - c.2.1) (b := a.1 + b.1 - 2 * c.1) (m := 2000) (n := 4000) (by omega) (by omega)
    have u1 : IntKind.wrap .i64 ((c.1 - d.1) * (a.2.1 + b.2.1 - 2 * d.2.1)) = (c.1 - d.1) * (a.2.1 + b.2.1 - 2 * d.2.1) := wrap64 (by omega) (by omega)
    have u2 : IntKind.wrap .i64 ((c.2.1 - d.2.1) * (a.1 + b.1 - 2 * d.1)) = (c.2.1 - d.2.1) * (a.1 + b.1 - 2 * d.1) := wrap64 (by omega) (by omega)
    have u3 : IntKind.wrap .i64 ((d.1 - c.1) * (a.2.1 + b.2.1 - 2 * c.2.1)) = (d.1 - c.1) * (a.2.1 + b.2.1 - 2 * c.2.1) := wrap64 (by omega) (by omega)
    have u4 : IntKind.wrap .i64 ((d.2.1 - c.2.1) * (a.1 + b.1 - 2 * c.1)) = (d.2.1 - c.2.1) * (a.1 + b.1 - 2 * c.1) := wrap64 (by omega) (by omega)
    simp only [w5, w6, w7, w8, w9, v1, v2, v3, v4, v5, v6, v7, v8, u1, u2, u3, u4]
    have u5 : IntKind.wrap .i64 ((c.1 - d.1) * (a.2.1 + b.2.1 - 2 * d.2.1) - (c.2.1 - d.2.1) * (a.1 + b.1 - 2 * d.1)) = (c.1 - d.1) * (a.2.1 + b.2.1 - 2 * d.2.1) - (c.2.1 - d.2.1) * (a.1 + b.1 - 2 * d.1) := wrap64 (by omega) (by omega)
    have u6 : IntKind.wrap .i64 ((d.1 - c.1) * (a.2.1 + b.2.1 - 2 * c.2.1) - (d.2.1 - c.2.1) * (a.1 + b.1 - 2 * c.1)) = (d.1 - c.1) * (a.2.1 + b.2.1 - 2 * c.2.1) - (d.2.1 - c.2.1) * (a.1 + b.1 - 2 * c.1) := wrap64 (by omega) (by omega)
    simp only [u5, u6]
    unfold stepS
    by_cases k1 : d.2.1 < c.2.1
    · simp only [decide_eq_true k1, cond_true, if_pos k1]
      by_cases k2 : 2 * d.2.1 < a.2.1 + b.2.1
      · simp only [decide_eq_true k2, cond_true, if_pos k2]
        by_cases k3 : a.2.1 + b.2.1 ≤ 2 * c.2.1
        · simp only [decide_eq_true k3, cond_true, if_pos k3]
          by_cases k4 : 0 < (c.1 - d.1) * (a.2.1 + b.2.1 - 2 * d.2.1) - (c.2.1 - d.2.1) * (a.1 + b.1 - 2 * d.1)
          · simp only [decide_eq_true k4, cond_true, if_pos k4]
          · simp only [decide_eq_false k4, cond_false, if_neg k4]
        · simp only [decide_eq_false k3, cond_false, if_neg k3]
      · simp only [decide_eq_false k2, cond_false, if_neg k2]
    · simp only [decide_eq_false k1, cond_false, if_neg k1]
      by_cases k2 : 2 * c.2.1 < a.2.1 + b.2.1
      · simp only [decide_eq_true k2, cond_true, if_pos k2]
        by_cases k3 : a.2.1 + b.2.1 ≤ 2 * d.2.1
        · simp only [decide_eq_true k3, cond_true, if_pos k3]
          by_cases k4 : 0 < (d.1 - c.1) * (a.2.1 + b.2.1 - 2 * c.2.1) - (d.2.1 - c.2.1) * (a.1 + b.1 - 2 * c.1)
          · simp only [decide_eq_true k4, cond_true, if_pos k4]
          · simp only [decide_eq_false k4, cond_false, if_neg k4]
        · simp only [decide_eq_false k3, cond_false, if_neg k3]
      · simp only [decide_eq_false k2, cond_false, if_neg k2]
  · simp only [embV, dec_nlt, cond_false]
  · rfl
theorem contains_nil (v : Int) : r78 (([] : List Int), (v, ())) = some (false, ()) := by
  unfold r78 r81
  rw [loop_eq]
  rfl
theorem contains_one (v : Int) : r78 ([v], (v, ())) = some (true, ()) := by
  unfold r78 r81
  rw [loop_eq]
  have e : inB (0 : Int) 1 = true := rfl
  have e2 : decide ((0 : Int) < 1) = true := rfl
  simp only [List.length_cons, List.length_nil, Nat.zero_add, Int.toNat_zero, List.getElem?_cons_zero, e, Option.bind_some, decide_true, cond_true]
  rfl
def sidesOne (r s : List DPt) : Bool := (List.range r.length).all fun i => decide (sideD r i s = sideD r 0 s)
theorem sides_eq (r s : List DPt) (hr : NearL r) (hs : NearL s) (hl : r.length ≤ 200) (hm : s.length ≤ 200) (h0 : 1 ≤ r.length) (h : sidesOne r s = true) : ∃ v, r74 (r, (s, ())) = some ([v], ()) := by
  refine ⟨sideD r 0 s, ?_⟩
  unfold r74
  refine loop_is (fun (i : Int) (d : List Int) => (((d, (i, ())), ()) : (List Int × Int × Unit) × Unit)) r.length (fun i => if i = 0 then [] else [sideD r 0 s]) (fun d => Sum.inl ((d, ()), ())) (fun i hi => ?_) ?_ ?_ [] rfl
  · have e1 := side_eq r s i hi hr hs hl hm
    have hv : sideD r i s = sideD r 0 s := by
      unfold sidesOne at h
      rw [List.all_eq_true] at h
      simpa using h i (List.mem_range.2 hi)
    simp only [dec_lt hi, cond_true, e1, Option.bind_some, hv, wrapS hi (show r.length ≤ 9223372036854775807 by omega), Nat.add_one_ne_zero, if_false]
    by_cases hz : i = 0
    · subst hz
      simp only [if_true]
      exact bind_of (contains_nil _) rfl
    · simp only [if_neg hz]
      exact bind_of (contains_one _) rfl
  · simp only [dec_nlt, cond_false]
  · rw [if_neg (by omega)]
    rfl
def fitsD (r s : List DPt) : Bool := ((List.range r.length).all fun i => (List.range s.length).all fun k => cornersD (getP r i) (nxtP r i) (getP s k) (nxtP s k)) && (sidesOne r s && sidesOne s r)
theorem fits_eq (r s : List DPt) (hr : NearL r) (hs : NearL s) (hl : r.length ≤ 200) (hm : s.length ≤ 200) (h0 : 1 ≤ r.length) (h1 : 1 ≤ s.length) (h : fitsD r s = true) : r67 (r, (s, ())) = some (true, ()) := by
  unfold fitsD at h
  simp only [Bool.and_eq_true] at h
  obtain ⟨hc, hs1, hs2⟩ := h
  obtain ⟨v1, e1⟩ := sides_eq r s hr hs hl hm h0 hs1
  obtain ⟨v2, e2⟩ := sides_eq s r hs hr hm hl h1 hs2
  unfold r67
  refine loop_is (fun (i : Int) (_ : Unit) => ((i, ()), ())) r.length (fun i => ()) (fun _ => Sum.inr (Sum.inl ((), ()))) (fun i hi => ?_) ?_ ?_ () rfl
  · simp only [dec_lt hi, cond_true]
    refine loop_is (fun (i : Int) (_ : Unit) => ((i, ()), ())) s.length (fun i => ()) (fun _ => Sum.inr (Sum.inl ((), ()))) (fun k hk => ?_) ?_ ?_ () rfl
    · have hcc : cornersD (getP r i) (nxtP r i) (getP s k) (nxtP s k) = true := by
        rw [List.all_eq_true] at hc
        have := hc i (List.mem_range.2 hi)
        rw [List.all_eq_true] at this
        exact this k (List.mem_range.2 hk)
      have e3 : r73 (((getP r i).1, ((getP r i).2.1, ())), (((nxtP r i).1, ((nxtP r i).2.1, ())), (((getP s k).1, ((getP s k).2.1, ())), (((nxtP s k).1, ((nxtP s k).2.1, ())), ())))) = some (true, ()) := by
        rw [← hcc]
        exact corners_eq _ _ _ _ (near_get hr hi) (near_nxt hr hi) (near_get hs hk) (near_nxt hs hk)
      have z1 : decide ((r.length : Int) = 0) = false := decide_eq_false (by omega)
      have z2 : decide ((s.length : Int) = 0) = false := decide_eq_false (by omega)
      have g1 : r[(i + 1) % r.length]? = some (nxtP r i) := getP_some (nxt_lt hi)
      have g2 : s[(k + 1) % s.length]? = some (nxtP s k) := getP_some (nxt_lt hk)
      simp only [dec_lt hk, inB_lt hi, inB_lt hk, Int.toNat_natCast, getP_some hi, getP_some hk, cond_true, Option.bind_some, z1, z2, cond_false, wrapS hi (show r.length ≤ 9223372036854775807 by omega), wrapS hk (show s.length ≤ 9223372036854775807 by omega), tmod_nat, inB_lt (nxt_lt hi), inB_lt (nxt_lt hk), g1, g2, e3, Bool.not_true]
    · simp only [dec_nlt, cond_false]
    · simp only [sumE]
      rw [wrapS hi (by omega)]
  · simp only [dec_nlt, cond_false]
  · simp only [sumE, e1, e2, Option.bind_some]
    rfl
def apartD (r : List DPt) (k i : Nat) : Bool :=
  cond (sameP (getP r k) (nxtP r k)) false (cond (sameP (getP r i) (nxtP r i)) false
    (cond (decide (k + 1 = i)) (decide (meetD (getP r k) (nxtP r k) (getP r i) (nxtP r i) = 1)) (cond (decide ((i + 1) % r.length = k)) (decide (meetD (getP r k) (nxtP r k) (getP r i) (nxtP r i) = 1)) (decide (meetD (getP r k) (nxtP r k) (getP r i) (nxtP r i) = 0)))))
theorem dec_cast {a b : Nat} : decide ((a : Int) = (b : Int)) = decide (a = b) := by
  by_cases h : a = b
  · rw [decide_eq_true h, decide_eq_true (by omega)]
  · rw [decide_eq_false h, decide_eq_false (by omega)]
theorem apart_eq (r : List DPt) (k i : Nat) (hk : k < r.length) (hi : i < r.length) (hr : NearL r) (hl : r.length ≤ 200) : r72 (r, ((k : Int), ((i : Int), ()))) = some (apartD r k i, ()) := by
  unfold r72 apartD
  have z1 : decide ((r.length : Int) = 0) = false := decide_eq_false (by omega)
  have g1 : r[(i + 1) % r.length]? = some (nxtP r i) := getP_some (nxt_lt hi)
  have g2 : r[(k + 1) % r.length]? = some (nxtP r k) := getP_some (nxt_lt hk)
  have e1 : r76 (((getP r k).1, ((getP r k).2.1, ())), (((nxtP r k).1, ((nxtP r k).2.1, ())), (((getP r i).1, ((getP r i).2.1, ())), (((nxtP r i).1, ((nxtP r i).2.1, ())), ())))) = some (meetD (getP r k) (nxtP r k) (getP r i) (nxtP r i), ()) :=
    meet_eq _ _ _ _ (near_get hr hk) (near_nxt hr hk) (near_get hr hi) (near_nxt hr hi)
  have c1 : decide ((k : Int) + 1 = (i : Int)) = decide (k + 1 = i) := dec_cast (a := k + 1)
  have s1 : ∀ a b : DPt, (decide (a.1 = b.1) && decide (a.2.1 = b.2.1)) = sameP a b := fun _ _ => rfl
  simp only [inB_lt hi, inB_lt hk, Int.toNat_natCast, getP_some hi, getP_some hk, cond_true, Option.bind_some, z1, cond_false, wrapS hi (show r.length ≤ 9223372036854775807 by omega), wrapS hk (show r.length ≤ 9223372036854775807 by omega), tmod_nat, inB_lt (nxt_lt hi), inB_lt (nxt_lt hk), g1, g2, e1, c1, dec_cast, s1]
  cases sameP (getP r k) (nxtP r k) with
  | true => rfl
  | false =>
    cases sameP (getP r i) (nxtP r i) with
    | true => rfl
    | false =>
      cases decide (k + 1 = i) with
      | true => rfl
      | false => cases decide ((i + 1) % r.length = k) <;> rfl
def ringD (r : List DPt) : Bool := (List.range r.length).all fun i => (List.range i).all fun k => apartD r k i
theorem okN (q : DPt) (h : Near q) : r71 (q, ()) = some (false, ()) := by
  unfold r71 r65
  have e : r70 ((q.1, (q.2.1, ())), ()) = some (q, ()) := clampN q h
  simp only [e, Option.bind_some, decide_true, Bool.and_self, Bool.not_true]
theorem far_none (r : List DPt) (hr : NearL r) (hl : r.length ≤ 200) : r63_71 (r, ((), ())) = some (false, ()) := by
  unfold r63_71
  have key : r69_71 (r, ((), ())) = some (-1, ()) := by
    unfold r69_71
    refine loop_is (fun (i : Int) (_ : Unit) => ((i, ()), ())) r.length (fun i => ()) (fun _ => Sum.inr (Sum.inl ((), ()))) (fun i hi => ?_) ?_ ?_ () rfl
    · have e : r71 (((getP r i).1, ((getP r i).2.1, ())), ()) = some (false, ()) := okN _ (near_get hr hi)
      simp only [dec_lt hi, inB_lt hi, Int.toNat_natCast, getP_some hi, cond_true, Option.bind_some, e, cond_false]
      rw [wrapS hi (by omega)]
    · simp only [dec_nlt, cond_false]
    · rfl
  exact bind_of key rfl
theorem ring_zero (r : List DPt) (hr : NearL r) (h3 : 3 ≤ r.length) (hl : r.length ≤ 200) (h : ringD r = true) : r66 (r, ()) = some (0, ()) := by
  unfold r66
  have e1 : decide ((200 : Int) < (r.length : Int)) = false := decide_eq_false (by omega)
  have e2 : decide ((r.length : Int) < 3) = false := decide_eq_false (by omega)
  simp only [e1, e2, cond_false, far_none r hr hl, Option.bind_some]
  refine loop_is (fun (i : Int) (_ : Unit) => ((i, ()), ())) r.length (fun i => ()) (fun _ => Sum.inr (Sum.inl ((), ()))) (fun i hi => ?_) ?_ ?_ () rfl
  · simp only [dec_lt hi, cond_true]
    refine loop_is (fun (i : Int) (_ : Unit) => ((i, ()), ())) i (fun i => ()) (fun _ => Sum.inr (Sum.inl ((), ()))) (fun k hk => ?_) ?_ ?_ () rfl
    · have ha : apartD r k i = true := by
        unfold ringD at h
        rw [List.all_eq_true] at h
        have := h i (List.mem_range.2 hi)
        rw [List.all_eq_true] at this
        exact this k (List.mem_range.2 hk)
      have e3 := apart_eq r k i (by omega) hi hr hl
      rw [ha] at e3
      simp only [dec_lt hk, cond_true, e3, Option.bind_some, Bool.not_true, cond_false]
      rw [wrapS hk (by omega)]
    · simp only [dec_nlt, cond_false]
    · simp only [sumE]
      rw [wrapS hi (by omega)]
  · simp only [dec_nlt, cond_false]
  · rfl
structure RingOk (r : List DPt) : Prop where
  near : NearL r
  min : 3 ≤ r.length
  max : r.length ≤ 200
  ok : ringD r = true
theorem area_zero (l : List (List DPt)) (hl : l.length ≤ 20) (hr : ∀ r ∈ l, RingOk r) (hf : ∀ (i j : Nat) r s, j < i → l[i]? = some r → l[j]? = some s → fitsD r s = true) : r57 (l, ()) = some (0, ()) := by
  unfold r57
  have e1 : decide ((20 : Int) < (l.length : Int)) = false := decide_eq_false (by omega)
  simp only [e1, cond_false]
  refine loop_is (fun (i : Int) (_ : Unit) => ((i, ()), ())) l.length (fun i => ()) (fun _ => Sum.inr (Sum.inl ((), ()))) (fun i hi => ?_) ?_ ?_ () rfl
  · obtain ⟨r, hq⟩ := get_lt hi
    have hm := hr r (List.mem_of_getElem? hq)
    simp only [dec_lt hi, inB_lt hi, Int.toNat_natCast, hq, cond_true, Option.bind_some, ring_zero r hm.near hm.min hm.max hm.ok, decide_true, Bool.not_true, cond_false]
    rw [wrapS hi (by omega)]
  · simp only [dec_nlt, cond_false]
  · simp only [sumE]
    refine loop_is (fun (i : Int) (_ : Unit) => ((i, ()), ())) l.length (fun i => ()) (fun _ => Sum.inr (Sum.inl ((), ()))) (fun i hi => ?_) ?_ ?_ () rfl
    · obtain ⟨r, hq⟩ := get_lt hi
      have hm := hr r (List.mem_of_getElem? hq)
      have hu : upTo (i : Int) (l.length : Int) = true := by unfold upTo; simp; omega
      have ht : (l.take i).length = i := by rw [List.length_take]; omega
      simp only [dec_lt hi, inB_lt hi, Int.toNat_natCast, hq, cond_true, Option.bind_some, hu, ht]
      refine loop_is (fun (i : Int) (_ : Unit) => ((i, ()), ())) i (fun i => ()) (fun _ => Sum.inr (Sum.inl ((), ()))) (fun k hk => ?_) ?_ ?_ () rfl
      · obtain ⟨s, hs⟩ := get_lt (show k < l.length by omega)
        have hms := hr s (List.mem_of_getElem? hs)
        have hs2 : (l.take i)[k]? = some s := by rw [List.getElem?_take, if_pos hk, hs]
        have e5 := fits_eq r s hm.near hms.near hm.max hms.max (by have := hm.min; omega) (by have := hms.min; omega) (hf i k r s hk hq hs)
        simp only [dec_lt hk, inB_lt hk, Int.toNat_natCast, hs2, cond_true, Option.bind_some, e5, Bool.not_true, cond_false]
        rw [wrapS hk (by omega)]
      · simp only [dec_nlt, cond_false]
      · simp only [sumE]
        rw [wrapS hi (by omega)]
    · simp only [dec_nlt, cond_false]
    · rfl
end Go.Proofs.Ytgabpbnndikheaa.I

namespace Go.Proofs.Ytgabpbnndikheaa.I
open Go.RowKit
set_option linter.unusedVariables false
set_option linter.constructorNameAsVariable false
def tr (x y : Int) (p : DPt) : DPt := (p.1 + x, (p.2.1 + y, ()))
section
variable (x y : Int)
theorem sub_tr (a b c : Int) : a + c - (b + c) = a - b := by omega
theorem cross_tr (a b c : DPt) : crossD (tr x y a) (tr x y b) (tr x y c) = crossD a b c := by
  unfold crossD tr
  simp only [sub_tr]
theorem dot_tr (a b c : DPt) : dotD (tr x y a) (tr x y b) (tr x y c) = dotD a b c := by
  unfold dotD tr
  simp only [sub_tr]
theorem turn_tr (a b c : DPt) : turnD (tr x y a) (tr x y b) (tr x y c) = turnD a b c := by
  unfold turnD
  rw [cross_tr]
theorem on_tr (a b c : DPt) : onD (tr x y a) (tr x y b) (tr x y c) = onD a b c := by
  unfold onD
  rw [turn_tr, dot_tr]
theorem add_iff (a b c : Int) : (a + c = b + c) = (a = b) := by
  simp only [eq_iff_iff]
  omega
theorem same_tr (a b : DPt) : sameP (tr x y a) (tr x y b) = sameP a b := by
  unfold sameP tr
  simp only [add_iff]
theorem addD_tr (d : List DPt) (p q r : DPt) : addD (d.map (tr x y)) (tr x y p) (tr x y q) (tr x y r) = (addD d p q r).map (tr x y) := by
  unfold addD
  rw [on_tr]
  have e : (d.map (tr x y)).any (fun z => sameP z (tr x y p)) = d.any (fun z => sameP z p) := by
    rw [List.any_map]
    congr 1
    funext z
    exact same_tr x y z p
  rw [e]
  cases onD q r p with
  | false => rfl
  | true => cases d.any (fun z => sameP z p) <;> simp
theorem shared_tr (a b c d : DPt) : sharedD (tr x y a) (tr x y b) (tr x y c) (tr x y d) = (sharedD a b c d).map (tr x y) := by
  unfold sharedD
  have e0 : ([] : List DPt) = ([] : List DPt).map (tr x y) := rfl
  rw [e0, addD_tr, addD_tr, addD_tr, addD_tr]
  rfl
theorem meet_tr (a b c d : DPt) : meetD (tr x y a) (tr x y b) (tr x y c) (tr x y d) = meetD a b c d := by
  unfold meetD
  rw [turn_tr, turn_tr, turn_tr, turn_tr, shared_tr, List.length_map]
theorem corners_tr (a b c d : DPt) : cornersD (tr x y a) (tr x y b) (tr x y c) (tr x y d) = cornersD a b c d := by
  unfold cornersD
  rw [meet_tr, same_tr, same_tr, same_tr, same_tr]
theorem getP_tr {r : List DPt} {i : Nat} (h : i < r.length) : getP (r.map (tr x y)) i = tr x y (getP r i) := by
  unfold getP
  rw [List.getElem?_map, List.getElem?_eq_getElem h]
  rfl
theorem nxtP_tr {r : List DPt} {i : Nat} (h : i < r.length) : nxtP (r.map (tr x y)) i = tr x y (nxtP r i) := by
  unfold nxtP
  rw [List.length_map, getP_tr x y (nxt_lt h)]
theorem stepS_tr (px py v : Int) (c d : DPt) : stepS (px + 2 * x) (py + 2 * y) (tr x y c) (tr x y d) v = stepS px py c d v := by
  unfold stepS tr
  have l1 : ∀ a b c : Int, (a + c < b + c) = (a < b) := fun a b c => by simp only [eq_iff_iff]; omega
  have l2 : ∀ a b : Int, (2 * (a + y) < b + 2 * y) = (2 * a < b) := fun a b => by simp only [eq_iff_iff]; omega
  have l3 : ∀ a b : Int, (b + 2 * y ≤ 2 * (a + y)) = (b ≤ 2 * a) := fun a b => by simp only [eq_iff_iff]; omega
  have l4 : ∀ a b : Int, b + 2 * y - 2 * (a + y) = b - 2 * a := fun a b => by omega
  have l5 : ∀ a b : Int, b + 2 * x - 2 * (a + x) = b - 2 * a := fun a b => by omega
  simp only [l1, l2, l3, l4, l5, sub_tr]
theorem sideTo_tr (px py : Int) (s : List DPt) : ∀ n, n ≤ s.length → sideTo (px + 2 * x) (py + 2 * y) (s.map (tr x y)) n = sideTo px py s n
  | 0, _ => rfl
  | n + 1, h => by
    rw [sideTo_succ, sideTo_succ, sideTo_tr px py s n (by omega), getP_tr x y (by omega), nxtP_tr x y (by omega), stepS_tr]
theorem side_tr (r s : List DPt) (i : Nat) (h : i < r.length) : sideD (r.map (tr x y)) i (s.map (tr x y)) = sideD r i s := by
  unfold sideD
  rw [getP_tr x y h, nxtP_tr x y h, List.length_map]
  have e1 : (tr x y (getP r i)).1 + (tr x y (nxtP r i)).1 = (getP r i).1 + (nxtP r i).1 + 2 * x := by unfold tr; simp only; omega
  have e2 : (tr x y (getP r i)).2.1 + (tr x y (nxtP r i)).2.1 = (getP r i).2.1 + (nxtP r i).2.1 + 2 * y := by unfold tr; simp only; omega
  rw [e1, e2, sideTo_tr x y _ _ s s.length (Nat.le_refl _)]
theorem all_congr' {n : Nat} {f g : Nat → Bool} (h : ∀ i, i < n → f i = g i) : (List.range n).all f = (List.range n).all g := by
  rw [Bool.eq_iff_iff, List.all_eq_true, List.all_eq_true]
  constructor
  · intro k i hi; rw [← h i (List.mem_range.1 hi)]; exact k i hi
  · intro k i hi; rw [h i (List.mem_range.1 hi)]; exact k i hi
theorem sidesOne_tr (r s : List DPt) : sidesOne (r.map (tr x y)) (s.map (tr x y)) = sidesOne r s := by
  unfold sidesOne
  rw [List.length_map]
  exact all_congr' fun i hi => by rw [side_tr x y r s i hi, side_tr x y r s 0 (by omega)]
theorem fits_tr (r s : List DPt) : fitsD (r.map (tr x y)) (s.map (tr x y)) = fitsD r s := by
  unfold fitsD
  rw [sidesOne_tr, sidesOne_tr, List.length_map, List.length_map]
  congr 1
  exact all_congr' fun i hi => all_congr' fun k hk => by rw [getP_tr x y hi, nxtP_tr x y hi, getP_tr x y hk, nxtP_tr x y hk, corners_tr]
theorem apart_tr (r : List DPt) (k i : Nat) (hk : k < r.length) (hi : i < r.length) : apartD (r.map (tr x y)) k i = apartD r k i := by
  unfold apartD
  rw [getP_tr x y hi, nxtP_tr x y hi, getP_tr x y hk, nxtP_tr x y hk, same_tr, same_tr, meet_tr, List.length_map]
theorem ring_tr (r : List DPt) : ringD (r.map (tr x y)) = ringD r := by
  unfold ringD
  rw [List.length_map]
  exact all_congr' fun i hi => all_congr' fun k hk => apart_tr x y r k i (by omega) hi
end
def sqA (x y r : Int) : List DPt := [(x - r, (y - r, ())), (x + r, (y - r, ())), (x + r, (y + r, ())), (x - r, (y + r, ()))]
def hoA (x y r : Int) : List DPt := [(x - r, (y - r, ())), (x - r, (y + r, ())), (x + r, (y + r, ())), (x + r, (y - r, ()))]
theorem sq_tr (x y a b r : Int) : sqA (a + x) (b + y) r = (sqA a b r).map (tr x y) := by
  unfold sqA tr
  simp only [List.map_cons, List.map_nil]
  have e1 : a + x - r = a - r + x := by omega
  have e2 : a + x + r = a + r + x := by omega
  have e3 : b + y - r = b - r + y := by omega
  have e4 : b + y + r = b + r + y := by omega
  rw [e1, e2, e3, e4]
theorem ho_tr (x y a b r : Int) : hoA (a + x) (b + y) r = (hoA a b r).map (tr x y) := by
  unfold hoA tr
  simp only [List.map_cons, List.map_nil]
  have e1 : a + x - r = a - r + x := by omega
  have e2 : a + x + r = a + r + x := by omega
  have e3 : b + y - r = b - r + y := by omega
  have e4 : b + y + r = b + r + y := by omega
  rw [e1, e2, e3, e4]
theorem all16 {f : Nat → Bool} (h : (List.range 16).all f = true) {i : Nat} (hi : i < 16) : f i = true := by
  rw [List.all_eq_true] at h
  exact h i (List.mem_range.2 hi)
theorem sq_rings : ((List.range 16).all fun r => decide (r = 0) || (ringD (sqA 0 0 (r : Int)) && ringD (hoA 0 0 (r : Int)))) = true := by decide +kernel
theorem sq_fits : ((List.range 16).all fun r => (List.range 16).all fun k => decide (k = 0) || (decide (r ≤ k + 1) || (fitsD (hoA 0 0 (k : Int)) (sqA 0 0 (r : Int)) && (fitsD (sqA 0 0 (k : Int)) (sqA 0 0 (r : Int)) && fitsD (sqA 0 0 (k : Int)) (hoA 0 0 (r : Int)))))) = true := by decide +kernel
theorem sq_beside : ((List.range 16).all fun r => (List.range 16).all fun t => decide (r = 0) || (decide (2 < t) || fitsD (sqA ((r : Int) + 3 + (t : Int)) 0 2) (sqA 0 0 (r : Int)))) = true := by decide +kernel
theorem sq_ring (x y r : Int) (h : 1 ≤ r ∧ r ≤ 15) : ringD (sqA x y r) = true := by
  have e := sq_tr x y 0 0 r
  rw [Int.zero_add, Int.zero_add] at e
  rw [e, ring_tr]
  obtain ⟨n, rfl⟩ : ∃ n : Nat, r = n := ⟨r.toNat, by omega⟩
  have := all16 sq_rings (i := n) (by omega)
  rw [decide_eq_false (show ¬ n = 0 by omega)] at this
  simp only [Bool.false_or, Bool.and_eq_true] at this
  exact this.1
theorem ho_ring (x y r : Int) (h : 1 ≤ r ∧ r ≤ 15) : ringD (hoA x y r) = true := by
  have e := ho_tr x y 0 0 r
  rw [Int.zero_add, Int.zero_add] at e
  rw [e, ring_tr]
  obtain ⟨n, rfl⟩ : ∃ n : Nat, r = n := ⟨r.toNat, by omega⟩
  have := all16 sq_rings (i := n) (by omega)
  rw [decide_eq_false (show ¬ n = 0 by omega)] at this
  simp only [Bool.false_or, Bool.and_eq_true] at this
  exact this.2
theorem fit3 (x y r k : Int) (h : 1 ≤ k ∧ k + 2 ≤ r ∧ r ≤ 15) : fitsD (hoA x y k) (sqA x y r) = true ∧ fitsD (sqA x y k) (sqA x y r) = true ∧ fitsD (sqA x y k) (hoA x y r) = true := by
  have e1 := sq_tr x y 0 0 r
  have e2 := sq_tr x y 0 0 k
  have e3 := ho_tr x y 0 0 r
  have e4 := ho_tr x y 0 0 k
  rw [Int.zero_add, Int.zero_add] at e1 e2 e3 e4
  rw [e1, e2, e3, e4, fits_tr, fits_tr, fits_tr]
  obtain ⟨n, rfl⟩ : ∃ n : Nat, r = n := ⟨r.toNat, by omega⟩
  obtain ⟨m, rfl⟩ : ∃ m : Nat, k = m := ⟨k.toNat, by omega⟩
  have := all16 (all16 sq_fits (i := n) (by omega)) (i := m) (by omega)
  rw [decide_eq_false (show ¬ m = 0 by omega), decide_eq_false (show ¬ n ≤ m + 1 by omega)] at this
  simp only [Bool.false_or, Bool.and_eq_true] at this
  exact this
theorem fit_beside (x y r t : Int) (h : 1 ≤ r ∧ r ≤ 15) (ht : 0 ≤ t ∧ t ≤ 2) : fitsD (sqA (x + r + 3 + t) y 2) (sqA x y r) = true := by
  have e1 := sq_tr x y 0 0 r
  have e2 := sq_tr x y (r + 3 + t) 0 2
  rw [Int.zero_add] at e1 e2
  rw [Int.zero_add] at e1
  rw [show r + 3 + t + x = x + r + 3 + t by omega] at e2
  rw [e1, e2, fits_tr]
  obtain ⟨n, rfl⟩ : ∃ n : Nat, r = n := ⟨r.toNat, by omega⟩
  obtain ⟨m, rfl⟩ : ∃ m : Nat, t = m := ⟨t.toNat, by omega⟩
  have := all16 (all16 sq_beside (i := n) (by omega)) (i := m) (by omega)
  rw [decide_eq_false (show ¬ n = 0 by omega), decide_eq_false (show ¬ 2 < m by omega)] at this
  simpa only [Bool.false_or] using this
theorem sq_near (x y r : Int) (h : 0 ≤ r ∧ r ≤ 40) (hx : -100 ≤ x ∧ x ≤ 100) (hy : -100 ≤ y ∧ y ≤ 100) : NearL (sqA x y r) := by
  intro q hq
  unfold sqA at hq
  simp only [List.mem_cons, List.not_mem_nil, or_false] at hq
  rcases hq with rfl | rfl | rfl | rfl <;> (unfold Near; simp only; omega)
theorem ho_near (x y r : Int) (h : 0 ≤ r ∧ r ≤ 40) (hx : -100 ≤ x ∧ x ≤ 100) (hy : -100 ≤ y ∧ y ≤ 100) : NearL (hoA x y r) := by
  intro q hq
  unfold hoA at hq
  simp only [List.mem_cons, List.not_mem_nil, or_false] at hq
  rcases hq with rfl | rfl | rfl | rfl <;> (unfold Near; simp only; omega)
theorem sq_ok (x y r : Int) (h : 1 ≤ r ∧ r ≤ 15) (hx : -100 ≤ x ∧ x ≤ 100) (hy : -100 ≤ y ∧ y ≤ 100) : RingOk (sqA x y r) := ⟨sq_near x y r (by omega) hx hy, (show 3 ≤ 4 by decide), (show 4 ≤ 200 by decide), sq_ring x y r h⟩
theorem ho_ok (x y r : Int) (h : 1 ≤ r ∧ r ≤ 15) (hx : -100 ≤ x ∧ x ≤ 100) (hy : -100 ≤ y ∧ y ≤ 100) : RingOk (hoA x y r) := ⟨ho_near x y r (by omega) hx hy, (show 3 ≤ 4 by decide), (show 4 ≤ 200 by decide), ho_ring x y r h⟩
end Go.Proofs.Ytgabpbnndikheaa.I

namespace Go.Proofs.Ytgabpbnndikheaa.I
open Go.RowKit
set_option linter.unusedVariables false
set_option linter.constructorNameAsVariable false
theorem tmod_bd {x n : Int} (hn : 1 ≤ n) : -n < Int.tmod x n ∧ Int.tmod x n < n := by
  have h1 := Int.tmod_lt_of_pos x (show 0 < n by omega)
  have h2 := Int.lt_tmod_of_pos x (show 0 < n by omega)
  exact ⟨by omega, h1⟩
theorem below_ok (x n : Int) (hn : 1 ≤ n) (hm : n ≤ 1000000000) : Yl (r22 (x, (n, ()))) (fun y => ∃ v : Int, y = (v, ()) ∧ 0 ≤ v ∧ v < n) := by
  unfold r22
  dsimp only
  have h := tmod_bd (x := x) hn
  have h0 : ¬ (n = (0 : Int)) := by omega
  refine yl_false (decide_eq_false h0) (yl_cond (fun hb => ?_) (fun hb => ?_))
  · have hb := of_decide_eq_true hb
    exact yl_some ⟨_, by rw [wrap64 (by omega) (by omega)], by omega, by omega⟩
  · have hb := of_decide_eq_false hb
    exact yl_some ⟨_, rfl, by omega, by omega⟩
abbrev NextQ (n : Int) (d : List Int) : (Int × Unit) × List Int × Unit → Prop := fun y => ∃ (v : Int) (d' : List Int), y = ((v, ()), (d', ())) ∧ 0 ≤ v ∧ v < n ∧ d'.length ≤ d.length
theorem next_ok (n : Int) (d : List Int) (hn : 1 ≤ n) (hm : n ≤ 1000000000) : Yl (r40 (n, ()) (d, ())) (NextQ n d) := by
  unfold r40
  dsimp only
  refine yl_cond (fun hb => ?_) (fun hb => yl_cond (fun hc => ?_) (fun hc => ?_))
  · exact yl_some ⟨0, d, rfl, by omega, by omega, Nat.le_refl _⟩
  · exact yl_some ⟨0, d, rfl, by omega, by omega, Nat.le_refl _⟩
  · have hb := of_decide_eq_false hb
    have hl : 0 < d.length := by omega
    obtain ⟨x, hx⟩ := get_lt hl
    have hi : inB (0 : Int) d.length = true := inB_lt (i := 0) hl
    have hu : upTo (1 : Int) (d.length : Int) = true := by unfold upTo; simp; omega
    simp only [hi, cond_true, hx, Option.bind_some, hu]
    refine yl_bind (below_ok x n hn hm) (fun y hy => ?_)
    obtain ⟨v, rfl, h1, h2⟩ := hy
    exact yl_some ⟨v, d.drop 1, rfl, h1, h2, by rw [List.length_drop]; omega⟩
abbrev NearP (q : DPt) : Prop := (-40 ≤ q.1 ∧ q.1 ≤ 41) ∧ (-40 ≤ q.2.1 ∧ q.2.1 ≤ 41)
theorem point_ok (d : List Int) : Yl (r50 () (d, ())) (fun y => ∃ (q : DPt) (d' : List Int), y = ((q, ()), (d', ())) ∧ ((-40 ≤ q.1 ∧ q.1 ≤ 40) ∧ (-40 ≤ q.2.1 ∧ q.2.1 ≤ 40)) ∧ d'.length ≤ d.length) := by
  unfold r50
  refine yl_bind (next_ok 81 d (by omega) (by omega)) (fun y hy => ?_)
  obtain ⟨a, d1, rfl, h1, h2, h3⟩ := hy
  refine yl_bind (next_ok 81 d1 (by omega) (by omega)) (fun y hy => ?_)
  obtain ⟨b, d2, rfl, h4, h5, h6⟩ := hy
  refine yl_some ⟨(a - 40, (b - 40, ())), d2, ?_, ⟨⟨by simp only; omega, by simp only; omega⟩, ⟨by simp only; omega, by simp only; omega⟩⟩, by omega⟩
  simp only
  rw [wrap64 (by omega) (by omega), wrap64 (by omega) (by omega)]
theorem adj_snoc : ∀ {l : List DPt} {q p : DPt}, adj l = false → l.getLast? = some q → ptEq q p = false → adj (l ++ [p]) = false
  | [], _, _, _, h, _ => by cases h
  | [a], q, p, _, h, hp => by
    simp only [List.getLast?_singleton, Option.some.injEq] at h
    subst h
    simp [adj, hp]
  | a :: b :: l, q, p, ha, h, hp => by
    simp only [adj, Bool.or_eq_false_iff] at ha
    have h' : (b :: l).getLast? = some q := by rw [← h]; rfl
    have := adj_snoc ha.2 h' hp
    simp only [List.cons_append, adj, Bool.or_eq_false_iff] at this ⊢
    exact ⟨ha.1, this⟩
/-- A made line. -/
structure LineOk (n : Int) (p : List DPt) : Prop where
  len : (p.length : Int) = n
  near : ∀ q ∈ p, NearP q
  adj : adj p = false
theorem line_ok (n : Int) (d : List Int) (hn : 2 ≤ n) (hm : n ≤ 100) : Yl (r51 (n, ()) (d, ())) (fun y => ∃ (p : List DPt) (d' : List Int), y = ((p, ()), (d', ())) ∧ LineOk n p ∧ d'.length ≤ d.length) := by
  unfold r51
  refine yl_bind (point_ok d) (fun y hy => ?_)
  obtain ⟨q0, d1, rfl, h1, h2⟩ := hy
  refine yl_bind (P := fun o => ∃ (p : List DPt) (d' : List Int), o = Sum.inl ((p, (d', ())), ()) ∧ LineOk n p ∧ d'.length ≤ d.length) (loop_rule (fun s : (List DPt × List Int × Unit) × Unit => (n - (s.1.1.length : Int)).toNat)
    (fun s => ∃ (p : List DPt) (e : List Int), s = ((p, (e, ())), ()) ∧ 1 ≤ p.length ∧ (p.length : Int) ≤ n ∧ (∀ q ∈ p, NearP q) ∧ adj p = false ∧ e.length ≤ d.length) _ ?_ _ ⟨[q0], d1, rfl, by simp, by simp; omega, fun q hq => ?_, rfl, h2⟩) (fun o ho => ?_)
  · rintro s ⟨p, e, rfl, hp1, hp2, hp3, hp4, he⟩
    by_cases hlt : (p.length : Int) < n
    · left
      have hd := decide_eq_true hlt
      obtain ⟨y, hy1, q, e', hy2, hq, he'⟩ := point_ok e
      subst hy2
      have hw : IntKind.wrap .i64 ((p.length : Int) - 1) = ((p.length - 1 : Nat) : Int) := by rw [wrap64 (by omega) (by omega)]; omega
      obtain ⟨z, hz⟩ := get_lt (show p.length - 1 < p.length by omega)
      have hlast : p.getLast? = some z := by rw [List.getLast?_eq_getElem?]; exact hz
      have hfit : ∀ x : DPt, fits (p.length + [x].length) 16 = true := fun x => by unfold fits; simp; omega
      simp only [hd, cond_true, hy1, Option.bind_some, hw, inB_lt (show p.length - 1 < p.length by omega), Int.toNat_natCast, hz]
      have hpt : (decide (q.1 = z.1) && decide (q.2.1 = z.2.1)) = ptEq q z := rfl
      rw [hpt]
      have hw1 : IntKind.wrap .i64 (q.1 + 1) = q.1 + 1 := wrap64 (by omega) (by omega)
      have mem : ∀ x : DPt, NearP x → ∀ u ∈ p ++ [x], NearP u := fun x hx u hu => by
        rcases List.mem_append.1 hu with h | h
        · exact hp3 u h
        · rw [List.mem_singleton.1 h]; exact hx
      have hlen : ∀ x : DPt, ((p ++ [x]).length : Int) = (p.length : Int) + 1 := fun x => by rw [List.length_append]; simp
      cases hc : ptEq q z with
      | true =>
        simp only [cond_true]
        have hf := hfit ((IntKind.wrap .i64 (q.1 + 1)), (q.2.1, ()))
        have hx : NearP (q.1 + 1, (q.2.1, ())) := by unfold NearP; simp only; omega
        have hne : ptEq z (q.1 + 1, (q.2.1, ())) = false := by
          unfold ptEq at hc ⊢
          simp only [Bool.and_eq_true, decide_eq_true_eq, Bool.and_eq_false_iff, decide_eq_false_iff_not] at hc ⊢
          omega
        simp only [hf, cond_true]
        refine ⟨_, rfl, ⟨p ++ [(q.1 + 1, (q.2.1, ()))], e', by rw [hw1], by have := hlen (q.1 + 1, (q.2.1, ())); omega, by rw [hlen]; omega, mem _ hx, adj_snoc hp4 hlast hne, by omega⟩, ?_⟩
        simp only [hw1, hlen]
        omega
      | false =>
        simp only [cond_false]
        have hf := hfit (q.1, (q.2.1, ()))
        have hx : NearP q := by unfold NearP; omega
        have hne : ptEq z q = false := by rw [ptEq_comm]; exact hc
        simp only [hf, cond_true]
        refine ⟨_, rfl, ⟨p ++ [q], e', rfl, by have := hlen q; omega, by rw [hlen]; omega, mem _ hx, adj_snoc hp4 hlast hne, by omega⟩, ?_⟩
        have := hlen (q.1, (q.2.1, ()))
        simp only [this]
        omega
    · right
      have hd := decide_eq_false hlt
      refine ⟨_, by simp only [hd, cond_false], p, e, rfl, ⟨by omega, hp3, hp4⟩, he⟩
  · rw [List.mem_singleton.1 hq]
    unfold NearP
    omega
  · obtain ⟨p, d', rfl, h3, h4⟩ := ho
    exact yl_some ⟨p, d', rfl, h3, h4⟩
theorem square_eq (x y r : Int) (h : 0 ≤ r ∧ r ≤ 100) (hx : -1000 ≤ x ∧ x ≤ 1000) (hy : -1000 ≤ y ∧ y ≤ 1000) : r60 (x, (y, (r, ()))) = some (sqA x y r, ()) := by
  unfold r60 sqA
  simp only
  rw [wrap64 (n := x - r) (by omega) (by omega), wrap64 (n := y - r) (by omega) (by omega), wrap64 (n := x + r) (by omega) (by omega), wrap64 (n := y + r) (by omega) (by omega)]
theorem hole_eq (x y r : Int) (h : 0 ≤ r ∧ r ≤ 100) (hx : -1000 ≤ x ∧ x ≤ 1000) (hy : -1000 ≤ y ∧ y ≤ 1000) : r61 (x, (y, (r, ()))) = some (hoA x y r, ()) := by
  unfold r61 hoA
  simp only
  rw [wrap64 (n := x - r) (by omega) (by omega), wrap64 (n := y - r) (by omega) (by omega), wrap64 (n := x + r) (by omega) (by omega), wrap64 (n := y + r) (by omega) (by omega)]
structure AreaOk (l : List (List DPt)) : Prop where
  ok : r57 (l, ()) = some (0, ())
  len : 1 ≤ l.length ∧ l.length ≤ 3
  rings : ∀ p ∈ l, RingOk p
theorem areaOk_one {a : List DPt} (ha : RingOk a) : AreaOk [a] :=
  ⟨area_zero [a] (by simp) (fun r hr => by rw [List.mem_singleton.1 hr]; exact ha) (fun i j r s hij hr hs => by have := lt_of_get hr; simp at this; omega), by simp, fun p hp => by rw [List.mem_singleton.1 hp]; exact ha⟩
theorem areaOk_two {a b : List DPt} (ha : RingOk a) (hb : RingOk b) (h : fitsD b a = true) : AreaOk [a, b] := by
  have hall : ∀ p ∈ [a, b], RingOk p := fun p hp => by
    simp only [List.mem_cons, List.not_mem_nil, or_false] at hp
    rcases hp with rfl | rfl <;> assumption
  refine ⟨area_zero [a, b] (by simp) hall (fun i j r s hij hr hs => ?_), by simp, hall⟩
  have h1 := lt_of_get hr
  simp only [List.length_cons, List.length_nil] at h1
  have e1 : i = 1 := by omega
  have e2 : j = 0 := by omega
  subst e1 e2
  simp at hr hs
  subst hr hs
  exact h
theorem areaOk_three {a b c : List DPt} (ha : RingOk a) (hb : RingOk b) (hc : RingOk c) (h1 : fitsD b a = true) (h2 : fitsD c a = true) (h3 : fitsD c b = true) : AreaOk [a, b, c] := by
  have hall : ∀ p ∈ [a, b, c], RingOk p := fun p hp => by
    simp only [List.mem_cons, List.not_mem_nil, or_false] at hp
    rcases hp with rfl | rfl | rfl <;> assumption
  refine ⟨area_zero [a, b, c] (by simp) hall (fun i j r s hij hr hs => ?_), by simp, hall⟩
  have hl := lt_of_get hr
  simp only [List.length_cons, List.length_nil] at hl
  have : (i = 1 ∧ j = 0) ∨ (i = 2 ∧ j = 0) ∨ (i = 2 ∧ j = 1) := by omega
  rcases this with ⟨rfl, rfl⟩ | ⟨rfl, rfl⟩ | ⟨rfl, rfl⟩ <;> simp at hr hs <;> subst hr hs <;> assumption
theorem len4 {l : List (List DPt)} (h : ∀ p ∈ l, p.length = 4) : ∀ p ∈ l, p.length ≤ 5 := fun p hp => by have := h p hp; omega
theorem area_ok (d : List Int) : Yl (r52 (d, ())) (fun y => ∃ l, y = (l, ()) ∧ AreaOk l ∧ ∀ p ∈ l, p.length ≤ 5) := by
  unfold r52
  refine yl_bind (next_ok 30 d (by omega) (by omega)) (fun y hy => ?_)
  obtain ⟨x, d1, rfl, x1, x2, _⟩ := hy
  refine yl_bind (next_ok 30 d1 (by omega) (by omega)) (fun y hy => ?_)
  obtain ⟨y, d2, rfl, y1, y2, _⟩ := hy
  refine yl_bind (next_ok 10 d2 (by omega) (by omega)) (fun y hy => ?_)
  obtain ⟨r, d3, rfl, r1, r2, _⟩ := hy
  have wx : IntKind.wrap .i64 (x - 15) = x - 15 := wrap64 (by omega) (by omega)
  have wy : IntKind.wrap .i64 (y - 15) = y - 15 := wrap64 (by omega) (by omega)
  have wr : IntKind.wrap .i64 (6 + r) = 6 + r := wrap64 (by omega) (by omega)
  have wr2 : IntKind.wrap .i64 (6 + r - 2) = 6 + r - 2 := wrap64 (by omega) (by omega)
  have wr4 : IntKind.wrap .i64 (6 + r - 4) = 6 + r - 4 := wrap64 (by omega) (by omega)
  simp only [wx, wy, wr, wr2, wr4]
  have s0 := sq_ok (x - 15) (y - 15) (6 + r) (by omega) (by omega) (by omega)
  refine yl_bind (yl_eq (square_eq (x - 15) (y - 15) (6 + r) (by omega) (by omega) (by omega))) (fun a ha => ?_)
  subst ha
  refine yl_bind (next_ok 4 d3 (by omega) (by omega)) (fun y hy => ?_)
  obtain ⟨k, d4, rfl, k1, k2, _⟩ := hy
  refine yl_cond (fun hb => ?_) (fun hb => yl_cond (fun hb2 => ?_) (fun hb2 => yl_cond (fun hb3 => ?_) (fun hb3 => ?_)))
  · refine yl_bind (next_ok (6 + r - 2) d4 (by omega) (by omega)) (fun y hy => ?_)
    obtain ⟨m, d5, rfl, m1, m2, _⟩ := hy
    have wm : IntKind.wrap .i64 (1 + m) = 1 + m := wrap64 (by omega) (by omega)
    simp only [wm]
    have h0 := ho_ok (x - 15) (y - 15) (1 + m) (by omega) (by omega) (by omega)
    refine yl_bind (yl_eq (hole_eq (x - 15) (y - 15) (1 + m) (by omega) (by omega) (by omega))) (fun b hb => ?_)
    subst hb
    exact yl_some ⟨_, rfl, areaOk_two s0 h0 (fit3 (x - 15) (y - 15) (6 + r) (1 + m) (by omega)).1, len4 (by simp [sqA, hoA])⟩
  · refine yl_bind (next_ok (6 + r - 4) d4 (by omega) (by omega)) (fun y hy => ?_)
    obtain ⟨m, d5, rfl, m1, m2, _⟩ := hy
    have wm : IntKind.wrap .i64 (3 + m) = 3 + m := wrap64 (by omega) (by omega)
    have wm2 : IntKind.wrap .i64 (3 + m - 2) = 3 + m - 2 := wrap64 (by omega) (by omega)
    simp only [wm, wm2]
    have h0 := ho_ok (x - 15) (y - 15) (3 + m) (by omega) (by omega) (by omega)
    refine yl_bind (yl_eq (hole_eq (x - 15) (y - 15) (3 + m) (by omega) (by omega) (by omega))) (fun b hb => ?_)
    subst hb
    refine yl_bind (next_ok (3 + m - 2) d5 (by omega) (by omega)) (fun y hy => ?_)
    obtain ⟨j, d6, rfl, j1, j2, _⟩ := hy
    have wj : IntKind.wrap .i64 (1 + j) = 1 + j := wrap64 (by omega) (by omega)
    simp only [wj]
    have t0 := sq_ok (x - 15) (y - 15) (1 + j) (by omega) (by omega) (by omega)
    refine yl_bind (yl_eq (square_eq (x - 15) (y - 15) (1 + j) (by omega) (by omega) (by omega))) (fun c hc => ?_)
    subst hc
    exact yl_some ⟨_, rfl, areaOk_three s0 h0 t0 (fit3 (x - 15) (y - 15) (6 + r) (3 + m) (by omega)).1 (fit3 (x - 15) (y - 15) (6 + r) (1 + j) (by omega)).2.1 (fit3 (x - 15) (y - 15) (3 + m) (1 + j) (by omega)).2.2, len4 (by simp [sqA, hoA])⟩
  · refine yl_bind (next_ok 3 d4 (by omega) (by omega)) (fun y hy => ?_)
    obtain ⟨t, d5, rfl, t1, t2, _⟩ := hy
    have w1 : IntKind.wrap .i64 (x - 15 + (6 + r)) = x - 15 + (6 + r) := wrap64 (by omega) (by omega)
    have w2 : IntKind.wrap .i64 (x - 15 + (6 + r) + 3) = x - 15 + (6 + r) + 3 := wrap64 (by omega) (by omega)
    have w3 : IntKind.wrap .i64 (x - 15 + (6 + r) + 3 + t) = x - 15 + (6 + r) + 3 + t := wrap64 (by omega) (by omega)
    simp only [w1, w2, w3]
    have t0 := sq_ok (x - 15 + (6 + r) + 3 + t) (y - 15) 2 (by omega) (by omega) (by omega)
    refine yl_bind (yl_eq (square_eq (x - 15 + (6 + r) + 3 + t) (y - 15) 2 (by omega) (by omega) (by omega))) (fun c hc => ?_)
    subst hc
    exact yl_some ⟨_, rfl, areaOk_two s0 t0 (fit_beside (x - 15) (y - 15) (6 + r) t (by omega) (by omega)), len4 (by simp [sqA])⟩
  · exact yl_some ⟨_, rfl, areaOk_one s0, len4 (by simp [sqA])⟩
end Go.Proofs.Ytgabpbnndikheaa.I

namespace Go.Proofs.Ytgabpbnndikheaa.I
open Go.RowKit
set_option linter.unusedVariables false
set_option linter.constructorNameAsVariable false
theorem wf_of {n : Int} (h : -9223372036854775808 ≤ n ∧ n ≤ 9223372036854775807) : small (.int .i64) n := by
  show (Lit.int .i64 n).wf = true
  unfold Lit.wf
  first
    | (have e := wrap64 h.1 h.2; rw [e]; simp; done)
    | (have e := wrap64 h.1 h.2; simp [e]; done)
    | (simp [IntKind.min, IntKind.max, IntKind.signed, IntKind.bits]; omega)
def GoodS (s : ByteArray) : Prop := s.size ≤ 40 ∧ s.data.toList.all okB = true
def AttAsc : ByteArray → List DAtt → Prop
  | _, [] => True
  | p, a :: l => nameOk a.1 = true ∧ strLt p a.1 = true ∧ checkV a.2.1 = 0 ∧ a.2.1.1 ≠ 0 ∧ small kAtt a ∧ AttAsc a.1 l
theorem asc_scan : ∀ {l : List DAtt} {p : ByteArray}, AttAsc p l → scan (attF false) (fun a => a.1) 0 p l = 0
  | [], _, _ => rfl
  | a :: l, p, ⟨h1, h2, h3, h4, _, h5⟩ => by
    have e : attF false p a = none := by
      unfold attF
      simp [h1, h2, h3, h4]
    simp only [scan, e]
    exact asc_scan h5
theorem asc_small : ∀ {l : List DAtt} {p : ByteArray}, AttAsc p l → ∀ a ∈ l, small kAtt a
  | a :: l, p, ⟨_, _, _, _, h, h5⟩, b, hb => by
    rcases List.mem_cons.1 hb with rfl | hb
    · exact h
    · exact asc_small h5 b hb
structure AttsOk (l : List DAtt) : Prop where
  ok : attrsE false l = 0
  sm : ∀ a ∈ l, small kAtt a
  len : l.length ≤ 4
abbrev noS : ByteArray := ⟨List.toArray []⟩
theorem atts_of {l : List DAtt} (h : AttAsc noS l) (hl : l.length ≤ 4) : AttsOk l := ⟨by
  unfold attrsE
  rw [if_neg (by omega)]
  exact asc_scan h, asc_small h, hl⟩
abbrev kHeight : ByteArray := ⟨List.toArray [104, 101, 105, 103, 104, 116]⟩
abbrev kKind : ByteArray := ⟨List.toArray [107, 105, 110, 100]⟩
abbrev kName : ByteArray := ⟨List.toArray [110, 97, 109, 101]⟩
abbrev kOpen : ByteArray := ⟨List.toArray [111, 112, 101, 110]⟩
theorem sm_str {s : ByteArray} (h : s.size ≤ 1000) : small .str s := by
  show s.size ≤ maxLen
  unfold maxLen
  omega
theorem no_size : (noS).size = 0 := rfl
theorem check_num {n : Int} (h : -1000000000000 ≤ n ∧ n ≤ 1000000000000) : checkV ((1 : Int), (n, (noS, (false, ())))) = 0 := by
  unfold checkV
  have k1 : ¬ (n < -1000000000000) := by omega
  have k2 : ¬ (1000000000000 < n) := by omega
  have e1 : ¬ (40 < ((noS).size : Int)) := by rw [no_size]; omega
  simp [k1, k2, no_size]
theorem check_txt {s : ByteArray} (h : GoodS s) : checkV ((2 : Int), ((0 : Int), (s, (false, ())))) = 0 := by
  unfold checkV
  have k1 : ¬ (40 < (s.size : Int)) := by have := h.1; omega
  have k2 : s.data.toList.all okB = true := h.2
  simp only [k2, k1]
  simp
theorem check_bool (b : Bool) : checkV ((3 : Int), ((0 : Int), (noS, (b, ())))) = 0 := by
  unfold checkV
  simp [no_size]
theorem sm_no : small .str noS := sm_str (by rw [no_size]; omega)
theorem wf0 : small (.int .i64) (0 : Int) := wf_of (by omega)
theorem wf1 : small (.int .i64) (1 : Int) := wf_of (by omega)
theorem wf2 : small (.int .i64) (2 : Int) := wf_of (by omega)
theorem wf3 : small (.int .i64) (3 : Int) := wf_of (by omega)
theorem nm0 : nameOk kHeight = true := by decide +kernel
theorem nm1 : nameOk kKind = true := by decide +kernel
theorem nm2 : nameOk kName = true := by decide +kernel
theorem nm3 : nameOk kOpen = true := by decide +kernel
theorem asc_height {n : Int} {p : ByteArray} {l : List DAtt} (h : -1000 ≤ n ∧ n ≤ 1000) (hp : strLt p kHeight = true) (hl : AttAsc kHeight l) : AttAsc p ((kHeight, (((1 : Int), (n, (noS, (false, ())))), ())) :: l) :=
  ⟨nm0, hp, check_num (by omega), (show (1 : Int) ≠ 0 by omega), ⟨sm_str (show 6 ≤ 1000 by omega), ⟨wf1, wf_of (n := n) (by omega), sm_no, trivial, trivial⟩, trivial⟩, hl⟩
theorem asc_kind {s p : ByteArray} {l : List DAtt} (h : GoodS s) (hp : strLt p kKind = true) (hl : AttAsc kKind l) : AttAsc p ((kKind, (((2 : Int), ((0 : Int), (s, (false, ())))), ())) :: l) :=
  ⟨nm1, hp, check_txt h, (show (2 : Int) ≠ 0 by omega), ⟨sm_str (show 4 ≤ 1000 by omega), ⟨wf2, wf0, sm_str (s := s) (by have := h.1; omega), trivial, trivial⟩, trivial⟩, hl⟩
theorem asc_name {s p : ByteArray} {l : List DAtt} (h : GoodS s) (hp : strLt p kName = true) (hl : AttAsc kName l) : AttAsc p ((kName, (((2 : Int), ((0 : Int), (s, (false, ())))), ())) :: l) :=
  ⟨nm2, hp, check_txt h, (show (2 : Int) ≠ 0 by omega), ⟨sm_str (show 4 ≤ 1000 by omega), ⟨wf2, wf0, sm_str (s := s) (by have := h.1; omega), trivial, trivial⟩, trivial⟩, hl⟩
theorem asc_open {b : Bool} {p : ByteArray} {l : List DAtt} (hp : strLt p kOpen = true) (hl : AttAsc kOpen l) : AttAsc p ((kOpen, (((3 : Int), ((0 : Int), (noS, (b, ())))), ())) :: l) :=
  ⟨nm3, hp, check_bool b, (show (3 : Int) ≠ 0 by omega), ⟨sm_str (show 4 ≤ 1000 by omega), ⟨wf3, wf0, sm_no, trivial, trivial⟩, trivial⟩, hl⟩
theorem lt00 : strLt noS kHeight = true := by decide +kernel
theorem lt01 : strLt noS kKind = true := by decide +kernel
theorem lt02 : strLt noS kName = true := by decide +kernel
theorem lt03 : strLt noS kOpen = true := by decide +kernel
theorem lt11 : strLt kHeight kKind = true := by decide +kernel
theorem lt12 : strLt kHeight kName = true := by decide +kernel
theorem lt13 : strLt kHeight kOpen = true := by decide +kernel
theorem lt22 : strLt kKind kName = true := by decide +kernel
theorem lt23 : strLt kKind kOpen = true := by decide +kernel
theorem lt33 : strLt kName kOpen = true := by decide +kernel
/-- What one makes of the four that are drawn. -/
def attsL (a : Option Int) (b c : Option ByteArray) (e : Option Bool) : List DAtt :=
  (match a with | some n => [(kHeight, (((1 : Int), (n, (noS, (false, ())))), ()))] | none => []) ++ ((match b with | some s => [(kKind, (((2 : Int), ((0 : Int), (s, (false, ())))), ()))] | none => []) ++
    ((match c with | some s => [(kName, (((2 : Int), ((0 : Int), (s, (false, ())))), ()))] | none => []) ++ (match e with | some b => [(kOpen, (((3 : Int), ((0 : Int), (noS, (b, ())))), ()))] | none => [])))
theorem attsL_ok (a : Option Int) (b c : Option ByteArray) (e : Option Bool) (ha : ∀ n, a = some n → -1000 ≤ n ∧ n ≤ 1000) (hb : ∀ s, b = some s → GoodS s) (hc : ∀ s, c = some s → GoodS s) : AttsOk (attsL a b c e) := by
  cases a with
  | none =>
    cases b with
    | none =>
      cases c with
      | none =>
        cases e with
        | none => exact atts_of trivial (show 0 ≤ 4 by omega)
        | some e => exact atts_of (asc_open lt03 trivial) (show 1 ≤ 4 by omega)
      | some c =>
        cases e with
        | none => exact atts_of (asc_name (hc c rfl) lt02 trivial) (show 1 ≤ 4 by omega)
        | some e => exact atts_of (asc_name (hc c rfl) lt02 (asc_open lt33 trivial)) (show 2 ≤ 4 by omega)
    | some b =>
      cases c with
      | none =>
        cases e with
        | none => exact atts_of (asc_kind (hb b rfl) lt01 trivial) (show 1 ≤ 4 by omega)
        | some e => exact atts_of (asc_kind (hb b rfl) lt01 (asc_open lt23 trivial)) (show 2 ≤ 4 by omega)
      | some c =>
        cases e with
        | none => exact atts_of (asc_kind (hb b rfl) lt01 (asc_name (hc c rfl) lt22 trivial)) (show 2 ≤ 4 by omega)
        | some e => exact atts_of (asc_kind (hb b rfl) lt01 (asc_name (hc c rfl) lt22 (asc_open lt33 trivial))) (show 3 ≤ 4 by omega)
  | some a =>
    have h := ha a rfl
    cases b with
    | none =>
      cases c with
      | none =>
        cases e with
        | none => exact atts_of (asc_height h lt00 trivial) (show 1 ≤ 4 by omega)
        | some e => exact atts_of (asc_height h lt00 (asc_open lt13 trivial)) (show 2 ≤ 4 by omega)
      | some c =>
        cases e with
        | none => exact atts_of (asc_height h lt00 (asc_name (hc c rfl) lt12 trivial)) (show 2 ≤ 4 by omega)
        | some e => exact atts_of (asc_height h lt00 (asc_name (hc c rfl) lt12 (asc_open lt33 trivial))) (show 3 ≤ 4 by omega)
    | some b =>
      cases c with
      | none =>
        cases e with
        | none => exact atts_of (asc_height h lt00 (asc_kind (hb b rfl) lt11 trivial)) (show 2 ≤ 4 by omega)
        | some e => exact atts_of (asc_height h lt00 (asc_kind (hb b rfl) lt11 (asc_open lt23 trivial))) (show 3 ≤ 4 by omega)
      | some c =>
        cases e with
        | none => exact atts_of (asc_height h lt00 (asc_kind (hb b rfl) lt11 (asc_name (hc c rfl) lt22 trivial))) (show 3 ≤ 4 by omega)
        | some e => exact atts_of (asc_height h lt00 (asc_kind (hb b rfl) lt11 (asc_name (hc c rfl) lt22 (asc_open lt33 trivial)))) (show 4 ≤ 4 by omega)
abbrev txts1 : List ByteArray := [⟨List.toArray [114, 111, 97, 100]⟩, ⟨List.toArray [108, 97, 107, 101]⟩, ⟨List.toArray [119, 111, 111, 100]⟩, ⟨List.toArray []⟩]
abbrev txts2 : List ByteArray := [⟨List.toArray [65, 108, 100, 101, 114]⟩, ⟨List.toArray [66, 105, 114, 99, 104, 32, 72, 105, 108, 108]⟩, ⟨List.toArray [67, 111, 118, 101]⟩]
theorem good_dec {s : ByteArray} (h : (decide (s.size ≤ 40) && s.data.toList.all okB) = true) : GoodS s := by
  simp only [Bool.and_eq_true, decide_eq_true_eq] at h
  exact h
theorem txt_ok {T : List ByteArray} (hT : T.all (fun s => decide (s.size ≤ 40) && s.data.toList.all okB) = true) {i : Nat} (h : i < T.length) : Yl (T[i]?) GoodS := by
  obtain ⟨s, hs⟩ := get_lt h
  refine ⟨s, hs, good_dec ?_⟩
  rw [List.all_eq_true] at hT
  exact hT s (List.mem_of_getElem? hs)
theorem txt1_ok {v : Int} (h : 0 ≤ v ∧ v < 4) : Yl (txts1[Int.toNat v]?) GoodS := txt_ok (by decide +kernel) (by show _ < 4; omega)
theorem txt2_ok {v : Int} (h : 0 ≤ v ∧ v < 3) : Yl (txts2[Int.toNat v]?) GoodS := txt_ok (by decide +kernel) (by show _ < 3; omega)
theorem inB_ok {v : Int} {n : Nat} (h : 0 ≤ v ∧ v < (n : Int)) : inB v n = true := by unfold inB; simp; omega
theorem w5 {v : Int} (h : 0 ≤ v ∧ v < 50) : IntKind.wrap .i64 (v - 5) = v - 5 := wrap64 (by omega) (by omega)
set_option maxHeartbeats 4000000 in
set_option maxRecDepth 100000 in
theorem attrs_ok (d : List Int) : Yl (r53 () (d, ())) (fun y => ∃ (l : List DAtt) (d' : List Int), y = ((l, ()), (d', ())) ∧ AttsOk l ∧ d'.length ≤ d.length) := by
  unfold r53
  have leaf : ∀ (a : Option Int) (b c : Option ByteArray) (e : Option Bool) (d' : List Int), (∀ n, a = some n → -1000 ≤ n ∧ n ≤ 1000) → (∀ s, b = some s → GoodS s) → (∀ s, c = some s → GoodS s) → d'.length ≤ d.length → Yl (some ((attsL a b c e, ()), (d', ()))) (fun y : (List DAtt × Unit) × List Int × Unit => ∃ (l : List DAtt) (d' : List Int), y = ((l, ()), (d', ())) ∧ AttsOk l ∧ d'.length ≤ d.length) := fun a b c e d' h1 h2 h3 h4 => yl_some ⟨attsL a b c e, d', rfl, attsL_ok a b c e h1 h2 h3, h4⟩
  refine yl_bind (next_ok 3 d (by omega) (by omega)) (fun y hy => ?_)
  obtain ⟨v0, e0, rfl, _, _, l0⟩ := hy
  refine yl_cond (fun hb => ?_) (fun hb => ?_)
  · refine yl_bind (next_ok 50 e0 (by omega) (by omega)) (fun y hy => ?_)
    obtain ⟨v1, e1, rfl, m1, n1, l1⟩ := hy
    have w1 : IntKind.wrap .i64 (v1 - 5) = v1 - 5 := wrap64 (by omega) (by omega)
    refine yl_bind (next_ok 3 e1 (by omega) (by omega)) (fun y hy => ?_)
    obtain ⟨v2, e2, rfl, _, _, l2⟩ := hy
    refine yl_cond (fun hb => ?_) (fun hb => ?_)
    · refine yl_bind (next_ok 4 e2 (by omega) (by omega)) (fun y hy => ?_)
      obtain ⟨v3, e3, rfl, m3, n3, l3⟩ := hy
      refine yl_true (inB_ok (v := v3) (n := 4) ⟨m3, n3⟩) ?_
      refine yl_bind (txt1_ok (v := v3) ⟨m3, n3⟩) (fun s3 g3 => ?_)
      refine yl_bind (next_ok 3 e3 (by omega) (by omega)) (fun y hy => ?_)
      obtain ⟨v5, e5, rfl, _, _, l5⟩ := hy
      refine yl_cond (fun hb => ?_) (fun hb => ?_)
      · refine yl_bind (next_ok 3 e5 (by omega) (by omega)) (fun y hy => ?_)
        obtain ⟨v6, e6, rfl, m6, n6, l6⟩ := hy
        refine yl_true (inB_ok (v := v6) (n := 3) ⟨m6, n6⟩) ?_
        refine yl_bind (txt2_ok (v := v6) ⟨m6, n6⟩) (fun s6 g6 => ?_)
        refine yl_bind (next_ok 3 e6 (by omega) (by omega)) (fun y hy => ?_)
        obtain ⟨v8, e8, rfl, _, _, l8⟩ := hy
        refine yl_cond (fun hb => ?_) (fun hb => ?_)
        · refine yl_bind (next_ok 2 e8 (by omega) (by omega)) (fun y hy => ?_)
          obtain ⟨v9, e9, rfl, _, _, l9⟩ := hy
          exact leaf (some (IntKind.wrap .i64 (v1 - 5))) (some s3) (some s6) (some (decide (v9 = 1))) e9 (fun n hn => by rw [w1] at hn; injection hn with hn; omega) (fun s hs => by injection hs with hs; rw [← hs]; exact g3) (fun s hs => by injection hs with hs; rw [← hs]; exact g6) (by omega)
        · exact leaf (some (IntKind.wrap .i64 (v1 - 5))) (some s3) (some s6) none e8 (fun n hn => by rw [w1] at hn; injection hn with hn; omega) (fun s hs => by injection hs with hs; rw [← hs]; exact g3) (fun s hs => by injection hs with hs; rw [← hs]; exact g6) (by omega)
      · skip
        refine yl_bind (next_ok 3 e5 (by omega) (by omega)) (fun y hy => ?_)
        obtain ⟨v8, e8, rfl, _, _, l8⟩ := hy
        refine yl_cond (fun hb => ?_) (fun hb => ?_)
        · refine yl_bind (next_ok 2 e8 (by omega) (by omega)) (fun y hy => ?_)
          obtain ⟨v9, e9, rfl, _, _, l9⟩ := hy
          exact leaf (some (IntKind.wrap .i64 (v1 - 5))) (some s3) none (some (decide (v9 = 1))) e9 (fun n hn => by rw [w1] at hn; injection hn with hn; omega) (fun s hs => by injection hs with hs; rw [← hs]; exact g3) (fun s hs => by cases hs) (by omega)
        · exact leaf (some (IntKind.wrap .i64 (v1 - 5))) (some s3) none none e8 (fun n hn => by rw [w1] at hn; injection hn with hn; omega) (fun s hs => by injection hs with hs; rw [← hs]; exact g3) (fun s hs => by cases hs) (by omega)
    · skip
      refine yl_bind (next_ok 3 e2 (by omega) (by omega)) (fun y hy => ?_)
      obtain ⟨v5, e5, rfl, _, _, l5⟩ := hy
      refine yl_cond (fun hb => ?_) (fun hb => ?_)
      · refine yl_bind (next_ok 3 e5 (by omega) (by omega)) (fun y hy => ?_)
        obtain ⟨v6, e6, rfl, m6, n6, l6⟩ := hy
        refine yl_true (inB_ok (v := v6) (n := 3) ⟨m6, n6⟩) ?_
        refine yl_bind (txt2_ok (v := v6) ⟨m6, n6⟩) (fun s6 g6 => ?_)
        refine yl_bind (next_ok 3 e6 (by omega) (by omega)) (fun y hy => ?_)
        obtain ⟨v8, e8, rfl, _, _, l8⟩ := hy
        refine yl_cond (fun hb => ?_) (fun hb => ?_)
        · refine yl_bind (next_ok 2 e8 (by omega) (by omega)) (fun y hy => ?_)
          obtain ⟨v9, e9, rfl, _, _, l9⟩ := hy
          exact leaf (some (IntKind.wrap .i64 (v1 - 5))) none (some s6) (some (decide (v9 = 1))) e9 (fun n hn => by rw [w1] at hn; injection hn with hn; omega) (fun s hs => by cases hs) (fun s hs => by injection hs with hs; rw [← hs]; exact g6) (by omega)
        · exact leaf (some (IntKind.wrap .i64 (v1 - 5))) none (some s6) none e8 (fun n hn => by rw [w1] at hn; injection hn with hn; omega) (fun s hs => by cases hs) (fun s hs => by injection hs with hs; rw [← hs]; exact g6) (by omega)
      · skip
        refine yl_bind (next_ok 3 e5 (by omega) (by omega)) (fun y hy => ?_)
        obtain ⟨v8, e8, rfl, _, _, l8⟩ := hy
        refine yl_cond (fun hb => ?_) (fun hb => ?_)
        · refine yl_bind (next_ok 2 e8 (by omega) (by omega)) (fun y hy => ?_)
          obtain ⟨v9, e9, rfl, _, _, l9⟩ := hy
          exact leaf (some (IntKind.wrap .i64 (v1 - 5))) none none (some (decide (v9 = 1))) e9 (fun n hn => by rw [w1] at hn; injection hn with hn; omega) (fun s hs => by cases hs) (fun s hs => by cases hs) (by omega)
        · exact leaf (some (IntKind.wrap .i64 (v1 - 5))) none none none e8 (fun n hn => by rw [w1] at hn; injection hn with hn; omega) (fun s hs => by cases hs) (fun s hs => by cases hs) (by omega)
  · skip
    refine yl_bind (next_ok 3 e0 (by omega) (by omega)) (fun y hy => ?_)
    obtain ⟨v2, e2, rfl, _, _, l2⟩ := hy
    refine yl_cond (fun hb => ?_) (fun hb => ?_)
    · refine yl_bind (next_ok 4 e2 (by omega) (by omega)) (fun y hy => ?_)
      obtain ⟨v3, e3, rfl, m3, n3, l3⟩ := hy
      refine yl_true (inB_ok (v := v3) (n := 4) ⟨m3, n3⟩) ?_
      refine yl_bind (txt1_ok (v := v3) ⟨m3, n3⟩) (fun s3 g3 => ?_)
      refine yl_bind (next_ok 3 e3 (by omega) (by omega)) (fun y hy => ?_)
      obtain ⟨v5, e5, rfl, _, _, l5⟩ := hy
      refine yl_cond (fun hb => ?_) (fun hb => ?_)
      · refine yl_bind (next_ok 3 e5 (by omega) (by omega)) (fun y hy => ?_)
        obtain ⟨v6, e6, rfl, m6, n6, l6⟩ := hy
        refine yl_true (inB_ok (v := v6) (n := 3) ⟨m6, n6⟩) ?_
        refine yl_bind (txt2_ok (v := v6) ⟨m6, n6⟩) (fun s6 g6 => ?_)
        refine yl_bind (next_ok 3 e6 (by omega) (by omega)) (fun y hy => ?_)
        obtain ⟨v8, e8, rfl, _, _, l8⟩ := hy
        refine yl_cond (fun hb => ?_) (fun hb => ?_)
        · refine yl_bind (next_ok 2 e8 (by omega) (by omega)) (fun y hy => ?_)
          obtain ⟨v9, e9, rfl, _, _, l9⟩ := hy
          exact leaf none (some s3) (some s6) (some (decide (v9 = 1))) e9 (fun n hn => by cases hn) (fun s hs => by injection hs with hs; rw [← hs]; exact g3) (fun s hs => by injection hs with hs; rw [← hs]; exact g6) (by omega)
        · exact leaf none (some s3) (some s6) none e8 (fun n hn => by cases hn) (fun s hs => by injection hs with hs; rw [← hs]; exact g3) (fun s hs => by injection hs with hs; rw [← hs]; exact g6) (by omega)
      · skip
        refine yl_bind (next_ok 3 e5 (by omega) (by omega)) (fun y hy => ?_)
        obtain ⟨v8, e8, rfl, _, _, l8⟩ := hy
        refine yl_cond (fun hb => ?_) (fun hb => ?_)
        · refine yl_bind (next_ok 2 e8 (by omega) (by omega)) (fun y hy => ?_)
          obtain ⟨v9, e9, rfl, _, _, l9⟩ := hy
          exact leaf none (some s3) none (some (decide (v9 = 1))) e9 (fun n hn => by cases hn) (fun s hs => by injection hs with hs; rw [← hs]; exact g3) (fun s hs => by cases hs) (by omega)
        · exact leaf none (some s3) none none e8 (fun n hn => by cases hn) (fun s hs => by injection hs with hs; rw [← hs]; exact g3) (fun s hs => by cases hs) (by omega)
    · skip
      refine yl_bind (next_ok 3 e2 (by omega) (by omega)) (fun y hy => ?_)
      obtain ⟨v5, e5, rfl, _, _, l5⟩ := hy
      refine yl_cond (fun hb => ?_) (fun hb => ?_)
      · refine yl_bind (next_ok 3 e5 (by omega) (by omega)) (fun y hy => ?_)
        obtain ⟨v6, e6, rfl, m6, n6, l6⟩ := hy
        refine yl_true (inB_ok (v := v6) (n := 3) ⟨m6, n6⟩) ?_
        refine yl_bind (txt2_ok (v := v6) ⟨m6, n6⟩) (fun s6 g6 => ?_)
        refine yl_bind (next_ok 3 e6 (by omega) (by omega)) (fun y hy => ?_)
        obtain ⟨v8, e8, rfl, _, _, l8⟩ := hy
        refine yl_cond (fun hb => ?_) (fun hb => ?_)
        · refine yl_bind (next_ok 2 e8 (by omega) (by omega)) (fun y hy => ?_)
          obtain ⟨v9, e9, rfl, _, _, l9⟩ := hy
          exact leaf none none (some s6) (some (decide (v9 = 1))) e9 (fun n hn => by cases hn) (fun s hs => by cases hs) (fun s hs => by injection hs with hs; rw [← hs]; exact g6) (by omega)
        · exact leaf none none (some s6) none e8 (fun n hn => by cases hn) (fun s hs => by cases hs) (fun s hs => by injection hs with hs; rw [← hs]; exact g6) (by omega)
      · skip
        refine yl_bind (next_ok 3 e5 (by omega) (by omega)) (fun y hy => ?_)
        obtain ⟨v8, e8, rfl, _, _, l8⟩ := hy
        refine yl_cond (fun hb => ?_) (fun hb => ?_)
        · refine yl_bind (next_ok 2 e8 (by omega) (by omega)) (fun y hy => ?_)
          obtain ⟨v9, e9, rfl, _, _, l9⟩ := hy
          exact leaf none none none (some (decide (v9 = 1))) e9 (fun n hn => by cases hn) (fun s hs => by cases hs) (fun s hs => by cases hs) (by omega)
        · exact leaf none none none none e8 (fun n hn => by cases hn) (fun s hs => by cases hs) (fun s hs => by cases hs) (by omega)
end Go.Proofs.Ytgabpbnndikheaa.I

namespace Go.Proofs.Ytgabpbnndikheaa.I
open Go.RowKit
set_option linter.unusedVariables false
set_option linter.constructorNameAsVariable false
structure PartsMade (kind : Int) (l : List (List DPt)) : Prop where
  zero : partsV kind l = 0
  len : 1 ≤ l.length ∧ l.length ≤ 3
  pts : ∀ p ∈ l, 1 ≤ p.length ∧ p.length ≤ 5
  near : ∀ p ∈ l, NearL p
theorem findSome_zero {F : List DPt → Int} : ∀ {l : List (List DPt)}, (∀ p ∈ l, F p = 0) → l.findSome? (fun p => if F p = 0 then none else some (F p)) = none
  | [], _ => rfl
  | p :: l, h => by
    simp only [List.findSome?_cons, h p (by simp), if_true]
    exact findSome_zero fun q hq => h q (by simp [hq])
theorem partsV_zero {kind : Int} {l : List (List DPt)} (hk : 1 ≤ kind ∧ kind ≤ 3) (hl : 1 ≤ l.length ∧ l.length ≤ 20) (hp : ∀ p ∈ l, p.length ≤ 200) (hz : ∀ p ∈ l, partE kind p = 0) (ha : kind = 3 → r57 (l, ()) = some (0, ())) : partsV kind l = 0 := by
  unfold partsV partsE
  have h3 : ¬ (l.any (fun p => decide ((200 : Int) < (p.length : Int))) = true) := by
    rw [List.any_eq_true]
    rintro ⟨p, hp1, hp2⟩
    have := hp p hp1
    simp at hp2
    omega
  rw [if_neg (by omega), if_neg (by omega), if_neg (by omega), if_neg h3, if_neg (by omega), findSome_zero hz]
  by_cases h : kind = 3
  · rw [if_pos h]
    unfold areaO
    rw [ha h]
    rfl
  · rw [if_neg h]
    rfl
theorem far_near {q : DPt} (h : Near q) : far q = false := by
  unfold far
  obtain ⟨⟨h1, h2⟩, h3, h4⟩ := h
  rw [decide_eq_false (by omega), decide_eq_false (by omega), decide_eq_false (by omega), decide_eq_false (by omega)]
  rfl
theorem any_far {p : List DPt} (h : NearL p) : ¬ (p.any far = true) := by
  rw [List.any_eq_true]
  rintro ⟨q, h1, h2⟩
  rw [far_near (h q h1)] at h2
  cases h2
theorem made_dots {l : List (List DPt)} (hl : 1 ≤ l.length ∧ l.length ≤ 3) (h : ∀ p ∈ l, p.length = 1 ∧ NearL p) : PartsMade 1 l :=
  ⟨partsV_zero (by omega) (by omega) (fun p hp => by have := (h p hp).1; omega) (fun p hp => by
    unfold partE
    rw [if_neg (any_far (h p hp).2), if_pos rfl, if_pos (h p hp).1]) (fun h => by omega), hl, fun p hp => by have := (h p hp).1; omega, fun p hp => (h p hp).2⟩
theorem made_lines {l : List (List DPt)} (hl : 1 ≤ l.length ∧ l.length ≤ 3) (h : ∀ p ∈ l, 2 ≤ p.length ∧ p.length ≤ 5 ∧ NearL p ∧ adj p = false) : PartsMade 2 l :=
  ⟨partsV_zero (by omega) (by omega) (fun p hp => by have := (h p hp).2.1; omega) (fun p hp => by
    unfold partE
    have h1 := (h p hp).1
    have h2 := (h p hp).2.2.2
    rw [if_neg (any_far (h p hp).2.2.1), if_neg (by omega), if_pos rfl, if_neg (by omega), h2, if_neg (by simp)]) (fun h => by omega), hl, fun p hp => by have := h p hp; omega, fun p hp => (h p hp).2.2.1⟩
theorem made_area {l : List (List DPt)} (h : AreaOk l) (h5 : ∀ p ∈ l, p.length ≤ 5) : PartsMade 3 l :=
  ⟨partsV_zero (by omega) (by have := h.len; omega) (fun p hp => (h.rings p hp).max) (fun p hp => by
    unfold partE
    rw [if_neg (any_far (h.rings p hp).near), if_neg (by omega), if_neg (by omega)]) (fun _ => h.ok), h.len, fun p hp => ⟨by have := (h.rings p hp).min; omega, h5 p hp⟩, fun p hp => (h.rings p hp).near⟩
structure Made (f : DFea) : Prop where
  ok : featV f = 0
  sm : small kFea f
  kind : 1 ≤ f.2.1 ∧ f.2.1 ≤ 3
  parts : PartsMade f.2.1 f.2.2.1
  atts : AttsOk f.2.2.2.1
  times : 0 ≤ f.2.2.2.2.1 ∧ f.2.2.2.2.1 < f.2.2.2.2.2.1 ∧ f.2.2.2.2.2.1 ≤ 100
theorem sm_pt {q : DPt} (h : Near q) : small kPt q := ⟨wf_of (by have := h.1; omega), wf_of (by have := h.2; omega), trivial⟩
theorem made_of {id kind fr upto : Int} {l : List (List DPt)} {ats : List DAtt} (hid : 1 ≤ id ∧ id ≤ 1073741824) (hk : 1 ≤ kind ∧ kind ≤ 3) (hl : PartsMade kind l) (ha : AttsOk ats) (ht : 0 ≤ fr ∧ fr < upto ∧ upto ≤ 100) : Made (id, (kind, (l, (ats, (fr, (upto, ())))))) := by
  refine ⟨?_, ?_, hk, hl, ha, ht⟩
  · unfold featV
    simp only
    rw [if_neg (by omega), if_neg (by omega), hl.zero, ha.ok]
    simp only [ne_eq, not_true_eq_false, if_false]
    rw [if_neg (by omega), if_neg (by omega), if_neg (by omega)]
  · refine ⟨wf_of (n := id) (by omega), wf_of (n := kind) (by omega), ⟨by show l.length ≤ maxLen; unfold maxLen; have := hl.len; omega, fun p hp => ⟨by show p.length ≤ maxLen; unfold maxLen; have := hl.pts p hp; omega, fun q hq => sm_pt (hl.near p hp q hq)⟩⟩, ⟨by show ats.length ≤ maxLen; unfold maxLen; have := ha.len; omega, fun a h => ha.sm a h⟩, wf_of (n := fr) (by omega), wf_of (n := upto) (by omega), trivial⟩
@[reducible] def embM (id kind fr upto : Int) (i : Int) (s : List (List DPt) × List Int) : (Int × Int × Int × List (List DPt) × Unit × Int × Int × List Int × Unit) × Unit := ((i, (id, (kind, (s.1, ((), (fr, (upto, (s.2, ())))))))), ())
@[reducible] def outM (id kind fr upto : Int) (s : List (List DPt) × List Int) : ((Int × Int × List (List DPt) × Unit × Int × Int × List Int × Unit) × Unit) ⊕ Empty := Sum.inl ((id, (kind, (s.1, ((), (fr, (upto, (s.2, ()))))))), ())
theorem fits24 {k : Nat} (h : k ≤ 1000) : fits k 24 = true := by unfold fits; simp; omega
theorem near_of {q : DPt} (h : (-40 ≤ q.1 ∧ q.1 ≤ 41) ∧ (-40 ≤ q.2.1 ∧ q.2.1 ≤ 41)) : Near q := by unfold Near; omega
set_option maxHeartbeats 2000000 in
theorem feature_ok (id : Int) (d : List Int) (hid : 1 ≤ id ∧ id ≤ 1073741824) : Yl (r41 (id, ()) (d, ())) (fun y => ∃ (f : DFea) (d' : List Int), y = ((f, ()), (d', ())) ∧ f.1 = id ∧ Made f ∧ d'.length ≤ d.length) := by
  unfold r41
  refine yl_bind (next_ok 3 d (by omega) (by omega)) (fun y hy => ?_)
  obtain ⟨k, d1, rfl, k1, k2, l1⟩ := hy
  refine yl_bind (next_ok 20 d1 (by omega) (by omega)) (fun y hy => ?_)
  obtain ⟨fr, d2, rfl, f1, f2, l2⟩ := hy
  refine yl_bind (next_ok 40 d2 (by omega) (by omega)) (fun y hy => ?_)
  obtain ⟨t, d3, rfl, t1, t2, l3⟩ := hy
  have wk : IntKind.wrap .i64 (1 + k) = 1 + k := wrap64 (by omega) (by omega)
  have wf : IntKind.wrap .i64 (fr + 1) = fr + 1 := wrap64 (by omega) (by omega)
  have wt : IntKind.wrap .i64 (fr + 1 + t) = fr + 1 + t := wrap64 (by omega) (by omega)
  simp only [wk, wf, wt]
  have fin : ∀ (l : List (List DPt)) (e : List Int), PartsMade (1 + k) l → e.length ≤ d.length → Yl (Option.bind (r53 () (e, ())) (fun x5 => some (((id, (1 + k, (l, (x5.1.1, (fr, (fr + 1 + t, ())))))), ()), (x5.2.1, ())))) (fun y : (DFea × Unit) × List Int × Unit => ∃ (f : DFea) (d' : List Int), y = ((f, ()), (d', ())) ∧ f.1 = id ∧ Made f ∧ d'.length ≤ d.length) := by
    intro l e hl he
    refine yl_bind (attrs_ok e) (fun y hy => ?_)
    obtain ⟨ats, e', rfl, h1, h2⟩ := hy
    exact yl_some ⟨_, e', rfl, rfl, made_of hid (by omega) hl h1 (by omega), by omega⟩
  refine yl_cond (fun hb => ?_) (fun hb => yl_cond (fun hb2 => ?_) (fun hb2 => ?_))
  · have hb : 1 + k = 1 := of_decide_eq_true hb
    refine yl_bind (next_ok 3 d3 (by omega) (by omega)) (fun y hy => ?_)
    obtain ⟨c, d4, rfl, c1, c2, l4⟩ := hy
    obtain ⟨n, hn⟩ : ∃ n : Nat, 1 + c = (n : Int) := ⟨(1 + c).toNat, by omega⟩
    have wc : IntKind.wrap .i64 (1 + c) = (n : Int) := by rw [wrap64 (by omega) (by omega), hn]
    simp only [wc]
    refine yl_bind (P := fun o => ∃ s : List (List DPt) × List Int, o = outM id (1 + k) fr (fr + 1 + t) s ∧ s.1.length = n ∧ (∀ p ∈ s.1, p.length = 1 ∧ NearL p) ∧ s.2.length ≤ d.length)
      (loop_up (embM id (1 + k) fr (fr + 1 + t)) n (fun i s => s.1.length = i ∧ (∀ p ∈ s.1, p.length = 1 ∧ NearL p) ∧ s.2.length ≤ d.length) _ (fun i s hi hI => ?_) (fun s hI => ?_) 0 ([], d4) (Nat.zero_le _) ⟨rfl, (fun p hp => by cases hp), by simp only; omega⟩) (fun o ho => ?_)
    · left
      obtain ⟨h1, h2, h3⟩ := hI
      obtain ⟨y, hy1, q, e', hy2, hq, he'⟩ := point_ok s.2
      subst hy2
      have hf : fits (s.1.length + [[(q.1, (q.2.1, ()))]].length) 24 = true := fits24 (by simp; omega)
      refine ⟨(s.1 ++ [[q]], e'), ?_, ?_, fun p hp => ?_, by simp only; omega⟩
      · simp only [embM, dec_lt hi, cond_true, hy1, Option.bind_some, hf]
        rw [wrapS hi (by omega)]
      · rw [List.length_append]; simp; omega
      · rcases List.mem_append.1 hp with hp | hp
        · exact h2 p hp
        · rw [List.mem_singleton.1 hp]
          exact ⟨rfl, fun u hu => by rw [List.mem_singleton.1 hu]; exact near_of (by omega)⟩
    · obtain ⟨h1, h2, h3⟩ := hI
      refine ⟨_, ?_, s, rfl, h1, h2, h3⟩
      simp only [embM, dec_nlt, cond_false]
    · obtain ⟨s, rfl, h1, h2, h3⟩ := ho
      exact fin s.1 s.2 (by rw [hb]; exact made_dots (by omega) h2) h3
  · have hb2 : 1 + k = 2 := of_decide_eq_true hb2
    refine yl_bind (next_ok 2 d3 (by omega) (by omega)) (fun y hy => ?_)
    obtain ⟨c, d4, rfl, c1, c2, l4⟩ := hy
    obtain ⟨n, hn⟩ : ∃ n : Nat, 1 + c = (n : Int) := ⟨(1 + c).toNat, by omega⟩
    have wc : IntKind.wrap .i64 (1 + c) = (n : Int) := by rw [wrap64 (by omega) (by omega), hn]
    simp only [wc]
    refine yl_bind (P := fun o => ∃ s : List (List DPt) × List Int, o = outM id (1 + k) fr (fr + 1 + t) s ∧ s.1.length = n ∧ (∀ p ∈ s.1, 2 ≤ p.length ∧ p.length ≤ 5 ∧ NearL p ∧ adj p = false) ∧ s.2.length ≤ d.length)
      (loop_up (embM id (1 + k) fr (fr + 1 + t)) n (fun i s => s.1.length = i ∧ (∀ p ∈ s.1, 2 ≤ p.length ∧ p.length ≤ 5 ∧ NearL p ∧ adj p = false) ∧ s.2.length ≤ d.length) _ (fun i s hi hI => ?_) (fun s hI => ?_) 0 ([], d4) (Nat.zero_le _) ⟨rfl, (fun p hp => by cases hp), by simp only; omega⟩) (fun o ho => ?_)
    · left
      obtain ⟨h1, h2, h3⟩ := hI
      obtain ⟨y, hy1, v, e1, hy2, v1, v2, he1⟩ := next_ok 4 s.2 (by omega) (by omega)
      subst hy2
      have wv : IntKind.wrap .i64 (2 + v) = 2 + v := wrap64 (by omega) (by omega)
      obtain ⟨y, hz1, p, e', hz2, hp, he'⟩ := line_ok (2 + v) e1 (by omega) (by omega)
      subst hz2
      have hf : fits (s.1.length + [p].length) 24 = true := fits24 (by simp; omega)
      refine ⟨(s.1 ++ [p], e'), ?_, ?_, fun u hu => ?_, by simp only; omega⟩
      · simp only [embM, dec_lt hi, cond_true, hy1, Option.bind_some, wv, hz1, hf]
        rw [wrapS hi (by omega)]
      · rw [List.length_append]; simp; omega
      · rcases List.mem_append.1 hu with hu | hu
        · exact h2 u hu
        · rw [List.mem_singleton.1 hu]
          have := hp.len
          exact ⟨by omega, by omega, fun w hw => near_of (hp.near w hw), hp.adj⟩
    · obtain ⟨h1, h2, h3⟩ := hI
      refine ⟨_, ?_, s, rfl, h1, h2, h3⟩
      simp only [embM, dec_nlt, cond_false]
    · obtain ⟨s, rfl, h1, h2, h3⟩ := ho
      exact fin s.1 s.2 (by rw [hb2]; exact made_lines (by omega) h2) h3
  · have hb : ¬ (1 + k = 1) := of_decide_eq_false hb
    have hb2 : ¬ (1 + k = 2) := of_decide_eq_false hb2
    obtain ⟨m, hm, hm2⟩ : ∃ m : Nat, minI (d3.length : Int) 8 = (m : Int) ∧ m ≤ d3.length := by
      unfold minI
      split
      · exact ⟨8, rfl, by omega⟩
      · exact ⟨d3.length, rfl, Nat.le_refl _⟩
    have hu : upTo (m : Int) (d3.length : Int) = true := by unfold upTo; simp; omega
    simp only [hm, hu, cond_true, Int.toNat_natCast]
    refine yl_bind (area_ok (d3.take m)) (fun y hy => ?_)
    obtain ⟨l, rfl, hl⟩ := hy
    exact fin l (d3.drop m) (by
      have e : (1 : Int) + k = 3 := by omega
      rw [e]
      exact made_area hl.1 hl.2) (by rw [List.length_drop]; omega)
@[reducible] def embQ (i : Int) (s : Int × List DFea × List Int) : (Int × List DFea × Int × List Int × Unit) × Unit := ((s.1, (s.2.1, (i, (s.2.2, ())))), ())
theorem asc_snoc : ∀ {l : List DFea} {p : Int} {f : DFea}, Asc p l → featV f = 0 → (∀ g ∈ l, g.1 < f.1) → p < f.1 → Asc p (l ++ [f])
  | [], p, f, _, h1, _, h3 => ⟨h1, h3, trivial⟩
  | g :: l, p, f, ⟨a, b, c⟩, h1, h2, h3 => ⟨a, b, asc_snoc c h1 (fun x hx => h2 x (by simp [hx])) (h2 g (by simp))⟩
structure MadeS (l : List DFea) : Prop where
  len : l.length ≤ 6
  made : ∀ f ∈ l, Made f
  asc : Asc 0 l
  ids : ∀ f ∈ l, f.1 ≤ 18
theorem fits80 {k : Nat} (h : k ≤ 1000) : fits k 80 = true := by unfold fits; simp; omega
theorem survey_ok (raw : List Int) : Yl (r28 (raw, ())) (fun y => ∃ l, y = (l, ()) ∧ MadeS l) := by
  unfold r28
  refine yl_bind (next_ok 7 raw (by omega) (by omega)) (fun y hy => ?_)
  obtain ⟨c, d1, rfl, c1, c2, l1⟩ := hy
  obtain ⟨n, rfl⟩ : ∃ n : Nat, c = (n : Int) := ⟨c.toNat, by omega⟩
  refine yl_bind (P := fun o => ∃ (l : List DFea) (e : List Int), o = Sum.inl ((l, (e, ())), ()) ∧ MadeS l)
    (loop_up embQ n (fun i s => s.2.1.length = i ∧ (∀ f ∈ s.2.1, Made f) ∧ Asc 0 s.2.1 ∧ (∀ f ∈ s.2.1, f.1 ≤ s.1) ∧ 0 ≤ s.1 ∧ s.1 ≤ 3 * i) _ (fun i s hi hI => ?_) (fun s hI => ?_) 0 (0, [], d1) (Nat.zero_le _) ⟨rfl, (fun p hp => by cases hp), trivial, (fun p hp => by cases hp), by simp only; omega, by simp only; omega⟩) (fun o ho => ?_)
  · left
    obtain ⟨id, l, e⟩ := s
    obtain ⟨h1, h2, h3, h4, h5, h6⟩ := hI
    simp only at h1 h2 h3 h4 h5 h6
    obtain ⟨y, hy1, v, e1, hy2, v1, v2, he1⟩ := next_ok 3 e (by omega) (by omega)
    subst hy2
    have wv : IntKind.wrap .i64 (1 + v) = 1 + v := wrap64 (by omega) (by omega)
    have wi : IntKind.wrap .i64 (id + (1 + v)) = id + (1 + v) := wrap64 (by omega) (by omega)
    obtain ⟨y, hz1, f, e', hz2, hfid, hf, he'⟩ := feature_ok (id + (1 + v)) e1 (by omega)
    subst hz2
    have hfit : fits (l.length + [(f.1, (f.2.1, (f.2.2.1, (f.2.2.2.1, (f.2.2.2.2.1, (f.2.2.2.2.2.1, ()))))))].length) 80 = true := fits80 (by simp; omega)
    refine ⟨(id + (1 + v), l ++ [f], e'), ?_, ?_, fun g hg => ?_, asc_snoc h3 hf.ok (fun g hg => by have := h4 g hg; omega) (by omega), fun g hg => ?_, by simp only; omega, by simp only; omega⟩
    · simp only [embQ, dec_lt hi, cond_true, hy1, Option.bind_some, wv, wi, hz1, hfit]
      rw [wrapS hi (by omega)]
    · simp only [List.length_append, List.length_cons, List.length_nil]; omega
    · rcases List.mem_append.1 hg with hg | hg
      · exact h2 g hg
      · rw [List.mem_singleton.1 hg]; exact hf
    · rcases List.mem_append.1 hg with hg | hg
      · have := h4 g hg; simp only; omega
      · rw [List.mem_singleton.1 hg, hfid]; exact Int.le_refl _
  · obtain ⟨id, l, e⟩ := s
    obtain ⟨h1, h2, h3, h4, h5, h6⟩ := hI
    simp only at h1 h2 h3 h4 h5 h6
    refine ⟨_, ?_, l, e, rfl, by omega, h2, h3, fun f hf => by have := h4 f hf; omega⟩
    simp only [embQ, dec_nlt, cond_false]
  · obtain ⟨l, e, rfl, h⟩ := ho
    exact yl_some ⟨l, rfl, h⟩
end Go.Proofs.Ytgabpbnndikheaa.I

namespace Go.Proofs.Ytgabpbnndikheaa.I
open Go.RowKit
set_option linter.unusedVariables false
set_option linter.constructorNameAsVariable false
theorem half_eq (i j n : Nat) (h : i < j) (hj : j ≤ n) (hn : n ≤ 1048576) : IntKind.wrap .i64 (Int.fdiv (IntKind.wrap .u64 (IntKind.wrap .i64 ((i : Int) + (j : Int)))) 2) = (((i + j) / 2 : Nat) : Int) := by
  have e1 : IntKind.wrap .i64 ((i : Int) + (j : Int)) = ((i + j : Nat) : Int) := by rw [wrap64 (by omega) (by omega)]; omega
  have e2 : IntKind.wrap .u64 ((i + j : Nat) : Int) = ((i + j : Nat) : Int) := by
    simp only [IntKind.wrap, IntKind.bits, IntKind.signed]
    simp
    omega
  have e3 : Int.fdiv ((i + j : Nat) : Int) 2 = (((i + j) / 2 : Nat) : Int) := by
    rw [Int.fdiv_eq_ediv_of_nonneg _ (by omega)]
    omega
  rw [e1, e2, e3, wrap64 (by omega) (by omega)]
@[reducible] def embJ (i j : Nat) (l : List DFea) (id : Int) : (Int × Int × List DFea × Int × Unit) × Unit := (((i : Int), ((j : Int), (l, (id, ())))), ())
theorem search_eq (l : List DFea) (id : Int) (hl : l.length ≤ 1048576) {p : Int} (h : Asc p l) : ∃ k : Nat, k ≤ l.length ∧ (∀ (m : Nat) f, m < k → l[m]? = some f → f.1 < id) ∧ (∀ (m : Nat) f, k ≤ m → l[m]? = some f → id ≤ f.1) ∧
    r30_31 ((l.length : Int), ()) (l, (id, ())) = some (((k : Int), ()), (l, (id, ()))) := by
  unfold r30_31
  refine bind_loopQ (fun z => ∃ k : Nat, k ≤ l.length ∧ (∀ (m : Nat) f, m < k → l[m]? = some f → f.1 < id) ∧ (∀ (m : Nat) f, k ≤ m → l[m]? = some f → id ≤ f.1) ∧ z = some (((k : Int), ()), (l, (id, ()))))
    (loop_rule (fun d : (Int × Int × List DFea × Int × Unit) × Unit => (d.1.2.1 - d.1.1).toNat)
    (fun d => ∃ i j : Nat, d = embJ i j l id ∧ i ≤ j ∧ j ≤ l.length ∧ (∀ (m : Nat) f, m < i → l[m]? = some f → f.1 < id) ∧ (∀ (m : Nat) f, j ≤ m → l[m]? = some f → id ≤ f.1))
    (fun o : ((Int × List DFea × Int × Unit) × Unit) ⊕ Empty => ∃ k : Nat, o = Sum.inl (((k : Int), (l, (id, ()))), ()) ∧ k ≤ l.length ∧ (∀ (m : Nat) f, m < k → l[m]? = some f → f.1 < id) ∧ (∀ (m : Nat) f, k ≤ m → l[m]? = some f → id ≤ f.1))
    ?step (embJ 0 l.length l id) ⟨0, l.length, rfl, Nat.zero_le _, Nat.le_refl _, fun m f hm => by omega, fun m f hm hf => by have := lt_of_get hf; omega⟩) ?fin
  case step =>
    rintro d ⟨i, j, rfl, hij, hj, hlo, hhi⟩
    by_cases hlt : i < j
    · have e1 : decide ((i : Int) < (j : Int)) = true := decide_eq_true (by omega)
      have hm : (i + j) / 2 < l.length := by omega
      obtain ⟨g, hg⟩ := get_lt hm
      have hstep : r31 (((((i + j) / 2 : Nat) : Int)), ()) (l, (id, ())) = some ((decide (id ≤ g.1), ()), (l, (id, ()))) := by
        unfold r31
        simp only [inB_lt hm, Int.toNat_natCast, hg, cond_true, Option.bind_some]
      left
      by_cases hc : id ≤ g.1
      · refine ⟨embJ i ((i + j) / 2) l id, ?_, ⟨i, (i + j) / 2, rfl, by omega, by omega, hlo, fun m f hm2 hf => ?_⟩, ?_⟩
        · simp only [embJ, e1, cond_true, half_eq i j l.length hlt hj hl, hstep, Option.bind_some, decide_eq_true hc, Bool.not_true, cond_false]
        · rcases Nat.lt_or_ge ((i + j) / 2) m with h5 | h5
          · have := asc_lt h _ _ g f h5 hg hf
            omega
          · have : m = (i + j) / 2 := by omega
            subst this
            rw [hg] at hf
            injection hf with hf
            subst hf
            exact hc
        · simp only [embJ]
          omega
      · have e3 : IntKind.wrap .i64 ((((i + j) / 2 : Nat) : Int) + 1) = (((i + j) / 2 + 1 : Nat) : Int) := by rw [wrapS hm (by omega)]; omega
        refine ⟨embJ ((i + j) / 2 + 1) j l id, ?_, ⟨(i + j) / 2 + 1, j, rfl, by omega, by omega, fun m f hm2 hf => ?_, hhi⟩, ?_⟩
        · simp only [embJ, e1, cond_true, half_eq i j l.length hlt hj hl, hstep, Option.bind_some, decide_eq_false hc, Bool.not_false, e3]
        · rcases Nat.lt_or_ge m ((i + j) / 2) with h5 | h5
          · have := asc_lt h _ _ f g h5 hf hg
            omega
          · have : m = (i + j) / 2 := by omega
            subst this
            rw [hg] at hf
            injection hf with hf
            subst hf
            omega
        · simp only [embJ]
          omega
    · have e1 : decide ((i : Int) < (j : Int)) = false := decide_eq_false (by omega)
      right
      have hij2 : i = j := by omega
      subst hij2
      refine ⟨_, ?_, i, rfl, by omega, hlo, hhi⟩
      simp only [embJ, e1, cond_false]
  case fin =>
    rintro o ⟨k, rfl, h2, h3, h4⟩
    exact ⟨k, h2, h3, h4, rfl⟩
theorem find_eq (l : List DFea) (id : Int) (hl : l.length ≤ 1048576) {p : Int} (h : Asc p l) : r17 (l, (id, ())) = some (findI l id, ()) := by
  unfold r17
  obtain ⟨k, hk, h1, h2, h3⟩ := search_eq l id hl h
  rw [h3]
  simp only [Option.bind_some]
  by_cases hlt : k < l.length
  · obtain ⟨g, hg⟩ := get_lt hlt
    simp only [dec_lt hlt, inB_lt hlt, Int.toNat_natCast, hg, cond_true, Option.bind_some]
    by_cases hid : g.1 = id
    · have := at_some h hg hid
      unfold findI
      rw [this]
      simp only [decide_eq_true hid, cond_true]
    · have : at? l id = none := at_none (fun f hf he => by
        obtain ⟨m, hm⟩ := List.mem_iff_getElem?.1 hf
        rcases Nat.lt_trichotomy m k with h5 | h5 | h5
        · have := h1 m f h5 hm; omega
        · subst h5
          rw [hg] at hm
          injection hm with hm
          subst hm
          exact hid he
        · have h6 := h2 k g (Nat.le_refl _) hg
          have h7 := asc_lt h k m g f h5 hg hm
          omega)
      unfold findI
      rw [this]
      simp only [decide_eq_false hid, cond_false]
  · have : at? l id = none := at_none (fun f hf he => by
      obtain ⟨m, hm⟩ := List.mem_iff_getElem?.1 hf
      have := h1 m f (by have := lt_of_get hm; omega) hm
      omega)
    have e : decide ((k : Int) < (l.length : Int)) = false := decide_eq_false (by omega)
    unfold findI
    rw [this]
    simp only [e, cond_false]
end Go.Proofs.Ytgabpbnndikheaa.I

namespace Go.Proofs.Ytgabpbnndikheaa.I
open Go.RowKit
set_option linter.unusedVariables false
set_option linter.constructorNameAsVariable false
/-- A loop over a list whose rounds all go on. -/
theorem loop_fold {α S D O : Type} {step : D → Option (D ⊕ O)} (emb : Int → S → D) (f : S → α → S) (Inv : Nat → S → Prop) (out : S → O) (xs : List α)
    (hin : ∀ (i : Nat) a s, xs[i]? = some a → Inv i s → step (emb i s) = some (.inl (emb ((i : Int) + 1) (f s a))) ∧ Inv (i + 1) (f s a))
    (hend : ∀ s, Inv xs.length s → step (emb (xs.length : Int) s) = some (.inr (out s))) (s : S) (h0 : Inv 0 s) : loop step (emb 0 s) = some (out (xs.foldl f s)) ∧ Inv xs.length (xs.foldl f s) := by
  have key : ∀ (l : List α) (i : Nat) (s : S), i ≤ xs.length → xs.drop i = l → Inv i s → loop step (emb (i : Int) s) = some (out (l.foldl f s)) ∧ Inv xs.length (l.foldl f s) := by
    intro l
    induction l with
    | nil =>
      intro i s hi hl hI
      have : i = xs.length := by
        have := congrArg List.length hl
        simp at this; omega
      subst this
      exact ⟨by rw [loop_eq, hend s hI]; rfl, hI⟩
    | cons a l ih =>
      intro i s hi hl hI
      have ha : xs[i]? = some a := by
        have := congrArg (fun l => l[0]?) hl
        simpa using this
      have hlt := lt_of_get ha
      have hd : xs.drop (i + 1) = l := by rw [← List.drop_drop, hl]; rfl
      obtain ⟨h1, h2⟩ := hin i a s ha hI
      rw [loop_eq, h1]
      exact ih (i + 1) _ hlt hd h2
  exact key xs 0 s (Nat.zero_le _) rfl h0
/-- Rounds that go on or end. -/
def foldE {α S O : Type} (body : S → α → S ⊕ O) (out : S → O) : List α → S → O
  | [], s => out s
  | a :: l, s => match body s a with
    | .inl s' => foldE body out l s'
    | .inr o => o
def stepE {D S O : Type} (emb : Int → S → D) (i : Nat) : S ⊕ O → Option (D ⊕ O)
  | .inl s' => some (.inl (emb ((i : Int) + 1) s'))
  | .inr o => some (.inr o)
theorem loop_exit {α S D O : Type} {step : D → Option (D ⊕ O)} (emb : Int → S → D) (body : S → α → S ⊕ O) (Inv : Nat → S → Prop) (out : S → O) (xs : List α)
    (hin : ∀ (i : Nat) a s, xs[i]? = some a → Inv i s → step (emb i s) = stepE emb i (body s a) ∧ ∀ s', body s a = .inl s' → Inv (i + 1) s')
    (hend : ∀ s, Inv xs.length s → step (emb (xs.length : Int) s) = some (.inr (out s))) (s : S) (h0 : Inv 0 s) : loop step (emb 0 s) = some (foldE body out xs s) := by
  have key : ∀ (l : List α) (i : Nat) (s : S), i ≤ xs.length → xs.drop i = l → Inv i s → loop step (emb (i : Int) s) = some (foldE body out l s) := by
    intro l
    induction l with
    | nil =>
      intro i s hi hl hI
      have : i = xs.length := by
        have := congrArg List.length hl
        simp at this; omega
      subst this
      rw [loop_eq, hend s hI]
      rfl
    | cons a l ih =>
      intro i s hi hl hI
      have ha : xs[i]? = some a := by
        have := congrArg (fun l => l[0]?) hl
        simpa using this
      have hlt := lt_of_get ha
      have hd : xs.drop (i + 1) = l := by rw [← List.drop_drop, hl]; rfl
      obtain ⟨h1, h2⟩ := hin i a s ha hI
      rw [loop_eq, h1]
      simp only [foldE]
      cases hb : body s a with
      | inl s' => exact ih (i + 1) _ hlt hd (h2 s' hb)
      | inr o => rfl
  exact key xs 0 s (Nat.zero_le _) rfl h0
end Go.Proofs.Ytgabpbnndikheaa.I

namespace Go.Proofs.Ytgabpbnndikheaa.I
open Go.RowKit
set_option linter.unusedVariables false
set_option linter.constructorNameAsVariable false
theorem foldE_all {α O : Type} (F : α → Bool) (o1 o2 : O) : ∀ (l : List α), foldE (fun (_ : Unit) a => cond (F a) (.inl ()) (.inr o1)) (fun _ => o2) l () = cond (l.all F) o2 o1
  | [] => rfl
  | a :: l => by
    have ih := foldE_all F o1 o2 l
    simp only [foldE, List.all_cons]
    cases F a with
    | true => simpa using ih
    | false => simp
theorem eq_loop {α D O : Type} {step : D → Option (D ⊕ O)} (emb : Int → D) (eqv : α → α → Bool) (xs ys : List α) (hl : xs.length = ys.length) (o1 o2 : O)
    (hin : ∀ (i : Nat) a b, xs[i]? = some a → ys[i]? = some b → step (emb i) = some (cond (eqv a b) (.inl (emb ((i : Int) + 1))) (.inr o1)))
    (hend : step (emb (xs.length : Int)) = some (.inr o2)) : loop step (emb 0) = some (cond ((xs.zip ys).all (fun p => eqv p.1 p.2)) o2 o1) := by
  have hz : (xs.zip ys).length = xs.length := by rw [List.length_zip]; omega
  have := loop_exit (step := step) (fun i (_ : Unit) => emb i) (fun _ (p : α × α) => cond (eqv p.1 p.2) (.inl ()) (.inr o1)) (fun _ _ => True) (fun _ => o2) (xs.zip ys) (fun i p s hp _ => ?_) (fun s _ => ?_) () trivial
  · rw [this, foldE_all (fun p : α × α => eqv p.1 p.2)]
  · obtain ⟨h1, h2⟩ := List.getElem?_zip_eq_some.1 hp
    refine ⟨?_, fun _ _ => trivial⟩
    rw [hin i p.1 p.2 h1 h2]
    cases eqv p.1 p.2 <;> rfl
  · rw [hz, hend]
theorem zip_all {α : Type} (eqv : α → α → Bool) (he : ∀ a b, eqv a b = true ↔ a = b) : ∀ (xs ys : List α), xs.length = ys.length → ((xs.zip ys).all (fun p => eqv p.1 p.2) = true ↔ xs = ys)
  | [], [], _ => by simp
  | [], b :: ys, h => by simp at h
  | a :: xs, [], h => by simp at h
  | a :: xs, b :: ys, h => by
    have ih := zip_all eqv he xs ys (by simpa using h)
    simp only [List.zip_cons_cons, List.all_cons, Bool.and_eq_true, he, ih, List.cons.injEq]
def eqPt (a b : DPt) : Bool := decide (a.1 = b.1) && decide (a.2.1 = b.2.1)
theorem eqPt_iff (a b : DPt) : eqPt a b = true ↔ a = b := by
  obtain ⟨x, y, ⟨⟩⟩ := a
  obtain ⟨x', y', ⟨⟩⟩ := b
  simp [eqPt]
def eqAt (a b : DAtt) : Bool := decide (a.1 = b.1) && (decide (a.2.1.1 = b.2.1.1) && (decide (a.2.1.2.1 = b.2.1.2.1) && (decide (a.2.1.2.2.1 = b.2.1.2.2.1) && decide (a.2.1.2.2.2.1 = b.2.1.2.2.2.1))))
theorem eqAt_iff (a b : DAtt) : eqAt a b = true ↔ a = b := by
  obtain ⟨k, ⟨v1, v2, v3, v4, ⟨⟩⟩, ⟨⟩⟩ := a
  obtain ⟨k', ⟨w1, w2, w3, w4, ⟨⟩⟩, ⟨⟩⟩ := b
  simp [eqAt]
instance decAtt : DecidableEq DAtt := fun a b => decidable_of_iff (eqAt a b = true) (eqAt_iff a b)
theorem len_ne {α : Type} [DecidableEq α] {xs ys : List α} (h : ¬ (xs.length : Int) = (ys.length : Int)) : decide (xs = ys) = false := decide_eq_false (fun e => h (by rw [e]))
abbrev embU (i : Int) : (Int × Unit) × Unit := ((i, ()), ())
theorem eqPts_eq (xs ys : List DPt) (hl : xs.length ≤ 1048576) : r35 (xs, (ys, ())) = some (decide (xs = ys), ()) := by
  unfold r35
  by_cases hq : (xs.length : Int) = (ys.length : Int)
  · have hq' : xs.length = ys.length := by omega
    simp only [decide_eq_true hq, Bool.not_true, cond_false]
    refine (congrArg (fun z => Option.bind z _) (eq_loop embU eqPt xs ys hq' (Sum.inl ((false, ()), ())) (Sum.inr (Sum.inl ((), ()))) (fun i a b ha hb => ?_) ?_)).trans ?_
    · have hlt := lt_of_get ha
      have hlt2 := lt_of_get hb
      simp only [embU, dec_lt hlt, inB_lt hlt, inB_lt hlt2, Int.toNat_natCast, ha, hb, cond_true, Option.bind_some]
      rw [wrapS hlt (by omega)]
      show cond (!eqPt a b) _ _ = _
      cases eqPt a b <;> rfl
    · simp only [embU, dec_nlt, cond_false]
    · simp only [Option.bind_some]
      by_cases h : xs = ys
      · rw [(zip_all eqPt eqPt_iff xs ys hq').2 h, decide_eq_true h]; rfl
      · rw [Bool.eq_false_iff.2 (fun hh => h ((zip_all eqPt eqPt_iff xs ys hq').1 hh)), decide_eq_false h]; rfl
  · simp only [decide_eq_false hq, Bool.not_false, cond_true]
    rw [len_ne hq]
theorem eqAtts_eq (xs ys : List DAtt) (hl : xs.length ≤ 1048576) : r33 (xs, (ys, ())) = some (decide (xs = ys), ()) := by
  unfold r33
  by_cases hq : (xs.length : Int) = (ys.length : Int)
  · have hq' : xs.length = ys.length := by omega
    simp only [decide_eq_true hq, Bool.not_true, cond_false]
    refine (congrArg (fun z => Option.bind z _) (eq_loop embU eqAt xs ys hq' (Sum.inl ((false, ()), ())) (Sum.inr (Sum.inl ((), ()))) (fun i a b ha hb => ?_) ?_)).trans ?_
    · have hlt := lt_of_get ha
      have hlt2 := lt_of_get hb
      simp only [embU, dec_lt hlt, inB_lt hlt, inB_lt hlt2, Int.toNat_natCast, ha, hb, cond_true, Option.bind_some]
      rw [wrapS hlt (by omega)]
      show cond (!eqAt a b) _ _ = _
      cases eqAt a b <;> rfl
    · simp only [embU, dec_nlt, cond_false]
    · simp only [Option.bind_some]
      by_cases h : xs = ys
      · rw [(zip_all eqAt eqAt_iff xs ys hq').2 h, decide_eq_true h]; rfl
      · rw [Bool.eq_false_iff.2 (fun hh => h ((zip_all eqAt eqAt_iff xs ys hq').1 hh)), decide_eq_false h]; rfl
  · simp only [decide_eq_false hq, Bool.not_false, cond_true]
    rw [len_ne hq]
theorem eqParts_eq (xs ys : List (List DPt)) (hl : xs.length ≤ 1048576) (hp : ∀ p ∈ xs, p.length ≤ 1048576) : r34_35 (xs, (ys, ((), ()))) = some (decide (xs = ys), ()) := by
  unfold r34_35
  have hiff : ∀ a b : List DPt, decide (a = b) = true ↔ a = b := fun a b => by simp
  by_cases hq : (xs.length : Int) = (ys.length : Int)
  · have hq' : xs.length = ys.length := by omega
    simp only [decide_eq_true hq, Bool.not_true, cond_false]
    refine (congrArg (fun z => Option.bind z _) (eq_loop embU (fun a b => decide (a = b)) xs ys hq' (Sum.inl ((false, ()), ())) (Sum.inr (Sum.inl ((), ()))) (fun i a b ha hb => ?_) ?_)).trans ?_
    · have hlt := lt_of_get ha
      have hlt2 := lt_of_get hb
      simp only [embU, dec_lt hlt, inB_lt hlt, inB_lt hlt2, Int.toNat_natCast, ha, hb, cond_true, Option.bind_some]
      rw [wrapS hlt (by omega), eqPts_eq a b (hp a (List.mem_of_getElem? ha))]
      simp only [Option.bind_some]
      cases decide (a = b) <;> rfl
    · simp only [embU, dec_nlt, cond_false]
    · simp only [Option.bind_some]
      by_cases h : xs = ys
      · rw [(zip_all (fun a b => decide (a = b)) hiff xs ys hq').2 h, decide_eq_true h]; rfl
      · rw [Bool.eq_false_iff.2 (fun hh => h ((zip_all (fun a b => decide (a = b)) hiff xs ys hq').1 hh)), decide_eq_false h]; rfl
  · simp only [decide_eq_false hq, Bool.not_false, cond_true]
    rw [len_ne hq]
def eqFe (a b : DFea) : Bool := decide (a.1 = b.1) && (decide (a.2.1 = b.2.1) && (decide (a.2.2.1 = b.2.2.1) && (decide (a.2.2.2.1 = b.2.2.2.1) && (decide (a.2.2.2.2.1 = b.2.2.2.2.1) && decide (a.2.2.2.2.2.1 = b.2.2.2.2.2.1)))))
theorem eqFe_iff (a b : DFea) : eqFe a b = true ↔ a = b := by
  obtain ⟨i, k, ps, ats, fr, up, ⟨⟩⟩ := a
  obtain ⟨i', k', ps', ats', fr', up', ⟨⟩⟩ := b
  simp [eqFe]
instance decFea : DecidableEq DFea := fun a b => decidable_of_iff (eqFe a b = true) (eqFe_iff a b)
structure Few (f : DFea) : Prop where
  parts : f.2.2.1.length ≤ 1048576
  pts : ∀ p ∈ f.2.2.1, p.length ≤ 1048576
  atts : f.2.2.2.1.length ≤ 1048576
theorem same_eq (a b : DFea) (h : Few a) : r19 (a, (b, ())) = some (decide (a = b), ()) := by
  unfold r19
  have e1 : r33 (a.2.2.2.1, (b.2.2.2.1, ())) = some (decide (a.2.2.2.1 = b.2.2.2.1), ()) := eqAtts_eq _ _ h.atts
  have e2 : r34_35 (a.2.2.1, (b.2.2.1, ((), ()))) = some (decide (a.2.2.1 = b.2.2.1), ()) := eqParts_eq _ _ h.parts h.pts
  simp only [e1, e2, Option.bind_some]
  obtain ⟨i, k, ps, ats, fr, up, ⟨⟩⟩ := a
  obtain ⟨i', k', ps', ats', fr', up', ⟨⟩⟩ := b
  simp only
  by_cases k1 : i = i' <;> by_cases k2 : k = k' <;> by_cases k3 : fr = fr' <;> by_cases k4 : up = up' <;> by_cases k5 : ats = ats' <;> by_cases k6 : ps = ps' <;> simp [k1, k2, k3, k4, k5, k6]
end Go.Proofs.Ytgabpbnndikheaa.I

namespace Go.Proofs.Ytgabpbnndikheaa.I
open Go.RowKit
set_option linter.unusedVariables false
set_option linter.constructorNameAsVariable false
theorem set_self {α : Type} : ∀ {xs : List α} {i : Nat} {a : α}, xs[i]? = some a → xs.set i a = xs
  | [], i, a, h => by simp at h
  | x :: xs, 0, a, h => by simp at h; subst h; rfl
  | x :: xs, i + 1, a, h => by
    have := set_self (xs := xs) (i := i) (a := a) (by simpa using h)
    simp [this]
theorem fitsN {n m : Nat} (h : n ≤ 1048577) (hm : m ≤ 80) : fits n m = true := by
  unfold fits
  have : n * m ≤ 1048577 * 80 := Nat.mul_le_mul h hm
  simp
  omega
theorem fold_id {α S : Type} : ∀ (l : List α) (s : S), l.foldl (fun s _ => s) s = s
  | [], _ => rfl
  | _ :: l, s => fold_id l s
theorem fold_filter {α : Type} (p : α → Bool) : ∀ (l : List α) (d : List α), l.foldl (fun d a => if p a = true then d ++ [a] else d) d = d ++ l.filter p
  | [], d => by simp
  | a :: l, d => by
    rw [List.foldl_cons, fold_filter p l, List.filter_cons]
    split <;> simp
@[reducible] def embC (i : Int) (s : List (List DPt)) : (Int × Unit) × (List (List DPt) × Unit) := ((i, ()), (s, ()))
theorem copy_eq (f : DFea) (h : Few f) : r32 (f, ()) = some (f, ()) := by
  unfold r32
  have hp := h.parts
  have ha := h.atts
  have e1 : clonePPR (f.2.2.1, ()) = some f.2.2.1 := by
    unfold clonePPR
    have : fits (List.length (α := List DPt) f.2.2.1) 24 = true := fitsN (by omega) (by omega)
    simp only [this, cond_true]
  have e2 : cloneAtR (f.2.2.2.1, ()) = some f.2.2.2.1 := by
    unfold cloneAtR
    have : fits (List.length (α := DAtt) f.2.2.2.1) 56 = true := fitsN (by omega) (by omega)
    simp only [this, cond_true]
  simp only [e1, e2, Option.bind_some]
  refine (congrArg (fun z => Option.bind z _) (loop_fold embC (fun s _ => s) (fun _ s => s = f.2.2.1) (fun s => Sum.inl ((), (s, ()))) f.2.2.1 (fun i p s hpi hs => ?_) (fun s hs => ?_) f.2.2.1 rfl).1).trans ?_
  · subst hs
    have hlt := lt_of_get hpi
    have hpl := h.pts p (List.mem_of_getElem? hpi)
    have e3 : clonePtR (p, ()) = some p := by
      unfold clonePtR
      have : fits (List.length (α := DPt) p) 16 = true := fitsN (by omega) (by omega)
      simp only [this, cond_true]
    simp only [embC, dec_lt hlt, inB_lt hlt, Int.toNat_natCast, hpi, cond_true, Option.bind_some, e3, set_self hpi]
    rw [wrapS hlt (by omega)]
    exact ⟨by first | trivial | rfl, by first | trivial | rfl⟩
  · subst hs
    simp only [embC, dec_nlt, cond_false]
  · rw [fold_id]
    rfl
@[reducible] def embF (i : Int) (d : List DFea) : (List DFea × Int × Unit) × Unit := ((d, (i, ())), ())
@[reducible] def outF (d : List DFea) : ((List DFea × Unit) × Unit) ⊕ Empty := Sum.inl ((d, ()), ())
def atB (time : Int) (f : DFea) : Bool := decide (f.2.2.2.2.1 ≤ time) && decide (time < f.2.2.2.2.2.1)
theorem at_eq (l : List DFea) (time : Int) (hl : l.length ≤ 1048576) (h : ∀ f ∈ l, Few f) : r21 (l, (time, ())) = some (l.filter (atB time), ()) := by
  unfold r21
  refine (congrArg (fun z => Option.bind z _) (loop_fold embF (fun d f => if atB time f = true then d ++ [f] else d) (fun i d => d.length ≤ i) outF l (fun i f d hf hI => ?_) (fun d _ => ?_) [] (by simp)).1).trans ?_
  · have hlt := lt_of_get hf
    have hI' : d.length ≤ i := hI
    have e : r32 ((f.1, (f.2.1, (f.2.2.1, (f.2.2.2.1, (f.2.2.2.2.1, (f.2.2.2.2.2.1, ())))))), ()) = some (f, ()) := copy_eq f (h f (List.mem_of_getElem? hf))
    simp only [embF, dec_lt hlt, inB_lt hlt, Int.toNat_natCast, hf, cond_true, Option.bind_some, e]
    rw [wrapS hlt (by omega), fitsN (by simp only [List.length_cons, List.length_nil]; omega) (by omega)]
    unfold atB
    cases k1 : decide (f.2.2.2.2.1 ≤ time) with
    | false => exact ⟨rfl, by simp; omega⟩
    | true =>
      cases k2 : decide (time < f.2.2.2.2.2.1) with
      | false => exact ⟨rfl, by simp; omega⟩
      | true => exact ⟨rfl, by simp; omega⟩
  · simp only [embF, dec_nlt, cond_false]
  · rw [fold_filter]
    rfl
end Go.Proofs.Ytgabpbnndikheaa.I

namespace Go.Proofs.Ytgabpbnndikheaa.I
open Go.RowKit
set_option linter.unusedVariables false
set_option linter.constructorNameAsVariable false
theorem few_made {f : DFea} (h : Made f) : Few f := ⟨by have := h.parts.len; omega, fun p hp => by have := h.parts.pts p hp; omega, by have := h.atts.len; omega⟩
theorem small_madeS {l : List DFea} (h : MadeS l) : small (.slice kFea) l := ⟨by have := h.len; unfold maxLen; omega, fun f hf => (h.made f hf).sm⟩
theorem zeroF_eq : r29 (((0 : Int), ((0 : Int), ([], ([], ((0 : Int), ((0 : Int), ())))))), ()) = some ((1 : Int), ()) := by
  unfold r29
  rfl
theorem begunK_ok (raw : List Int) : Yl (r16 (raw, ())) (fun y => ∃ l, y = (l, (true, ())) ∧ MadeS l) := by
  unfold r16
  refine yl_bind (survey_ok raw) (fun y hy => ?_)
  obtain ⟨l, rfl, hl⟩ := hy
  have h0 : survV l = 0 := survV_of (by have := hl.len; omega) hl.asc
  have e1 := r16_eq l (small_madeS hl)
  rw [h0] at e1
  refine yl_bind (yl_eq e1) (fun x hx => ?_)
  subst hx
  refine yl_true rfl (yl_bind (yl_eq zeroF_eq) (fun x hx => ?_))
  subst hx
  exact yl_some ⟨l, rfl, hl⟩
theorem asc_up : ∀ {l : List DFea} {p q : Int}, Asc p l → q ≤ p → Asc q l
  | [], _, _, _, _ => trivial
  | f :: l, p, q, ⟨a, b, c⟩, h => ⟨a, by omega, c⟩
theorem asc_filter (b : DFea → Bool) : ∀ {l : List DFea} {p : Int}, Asc p l → Asc p (l.filter b)
  | [], _, _ => trivial
  | f :: l, p, ⟨h1, h2, h3⟩ => by
    rw [List.filter_cons]
    split
    · exact ⟨h1, h2, asc_filter b h3⟩
    · exact asc_filter b (asc_up h3 (by omega))
theorem find_mem {l : List DFea} {p : Int} (h : Asc p l) {f : DFea} (hf : f ∈ l) : ∃ i : Nat, findI l f.1 = (i : Int) ∧ l[i]? = some f := by
  obtain ⟨i, hi⟩ := List.mem_iff_getElem?.1 hf
  refine ⟨i, ?_, hi⟩
  unfold findI
  rw [at_some h hi rfl]
theorem asc_inj {l : List DFea} {p : Int} (h : Asc p l) {f g : DFea} (hf : f ∈ l) (hg : g ∈ l) (e : f.1 = g.1) : f = g := by
  obtain ⟨i, h1, h2⟩ := find_mem h hf
  obtain ⟨j, h3, h4⟩ := find_mem h hg
  rw [e] at h1
  have : i = j := by omega
  subst this
  rw [h2] at h4
  injection h4
theorem find_none {l : List DFea} {id : Int} (h : ∀ f ∈ l, f.1 ≠ id) : findI l id = -1 := by
  unfold findI
  rw [at_none h]
set_option maxHeartbeats 2000000 in
theorem featTimes_raw (raw : List Int) (time : Int) (_ : small (.slice (.int .i64)) raw) (_ : small (.int .i64) time) : r5 (raw, (time, ())) = some (true, ()) := by
  have key : Yl (r5 (raw, (time, ()))) (fun y => y = (true, ())) := by
    unfold r5
    refine yl_bind (begunK_ok raw) (fun y hy => ?_)
    obtain ⟨l', rfl, hl'⟩ := hy
    obtain ⟨l, hl, rfl⟩ : ∃ l : List DFea, MadeS l ∧ l = l' := ⟨l', hl', rfl⟩
    clear hl'
    refine yl_false rfl ?_
    have hone : Few ((1 : Int), ((0 : Int), (([] : List (List DPt)), (([] : List DAtt), ((0 : Int), ((1 : Int), ())))))) := ⟨Nat.zero_le _, fun p hp => (by cases hp), Nat.zero_le _⟩
    have e0 := at_eq [((1 : Int), ((0 : Int), (([] : List (List DPt)), (([] : List DAtt), ((0 : Int), ((1 : Int), ()))))))] 0 (by simp) (fun f hf => by rw [List.mem_singleton.1 hf]; exact hone)
    refine yl_bind (yl_eq e0) (fun x hx => ?_)
    subst hx
    refine yl_false rfl ?_
    refine yl_bind (below_ok time 70 (by omega) (by omega)) (fun y hy => ?_)
    obtain ⟨t, rfl, t1, t2⟩ := hy
    have hll := hl.len
    refine yl_bind (yl_eq (at_eq l t (by omega) (fun f hf => few_made (hl.made f hf)))) (fun x hx => ?_)
    subst hx
    have hA := asc_filter (atB t) hl.asc
    have hfl := List.length_filter_le (atB t) l
    refine yl_bind (P := fun o => o = Sum.inr (Sum.inl ((), ()))) (loop_up (fun (i : Int) (_ : Unit) => ((i, ()), ())) l.length (fun _ _ => True) (fun o => o = Sum.inr (Sum.inl ((), ()))) (fun i s hi _ => ?_) (fun s _ => ⟨_, by simp only [dec_nlt, cond_false], rfl⟩) 0 () (Nat.zero_le _) trivial) (fun o ho => ?_)
    · left
      refine ⟨(), ?_, trivial⟩
      obtain ⟨f, hf⟩ := get_lt hi
      have hm := List.mem_of_getElem? hf
      have hfew := few_made (hl.made f hm)
      have e1 := find_eq (l.filter (atB t)) f.1 (by omega) hA
      simp only [dec_lt hi, inB_lt hi, Int.toNat_natCast, hf, cond_true, Option.bind_some, e1, wrapS hi (show l.length ≤ 9223372036854775807 by omega)]
      cases hb : atB t f with
      | true =>
        obtain ⟨j, h1, h2⟩ := find_mem hA (List.mem_filter.2 ⟨hm, hb⟩)
        have hj := lt_of_get h2
        have e2 : r19 ((f.1, (f.2.1, (f.2.2.1, (f.2.2.2.1, (f.2.2.2.2.1, (f.2.2.2.2.2.1, ())))))), ((f.1, (f.2.1, (f.2.2.1, (f.2.2.2.1, (f.2.2.2.2.1, (f.2.2.2.2.2.1, ())))))), ())) = some (decide (f = f), ()) := same_eq f f hfew
        unfold atB at hb
        simp only [Bool.and_eq_true] at hb
        have c1 : decide ((0 : Int) ≤ (j : Int)) = true := decide_eq_true (by omega)
        have c2 : decide (((l.filter (atB t)).length : Int) ≤ (j : Int)) = false := decide_eq_false (by omega)
        simp only [h1, hb.1, hb.2, cond_true, c1, decide_true, Bool.not_true, cond_false, c2, inB_lt hj, Int.toNat_natCast, h2, Option.bind_some, e2]
      | false =>
        have h1 : findI (l.filter (atB t)) f.1 = -1 := find_none (fun g hg he => by
          obtain ⟨hg1, hg2⟩ := List.mem_filter.1 hg
          have := asc_inj hl.asc hg1 hm he
          subst this
          rw [hb] at hg2
          cases hg2)
        have c1 : decide ((0 : Int) ≤ -1) = false := by decide
        have c2 : decide (((l.filter (atB t)).length : Int) ≤ -1) = false := decide_eq_false (by omega)
        unfold atB at hb
        simp only [h1, c1, c2, cond_false]
        cases k1 : decide (f.2.2.2.2.1 ≤ t) with
        | false => rfl
        | true =>
          rw [k1, Bool.true_and] at hb
          simp only [cond_true, hb]
          rfl
    · subst ho
      have hs : small (.slice kFea) (l.filter (atB t)) := ⟨by unfold maxLen; omega, fun f hf => (hl.made f (List.mem_filter.1 hf).1).sm⟩
      have e3 := r16_eq _ hs
      rw [survV_of (by omega) hA] at e3
      refine yl_true (decide_eq_true (by simp only; omega)) (yl_bind (yl_eq e3) (fun x hx => ?_))
      subst hx
      exact yl_some rfl
  obtain ⟨y, h1, rfl⟩ := key
  exact h1
end Go.Proofs.Ytgabpbnndikheaa.I
