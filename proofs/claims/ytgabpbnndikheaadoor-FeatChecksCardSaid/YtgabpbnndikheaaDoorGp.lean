import Derived.Test.YtgabpbnndikheaaDoorGo
import Derived.Test.YtgabpbnndikheaaDoorGk
set_option linter.constructorNameAsVariable false
/-! Areas. -/
namespace Go.Proofs.YtgabpbnndikheaaDoor
open Go.RowKit Go.Proofs.YtgabpbnndikheaaDoorW.PrintWords

/-- A cell that holds a row of points. -/
def RgC (w : World) (r : List Pt) (cs : List Value) : Prop := ∃ A c, cs = [.slice A r.length c] ∧ r.length ≤ c ∧ RdP w A r
/-- A row of rows of points. -/
def RdA (w : World) (A : Option Addr) (a : List (List Pt)) : Prop := ReadsRow (RgC w) 1 w A a.length a
theorem RdA.keep {w w' : World} {A : Option Addr} {a : List (List Pt)} (h : RdA w A a) (hb : Below w.heap.size w w') : RdA w' A a := h.imp_ hb fun _ _ ⟨A, c, e, hl, h⟩ => ⟨A, c, e, hl, h.keep hb⟩
def rg (a : List (List Pt)) (i : Nat) : List Pt := a.getD i []
theorem RdA.rg {w : World} {A : Option Addr} {a : List (List Pt)} (h : RdA w A a) {i : Nat} (hi : i < a.length) :
    ∃ ad A' c, A = some ad ∧ w.cell? (ad.add i) = some (.slice A' (rg a i).length c) ∧ (rg a i).length ≤ c ∧ RdP w A' (rg a i) := by
  obtain ⟨ad, e, hc⟩ := h.2.2 (by omega)
  have e2 : Go.Proofs.YtgabpbnndikheaaDoor.rg a i = a[i] := by unfold Go.Proofs.YtgabpbnndikheaaDoor.rg; rw [List.getD_eq_getElem?_getD, List.getElem?_eq_getElem hi]; rfl
  rw [e2]
  obtain ⟨c, hs, ⟨A', c', hr, hl, hp⟩, hcell⟩ := hc i _ (List.getElem?_eq_getElem hi)
  subst hr
  have := hcell 0 _ rfl
  rw [Nat.mul_one, Nat.add_zero] at this
  exact ⟨ad, A', c', e, this, hl, hp⟩
/-- The first error of the rings up to the n-th. -/
def ringsErr (a : List (List Pt)) : Nat → Int
  | 0 => 0
  | n + 1 => if ringsErr a n = 0 then ringErr (rg a n) else ringsErr a n
theorem ringsErr_stay {a : List (List Pt)} {i n : Nat} (hi : i < n) (h : ringsErr a i = 0) (h2 : ringErr (rg a i) ≠ 0) : ringsErr a n = ringErr (rg a i) := by
  induction n with
  | zero => omega
  | succ n ih =>
    by_cases hin : i = n
    · subst hin
      rw [ringsErr, if_pos h]
    · have := ih (by omega)
      rw [ringsErr, if_neg (by rw [this]; exact h2), this]
theorem ringsErr_all {a : List (List Pt)} {n : Nat} (h : ringsErr a n = 0) : ∀ i, i < n → ringErr (rg a i) = 0 := by
  induction n with
  | zero => intro i hi; omega
  | succ n ih =>
    intro i hi
    rw [ringsErr] at h
    by_cases h0 : ringsErr a n = 0
    · rw [if_pos h0] at h
      by_cases hin : i = n
      · subst hin; exact h
      · exact ih h0 i (by omega)
    · rw [if_neg h0] at h
      exact absurd h h0
theorem ringErr_len {r : List Pt} (h : ringErr r = 0) : r.length ≤ 200 := by
  unfold ringErr at h
  by_cases h1 : 200 < r.length
  · rw [if_pos h1] at h; omega
  · omega
def fitsUpto (a : List (List Pt)) (n : Nat) : Bool := (List.range n).all fun i => (List.range i).all fun k => fits (rg a i) (rg a k)
theorem fitsUpto_no {a : List (List Pt)} {i k n : Nat} (hi : i < n) (hk : k < i) (h : fits (rg a i) (rg a k) = false) : fitsUpto a n = false := by
  unfold fitsUpto
  rw [Bool.eq_false_iff]
  intro e
  rw [List.all_eq_true] at e
  have := List.all_eq_true.1 (e i (List.mem_range.2 hi)) k (List.mem_range.2 hk)
  rw [h] at this
  cases this
theorem fitsUpto_succ {a : List (List Pt)} {i : Nat} (h : fitsUpto a i = true) (h2 : ∀ k, k < i → fits (rg a i) (rg a k) = true) : fitsUpto a (i + 1) = true := by
  unfold fitsUpto at *
  rw [List.range_succ, List.all_append, h, Bool.true_and]
  simp only [List.all_cons, List.all_nil, Bool.and_true]
  exact List.all_eq_true.2 fun k hk => h2 k (List.mem_range.1 hk)
def areaErr (a : List (List Pt)) : Int := if 20 < a.length then 2 else if ringsErr a a.length = 0 then (if fitsUpto a a.length then 0 else 10) else ringsErr a a.length
set_option maxHeartbeats 4000000 in
set_option maxRecDepth 100000 in
theorem area_any (a : List (List Pt)) (A : Option Addr) (c : Nat) (w : World) (h : RdA w A a) (hc : a.length ≤ c) :
    Calls Tryd.prog 50 #[.slice A a.length c] w fun e w' => e = .returned (.int .i64 (areaErr a)) ∧ Below w.heap.size w w' := by
  obtain ⟨R, hR⟩ : ∃ R, R = areaErr a := ⟨_, rfl⟩
  rw [← hR]
  unfold areaErr at hR
  have HR := Aside0.mk h
  have hbig := h.2.1
  clear h
  by_cases h1 : 20 < a.length
  · rw [if_pos h1] at hR
    have d1 : decide ((20 : Int) < (a.length : Int)) = true := by simp; omega
    subst hR
    go_enter Tryd.func50, Tryd.ntmps50
    go_wp2
    go_ret
    exact ⟨rfl, Below.refl _ _⟩
  rw [if_neg h1] at hR
  have d1 : decide ((20 : Int) < (a.length : Int)) = false := by simp; omega
  have HD := Aside0.mk hR
  clear hR
  go_enter Tryd.func50, Tryd.ntmps50
  go_wp2
  go_loopw [15] (fun u wr => ∃ i : Nat, u = .int .i64 i ∧ i ≤ a.length ∧ Aside0 (ringsErr a i = 0) ∧ Aside0 (Below w.heap.size w wr)) (fun u _ => a.length - (intOf u).toNat)
  case atStart => exact ⟨0, rfl, Nat.zero_le _, ⟨rfl⟩, ⟨Below.refl _ _⟩⟩
  case round =>
    obtain ⟨i, rfl, hi0, HN, HB1⟩ := hrel
    by_cases hi : i < a.length
    · have hd : decide ((i : Int) < (a.length : Int)) = true := by simp; omega
      have hd' : ¬ a.length ≤ i := by omega
      obtain ⟨ad, A', c', rfl, k1, hl', hrd⟩ := (HR.out.keep HB1.out).rg hi
      have HC := Aside0.mk (ring_any (rg a i) A' c' wr hrd)
      have HE := Aside0.mk (fun e : ringErr (rg a i) ≠ 0 => ringsErr_stay hi HN.out e)
      have HT := Aside0.mk (fun e : ringErr (rg a i) = 0 => (by rw [ringsErr, if_pos HN.out]; exact e : ringsErr a (i + 1) = 0))
      generalize ringErr (rg a i) = m at *
      clear hrd
      by_cases hm : m = 0
      · subst hm
        go_wp2_with (go_at_call 88; refine HC.out.mono ?_; rintro e w2 ⟨rfl, hB⟩; have HB2 := Aside0.mk (below_call HB1.out hB); clear hB)
        go_roundw
        case rel => exact ⟨i + 1, rfl, by omega, ⟨HT.out (by first | rfl | trivial)⟩, HB2⟩
        case measure => simp only [intOf]; omega
      · have hmb : (m == 0) = false := by simpa using hm
        have hmb2 : (m != 0) = true := by simpa using hm
        go_wp2_with (go_at_call 88; refine HC.out.mono ?_; rintro e w2 ⟨rfl, hB⟩; have HB2 := Aside0.mk (below_call HB1.out hB); clear hB)
        go_ret
        refine ⟨i64_ret ?_, HB2.out⟩
        rw [HD.out, HE.out hm, if_neg hm]
    · have hd : decide ((i : Int) < (a.length : Int)) = false := by simp; omega
      have HR0 := Aside0.mk (show ringsErr a a.length = 0 by rw [show a.length = i by omega]; exact HN.out)
      rw [HR0.out, if_pos rfl] at HD
      go_wp2
      go_loopw [27] (fun u wr => ∃ i : Nat, u = .int .i64 i ∧ i ≤ a.length ∧ Aside0 (fitsUpto a i = true) ∧ Aside0 (Below w.heap.size w wr)) (fun u _ => a.length - (intOf u).toNat)
      case atStart => exact ⟨0, rfl, Nat.zero_le _, ⟨rfl⟩, HB1⟩
      case round =>
        obtain ⟨j, rfl, hj0, HN2, HB2⟩ := hrel
        by_cases hj : j < a.length
        · have hdj : decide ((j : Int) < (a.length : Int)) = true := by simp; omega
          have hdj' : ¬ a.length ≤ j := by omega
          have hjc : j ≤ c := by omega
          obtain ⟨ad, A', c', rfl, k1, hl', hrd⟩ := (HR.out.keep HB2.out).rg hj
          have HJ := Aside0.mk hrd
          have hJ := ringErr_len (ringsErr_all HR0.out j hj)
          clear hrd
          go_wp2
          go_loopw [36] (fun u wr2 => ∃ k : Nat, u = .int .i64 k ∧ k ≤ j ∧ Aside0 (∀ q, q < k → fits (rg a j) (rg a q) = true) ∧ Aside0 (Below wr.heap.size wr wr2)) (fun u _ => j - (intOf u).toNat)
          case atStart => exact ⟨0, rfl, Nat.zero_le _, ⟨fun q hq => absurd hq (by omega)⟩, ⟨Below.refl _ _⟩⟩
          case round =>
            obtain ⟨k, rfl, hk0, HK, HB3⟩ := hrel
            have HB4 := Aside0.mk (below_call HB2.out HB3.out)
            by_cases hk : k < j
            · have hdk : decide ((k : Int) < (j : Int)) = true := by simp; omega
              have hdk' : ¬ j ≤ k := by omega
              obtain ⟨ad2, A2, c2, e, k2, hl2, hrd2⟩ := (HR.out.keep HB4.out).rg (by omega : k < a.length)
              injection e with e
              subst e
              have hK := ringErr_len (ringsErr_all HR0.out k (by omega))
              have HC := Aside0.mk (fits_any (rg a j) (rg a k) A' A2 c' c2 wr (HJ.out.keep HB3.out) (by omega) (by omega) hrd2 (by omega) (by omega))
              have HF := Aside0.mk (fun e : fits (rg a j) (rg a k) = false => fitsUpto_no hj hk e)
              have HT := Aside0.mk (fun e : fits (rg a j) (rg a k) = true => (fun q (hq : q < k + 1) => if hqk : q < k then HK.out q hqk else (by rw [show q = k by omega]; exact e) : ∀ q, q < k + 1 → fits (rg a j) (rg a q) = true))
              generalize fits (rg a j) (rg a k) = b at HC HF HT
              clear hrd2
              cases b
              · go_wp2_with (go_at_call 89; (with_reducible refine HC.out.mono ?_); rintro e w3 ⟨rfl, hB⟩; have HB5 := Aside0.mk (below_call HB4.out hB); clear hB)
                go_ret
                refine ⟨i64_ret ?_, HB5.out⟩
                rw [HD.out, HF.out (by first | rfl | trivial)]
                rfl
              · go_wp2_with (go_at_call 89; (with_reducible refine HC.out.mono ?_); rintro e w3 ⟨rfl, hB⟩; have HB5 := Aside0.mk (below_call HB3.out hB); clear hB)
                go_roundw
                case rel => exact ⟨k + 1, rfl, by omega, ⟨HT.out (by first | rfl | trivial)⟩, HB5⟩
                case measure => simp only [intOf]; omega
            · have hdk : decide ((k : Int) < (j : Int)) = false := by simp; omega
              go_wp2
              go_roundw
              case rel => exact ⟨j + 1, rfl, by omega, ⟨fitsUpto_succ HN2.out (fun q hq => HK.out q (by omega))⟩, HB4⟩
              case measure => simp only [intOf]; omega
        · have hdj : decide ((j : Int) < (a.length : Int)) = false := by simp; omega
          go_wp2
          go_ret
          refine ⟨i64_ret ?_, HB2.out⟩
          rw [HD.out, if_pos]
          rw [show a.length = j by omega]
          exact HN2.out
end Go.Proofs.YtgabpbnndikheaaDoor
