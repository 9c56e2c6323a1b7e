import Derived.Test.YtgabpbnndikheaaDoorGr
set_option linter.constructorNameAsVariable false
/-! The reference's parts. -/
namespace Go.Proofs.YtgabpbnndikheaaDoor
open Go.RowKit Go.Proofs.YtgabpbnndikheaaDoorW.PrintWords

def longR (r : List Pt) : Bool := decide (200 < r.length)
def longUpto (a : List (List Pt)) : Nat → Bool
  | 0 => decide (20 < a.length)
  | n + 1 => longUpto a n || longR (rg a n)
theorem longUpto_any (a : List (List Pt)) : ∀ n, n ≤ a.length → longUpto a n = (decide (20 < a.length) || (a.take n).any longR) := by
  intro n
  induction n with
  | zero => intro _; simp [longUpto]
  | succ n ih =>
    intro hn
    rw [longUpto, ih (by omega), List.take_add_one, List.any_append, List.getElem?_eq_getElem (by omega), rg_get (by omega)]
    simp [Bool.or_assoc]
theorem longUpto_all (a : List (List Pt)) : longUpto a a.length = (decide (20 < a.length) || a.any fun r => decide (200 < r.length)) := by
  rw [longUpto_any a _ (Nat.le_refl _), List.take_length]
  rfl
theorem okPt_good {x y : Int} (h : okPt ⟨x, y⟩ = true) : -1048576 ≤ x ∧ x ≤ 1048576 ∧ -1048576 ≤ y ∧ y ≤ 1048576 := by
  unfold okPt at h
  simp at h
  have h1 := lim_le x
  have h2 := lim_le y
  omega
theorem okPt_bad {x y : Int} (h : okPt ⟨x, y⟩ = false) : x < -1048576 ∨ 1048576 < x ∨ y < -1048576 ∨ 1048576 < y := by
  by_cases hh : x < -1048576 ∨ 1048576 < x ∨ y < -1048576 ∨ 1048576 < y
  · exact hh
  · have e1 : lim x = x := by unfold lim; rw [if_neg (by omega), if_neg (by omega)]
    have e2 : lim y = y := by unfold lim; rw [if_neg (by omega), if_neg (by omega)]
    unfold okPt at h
    simp [e1, e2] at h
theorem samePt_comm (a b : Pt) : samePt a b = samePt b a := by
  unfold samePt
  rw [Bool.eq_iff_iff]
  simp
  omega
theorem any_of_pt {l : List Pt} {i : Nat} (hi : i < l.length) (h : okPt (pt l i) = false) : (l.any fun p => !okPt p) = true := by
  rw [List.any_eq_true]
  refine ⟨l[i], List.getElem_mem hi, ?_⟩
  have e : pt l i = l[i] := by unfold pt; rw [List.getD_eq_getElem?_getD, List.getElem?_eq_getElem hi]; rfl
  rw [← e, h]
  rfl
theorem any_of_all {l : List Pt} (h : ∀ i, i < l.length → okPt (pt l i) = true) : (l.any fun p => !okPt p) = false := by
  rw [List.any_eq_false]
  intro x hx
  obtain ⟨i, hi, rfl⟩ := List.getElem_of_mem hx
  have e : pt l i = l[i] := by unfold pt; rw [List.getD_eq_getElem?_getD, List.getElem?_eq_getElem hi]; rfl
  rw [← e, h i hi]
  simp
theorem dupUpto_false {l : List Pt} : ∀ n, (∀ q, q + 1 < n → samePt (pt l q) (pt l (q + 1)) = false) → dupUpto l n = false := by
  intro n
  induction n with
  | zero => intro _; rfl
  | succ n ih =>
    intro h
    rw [dupUpto, ih (fun q hq => h q (by omega)), Bool.false_or]
    by_cases hn : 0 < n
    · have := h (n - 1) (by omega)
      rw [show n - 1 + 1 = n by omega, samePt_comm] at this
      rw [this, Bool.and_false]
    · simp [hn]
theorem dupUpto_true {l : List Pt} {q n : Nat} (hq : q + 1 < n) (h : samePt (pt l q) (pt l (q + 1)) = true) : dupUpto l n = true := dupUpto_stay (i := q + 1) hq (by omega) (by rw [Nat.add_sub_cancel, samePt_comm]; exact h)
set_option maxHeartbeats 8000000 in
set_option maxRecDepth 100000 in
theorem rparts_any (kind : Int) (a : List (List Pt)) (A : Option Addr) (c : Nat) (w : World) (h : RdA w A a) (hc : a.length ≤ c) :
    Calls Tryd.prog 21 #[.int .i64 kind, .slice A a.length c] w fun e w' => e = .returned (.int .i64 (partsErr kind a)) ∧ Below w.heap.size w w' := by
  obtain ⟨R, hR⟩ : ∃ R, R = partsErr kind a := ⟨_, rfl⟩
  rw [← hR]
  unfold partsErr at hR
  have HR := Aside0.mk h
  have hbig := h.2.1
  clear h
  by_cases h1 : kind < 1
  · rw [if_pos (.inl h1)] at hR
    have d1 : decide (kind < 1) = true := by simp; omega
    subst hR
    go_enter Tryd.func21, Tryd.ntmps21
    go_wp2
    go_ret
    exact ⟨rfl, Below.refl _ _⟩
  have d1 : decide (kind < 1) = false := by simp; omega
  by_cases h2 : 3 < kind
  · rw [if_pos (.inr h2)] at hR
    have d2 : decide (3 < kind) = true := by simp; omega
    subst hR
    go_enter Tryd.func21, Tryd.ntmps21
    go_wp2
    go_ret
    exact ⟨rfl, Below.refl _ _⟩
  have d2 : decide (3 < kind) = false := by simp; omega
  rw [if_neg (by omega)] at hR
  have HD := Aside0.mk hR
  have d3 : decide ((20 : Int) < (a.length : Int)) = longUpto a 0 := by rw [longUpto, decide_eq_decide]; omega
  clear hR
  go_enter Tryd.func21, Tryd.ntmps21
  go_wp2
  go_loopw [24, 5] (fun u v wr => ∃ i : Nat, u = .int .i64 i ∧ v = .bool (longUpto a i) ∧ i ≤ a.length ∧ w = wr) (fun u _ _ => a.length - (intOf u).toNat)
  case atStart => exact ⟨0, rfl, by first | rfl | (rw [← d3]), Nat.zero_le _, rfl⟩
  case round =>
    obtain ⟨i, rfl, rfl, hi0, rfl⟩ := hrel
    clear d3
    by_cases hi : i < a.length
    · have hd : decide ((i : Int) < (a.length : Int)) = true := by simp; omega
      have hd' : ¬ a.length ≤ i := by omega
      obtain ⟨ad, A', c', rfl, k1, -, -⟩ := HR.out.rg hi
      have HL := Aside0.mk (show longUpto a (i + 1) = (longUpto a i || longR (rg a i)) from rfl)
      have hdl : decide ((200 : Int) < ((rg a i).length : Int)) = longR (rg a i) := by unfold longR; rw [decide_eq_decide]; omega
      generalize longUpto a i = b at *
      generalize longR (rg a i) = b2 at *
      cases b
      · cases b2
        · go_wp2
          go_roundw
          case rel => exact ⟨i + 1, rfl, by rw [HL.out]; rfl, by omega, by first | rfl | trivial⟩
          case measure => simp only [intOf]; omega
        · go_wp2
          go_roundw
          case rel => exact ⟨i + 1, rfl, by rw [HL.out]; rfl, by omega, by first | rfl | trivial⟩
          case measure => simp only [intOf]; omega
      · go_wp2
        go_roundw
        case rel => exact ⟨i + 1, rfl, by rw [HL.out]; rfl, by omega, by first | rfl | trivial⟩
        case measure => simp only [intOf]; omega
    · have hd : decide ((i : Int) < (a.length : Int)) = false := by simp; omega
      have hia : i = a.length := by omega
      have HL := Aside0.mk (by rw [hia]; exact longUpto_all a : longUpto a i = (decide (20 < a.length) || a.any fun r => decide (200 < r.length)))
      generalize longUpto a i = b at *
      cases b
      rotate_left
      · go_wp2
        go_ret
        refine ⟨i64_ret ?_, Below.refl _ _⟩
        rw [HD.out, if_pos]
        have := HL.out.symm
        simp only [Bool.or_eq_true, decide_eq_true_eq] at this
        exact this
      have hno : ¬ 20 < a.length ∧ (a.any fun r => decide (200 < r.length)) = false := by
        have := HL.out.symm
        simp only [Bool.or_eq_false_iff, decide_eq_false_iff_not] at this
        exact this
      rw [if_neg (fun h => h.elim hno.1 (fun e => by rw [hno.2] at e; cases e))] at HD
      have hshort : ∀ i, i < a.length → (rg a i).length ≤ 200 := fun i hi => by
        have := List.any_eq_false.1 hno.2 _ (List.getElem_mem hi)
        rw [rg_get hi]
        simp at this
        omega
      have HSH := Aside0.mk hshort
      clear hno hshort HL hia
      by_cases h4 : a.length = 0
      · rw [if_pos h4] at HD
        have h5 : a = [] := List.length_eq_zero_iff.1 h4
        subst h5
        clear HSH hi hi0 hc hbig HR h4
        simp only [List.length_nil] at *
        go_wp2
        go_ret
        exact ⟨i64_ret HD.out.symm, Below.refl _ _⟩
      have d4 : ((a.length : Int) == 0) = false := by simpa using h4
      have h4' : a ≠ [] := by intro e; subst e; simp at h4
      rw [if_neg h4] at HD
      go_wp2
      go_loopw [41] (fun u wr => ∃ i : Nat, u = .int .i64 i ∧ i ≤ a.length ∧ Aside0 (partsUpto kind a i = 0) ∧ Aside0 (Below w.heap.size w wr)) (fun u _ => a.length - (intOf u).toNat)
      case atStart => exact ⟨0, rfl, Nat.zero_le _, ⟨rfl⟩, ⟨Below.refl _ _⟩⟩
      case round =>
        clear hi hd hi0
        obtain ⟨j, rfl, hj0, HN, HB1⟩ := hrel
        by_cases hj : j < a.length
        · have hd : decide ((j : Int) < (a.length : Int)) = true := by simp; omega
          have hd' : ¬ a.length ≤ j := by omega
          obtain ⟨ad, A', c', rfl, k1, -, hrd⟩ := (HR.out.keep HB1.out).rg hj
          have HRr := Aside0.mk hrd
          have hl200 := HSH.out j hj
          have HS := Aside0.mk (fun e : pointsErr kind (rg a j) ≠ 0 => partsUpto_stay hj HN.out e)
          have HT := Aside0.mk (fun e : pointsErr kind (rg a j) = 0 => (by rw [partsUpto, if_pos HN.out]; exact e : partsUpto kind a (j + 1) = 0))
          generalize rg a j = r at *
          clear hrd
          go_wp2
          go_loopw [47] (fun u wr2 => ∃ q : Nat, u = .int .i64 q ∧ q ≤ r.length ∧ Aside0 (∀ p, p < q → okPt (pt r p) = true) ∧ Aside0 (Below wr.heap.size wr wr2)) (fun u _ => r.length - (intOf u).toNat)
          case atStart => exact ⟨0, rfl, Nat.zero_le _, ⟨fun p hp => absurd hp (by omega)⟩, ⟨Below.refl _ _⟩⟩
          case round =>
            obtain ⟨q, rfl, hq0, HO, HB2⟩ := hrel
            by_cases hq : q < r.length
            · have hdq : decide ((q : Int) < (r.length : Int)) = true := by simp; omega
              have hdq' : ¬ r.length ≤ q := by omega
              obtain ⟨ad', rfl, k5, k6⟩ := (HRr.out.keep HB2.out).pt hq
              have HF := Aside0.mk (fun e : okPt (pt r q) = false => any_of_pt hq e)
              have HG := Aside0.mk (fun e : okPt (pt r q) = true => (fun p (hp : p < q + 1) => if h : p < q then HO.out p h else (by rw [show p = q by omega]; exact e) : ∀ p, p < q + 1 → okPt (pt r p) = true))
              generalize pt r q = x at k5 k6 HF HG
              obtain ⟨ex, ey⟩ := x
              simp only at k5 k6
              cases hok : okPt ⟨ex, ey⟩
              · have hb := okPt_bad hok
                have HF2 := Aside0.mk (HF.out hok)
                have hq4 : decide (ex < -1048576) = true ∨ (decide (ex < -1048576) = false ∧ decide (1048576 < ex) = true) ∨ (decide (ex < -1048576) = false ∧ decide (1048576 < ex) = false ∧ decide (ey < -1048576) = true) ∨ (decide (ex < -1048576) = false ∧ decide (1048576 < ex) = false ∧ decide (ey < -1048576) = false ∧ decide (1048576 < ey) = true) := by
                  simp only [decide_eq_true_eq, decide_eq_false_iff_not]
                  omega
                clear hb hok HF HG
                rcases hq4 with h1 | ⟨h1, h2⟩ | ⟨h1, h2, h3⟩ | ⟨h1, h2, h3, h4⟩
                all_goals
                  go_wp2
                  go_ret
                  refine ⟨i64_ret ?_, below_alloc' (below_call HB1.out HB2.out) _⟩
                  have hpe : pointsErr kind r = 1 := by unfold pointsErr; rw [if_pos HF2.out]
                  rw [HD.out, HS.out (by rw [hpe]; decide), hpe]
                  rfl
              · have hb := okPt_good hok
                have HG2 := Aside0.mk (HG.out hok)
                have g1 : decide (ex < -1048576) = false := by simp; omega
                have g2 : decide (1048576 < ex) = false := by simp; omega
                have g3 : decide (ey < -1048576) = false := by simp; omega
                have g4 : decide (1048576 < ey) = false := by simp; omega
                clear hb hok HF HG
                go_wp2
                go_roundw
                case rel => exact ⟨q + 1, rfl, by omega, HG2, ⟨below_alloc' HB2.out _⟩⟩
                case measure => simp only [intOf]; omega
            · have hdq : decide ((q : Int) < (r.length : Int)) = false := by simp; omega
              have HA := Aside0.mk (any_of_all (l := r) (fun i hi => HO.out i (by omega)))
              have HB3 := Aside0.mk (below_call HB1.out HB2.out)
              have HPE := Aside0.mk (show pointsErr kind r = if kind = 1 then (if r.length = 1 then 0 else 3) else if kind = 2 then (if r.length < 2 then 3 else if dupUpto r r.length then 3 else 0) else 0 by unfold pointsErr; rw [if_neg (by rw [HA.out]; decide)])
              clear HA HO
              by_cases hk1 : kind = 1
              · subst hk1
                by_cases hlen : r.length = 1
                · have hpe2 : pointsErr 1 r = 0 := by rw [HPE.out, if_pos rfl, if_pos hlen]
                  have HT2 := Aside0.mk (HT.out hpe2)
                  have dl : ((r.length : Int) != 1) = false := by simp; omega
                  have hlt1 := HPE
                  clear hpe2 hlen
                  go_wp2
                  go_loopw [88] (fun u wr3 => ∃ q : Nat, u = .int .i64 q ∧ q ≤ r.length ∧ Aside0 (Below w.heap.size w wr3)) (fun u _ => r.length - (intOf u).toNat)
                  case atStart => exact ⟨0, rfl, Nat.zero_le _, HB3⟩
                  case round =>
                    obtain ⟨q2, rfl, hq20, HB4⟩ := hrel
                    by_cases hq2 : q2 < r.length
                    · have hdq2 : decide ((q2 : Int) < (r.length : Int)) = true := by simp; omega
                      go_wp2_with fail
                      refine wp_region_loc (by kernel_rfl) (by kernel_rfl) (by kernel_rfl) (fun xs => by simp only [fill, Act.put, List.setIfInBounds_toArray, List.set_cons_zero, List.set_cons_succ, Nat.reduceAdd]; rfl) ?_
                      iterate 21 (first | (apply wpLoc_det; · (intro vs2 W hb he; simp [edgeSat, Region.binds, Fact.at_] at he; unfold locRun; go_simp; first | exact loc_val)) | (apply wpLoc_det undef; · (intro vs2 W hb he; simp [edgeSat, Region.binds, Fact.at_] at he; go_simp; done)))
                      refine wpLoc_nil fun vs2 W hb he => ?_
                      simp only [List.nil_append, List.cons_append, factsAll, Fact.at_, Nat.reduceAdd] at he
                      obtain ⟨-, -, -, -, -, -, -, -, -, -, -, -, -, -, -, -, -, -, -, -, e20, -⟩ := he
                      rw [e20]
                      have HB5 := Aside0.mk (below_call HB4.out hb)
                      clear e20 hb
                      go_wp2
                      go_roundw
                      case rel => exact ⟨q2 + 1, rfl, by omega, HB5⟩
                      case measure => simp only [intOf]; omega
                    · have hdq2 : decide ((q2 : Int) < (r.length : Int)) = false := by simp; omega
                      go_wp2
                      go_roundw
                      case rel => exact ⟨j + 1, rfl, by omega, HT2, HB4⟩
                      case measure => simp only [intOf]; omega
                · have hpe2 : pointsErr 1 r = 3 := by rw [HPE.out, if_pos rfl, if_neg hlen]
                  have HS2 := Aside0.mk (HS.out (by rw [hpe2]; decide))
                  rw [hpe2] at HS2
                  have dl : ((r.length : Int) != 1) = true := by simp; omega
                  clear hpe2
                  go_wp2
                  go_ret
                  refine ⟨i64_ret ?_, HB3.out⟩
                  rw [HD.out, HS2.out]
                  rfl
              by_cases hk2 : kind = 2
              · subst hk2
                by_cases hlen : r.length < 2
                · have hpe2 : pointsErr 2 r = 3 := by rw [HPE.out, if_neg (by decide), if_pos rfl, if_pos hlen]
                  have HS2 := Aside0.mk (HS.out (by rw [hpe2]; decide))
                  rw [hpe2] at HS2
                  have dl : decide ((r.length : Int) < 2) = true := by simp; omega
                  clear hpe2
                  go_wp2
                  go_ret
                  refine ⟨i64_ret ?_, HB3.out⟩
                  rw [HD.out, HS2.out]
                  rfl
                · have dl : decide ((r.length : Int) < 2) = false := by simp; omega
                  go_wp2
                  have HRc := Aside0.mk (HRr.out.keep HB2.out)
                  go_loopw [88] (fun u wr3 => ∃ q : Nat, u = .int .i64 q ∧ q ≤ r.length ∧ Aside0 (∀ p, p < q → p + 1 < r.length → samePt (pt r p) (pt r (p + 1)) = false) ∧ Aside0 (Below wr.heap.size wr wr3)) (fun u _ => r.length - (intOf u).toNat)
                  case atStart => exact ⟨0, rfl, Nat.zero_le _, ⟨fun p hp => absurd hp (by omega)⟩, ⟨Below.refl _ _⟩⟩
                  case round =>
                    obtain ⟨q2, rfl, hq20, HO2, HB4⟩ := hrel
                    have HBB := Aside0.mk (below_call HB3.out HB4.out)
                    by_cases hq2 : q2 < r.length
                    · have hdq2 : decide ((q2 : Int) < (r.length : Int)) = true := by simp; omega
                      have n3 : IntKind.i64.wrap ((q2 : Int) + 1) = (q2 : Int) + 1 := by rw [IntKind.wrap_i64]; omega
                      by_cases hnx : q2 + 1 < r.length
                      · have hdn : decide ((q2 : Int) + 1 < (r.length : Int)) = true := by simp; omega
                        have n4 : (q2 : Int) + 1 < (r.length : Int) := by omega
                        have n5 : (q2 : Int) < (r.length : Int) := by omega
                        obtain ⟨ad', hA, -⟩ := (HRc.out.keep HB4.out).pt hq2
                        subst hA
                        have HRA := Aside0.mk (ptAt (HRc.out.keep HB4.out) hq2)
                        have HRB := Aside0.mk (ptAt (HRc.out.keep HB4.out) hnx)
                        have HF := Aside0.mk (fun e : samePt (pt r q2) (pt r (q2 + 1)) = true => dupUpto_true hnx e)
                        have HG := Aside0.mk (fun e : samePt (pt r q2) (pt r (q2 + 1)) = false => (fun p (hp : p < q2 + 1) (hp2 : p + 1 < r.length) => if h : p < q2 then HO2.out p h hp2 else (by rw [show p = q2 by omega]; exact e) : ∀ p, p < q2 + 1 → p + 1 < r.length → samePt (pt r p) (pt r (p + 1)) = false))
                        generalize pt r q2 = pa at HRA HRB HF HG
                        generalize pt r (q2 + 1) = pb at HRA HRB HF HG
                        obtain ⟨ax, ay⟩ := pa
                        obtain ⟨bx, b_y⟩ := pb
                        obtain ⟨f, hf⟩ : ∃ f, f = (ax == bx && ay == b_y) := ⟨_, rfl⟩
                        have HFF := Aside0.mk hf
                        simp only [samePt] at HRA HRB HF HG
                        rw [← hf] at HF HG
                        clear hf
                        go_wp2_with fail
                        refine wp_region_loc (by kernel_rfl) (by kernel_rfl) (by kernel_rfl) (fun xs => by simp only [fill, Act.put, List.setIfInBounds_toArray, List.set_cons_zero, List.set_cons_succ, Nat.reduceAdd]; rfl) ?_
                        iterate 19 (apply wpLoc_det; · (intro vs2 W hb he; obtain ⟨z1, z2⟩ := HRA.out W hb; obtain ⟨z3, z4⟩ := HRB.out W hb; simp [edgeSat, Region.binds, Fact.at_] at he; unfold locRun; go_simp; first | exact loc_val))
                        refine wpLoc_det (.bool f) (fun vs2 W hb he => ?_) ?_
                        · rw [HFF.out]
                          simp [edgeSat, Region.binds, Fact.at_] at he
                          unfold locRun
                          go_simp
                          exact loc_eq2 ax bx ay b_y
                        refine wpLoc_det (.bool f) (fun vs2 W hb he => ?_) ?_
                        · simp [edgeSat, Region.binds, Fact.at_] at he
                          unfold locRun
                          go_simp
                          exact loc_val
                        refine wpLoc_nil fun vs2 W hb he => ?_
                        simp only [List.nil_append, List.cons_append, factsAll, Fact.at_, Nat.reduceAdd] at he
                        obtain ⟨-, -, -, -, -, -, -, -, -, -, -, -, -, -, -, -, -, -, -, -, e20, -⟩ := he
                        rw [e20]
                        have HB5 := Aside0.mk (below_call HB4.out hb)
                        have HB6 := Aside0.mk (below_call HBB.out hb)
                        clear e20 hb HRA HRB HFF n3 n4 n5
                        cases f
                        · go_wp2
                          go_roundw
                          case rel => exact ⟨q2 + 1, rfl, by omega, ⟨HG.out (by first | rfl | trivial)⟩, HB5⟩
                          case measure => simp only [intOf]; omega
                        · go_wp2
                          go_ret
                          refine ⟨i64_ret ?_, HB6.out⟩
                          have hpe2 : pointsErr 2 r = 3 := by rw [HPE.out, if_neg (by decide), if_pos (by first | rfl | trivial), if_neg hlen, if_pos (HF.out (by first | rfl | trivial))]
                          rw [HD.out, HS.out (by rw [hpe2]; decide), hpe2]
                          rfl
                      · have hdn : decide ((q2 : Int) + 1 < (r.length : Int)) = false := by simp; omega
                        go_wp2_with fail
                        refine wp_region_loc (by kernel_rfl) (by kernel_rfl) (by kernel_rfl) (fun xs => by simp only [fill, Act.put, List.setIfInBounds_toArray, List.set_cons_zero, List.set_cons_succ, Nat.reduceAdd]; rfl) ?_
                        iterate 21 (first | (apply wpLoc_det; · (intro vs2 W hb he; simp [edgeSat, Region.binds, Fact.at_] at he; unfold locRun; go_simp; first | exact loc_val)) | (apply wpLoc_det undef; · (intro vs2 W hb he; simp [edgeSat, Region.binds, Fact.at_] at he; go_simp; done)))
                        refine wpLoc_nil fun vs2 W hb he => ?_
                        simp only [List.nil_append, List.cons_append, factsAll, Fact.at_, Nat.reduceAdd] at he
                        obtain ⟨-, -, -, -, -, -, -, -, -, -, -, -, -, -, -, -, -, -, -, -, e20, -⟩ := he
                        rw [e20]
                        have HB5 := Aside0.mk (below_call HB4.out hb)
                        clear e20 hb
                        go_wp2
                        go_roundw
                        case rel => exact ⟨q2 + 1, rfl, by omega, ⟨fun p hp hp2 => HO2.out p (by omega) hp2⟩, HB5⟩
                        case measure => simp only [intOf]; omega
                    · have hdq2 : decide ((q2 : Int) < (r.length : Int)) = false := by simp; omega
                      have hpe2 : pointsErr 2 r = 0 := by rw [HPE.out, if_neg (by decide), if_pos (by first | rfl | trivial), if_neg hlen, if_neg (by rw [dupUpto_false _ (fun p hp => HO2.out p (by omega) hp)]; decide)]
                      have HT2 := Aside0.mk (HT.out hpe2)
                      clear hpe2
                      go_wp2
                      go_roundw
                      case rel => exact ⟨j + 1, rfl, by omega, HT2, HBB⟩
                      case measure => simp only [intOf]; omega
              · have e1 : (kind == 1) = false := by simpa using hk1
                have e2 : (kind == 2) = false := by simpa using hk2
                have hpe2 : pointsErr kind r = 0 := by rw [HPE.out, if_neg hk1, if_neg hk2]
                have HT2 := Aside0.mk (HT.out hpe2)
                clear hpe2
                go_wp2
                go_loopw [88] (fun u wr3 => ∃ q : Nat, u = .int .i64 q ∧ q ≤ r.length ∧ Aside0 (Below w.heap.size w wr3)) (fun u _ => r.length - (intOf u).toNat)
                case atStart => exact ⟨0, rfl, Nat.zero_le _, HB3⟩
                case round =>
                  obtain ⟨q2, rfl, hq20, HB4⟩ := hrel
                  by_cases hq2 : q2 < r.length
                  · have hdq2 : decide ((q2 : Int) < (r.length : Int)) = true := by simp; omega
                    go_wp2_with fail
                    refine wp_region_loc (by kernel_rfl) (by kernel_rfl) (by kernel_rfl) (fun xs => by simp only [fill, Act.put, List.setIfInBounds_toArray, List.set_cons_zero, List.set_cons_succ, Nat.reduceAdd]; rfl) ?_
                    iterate 21 (first | (apply wpLoc_det; · (intro vs2 W hb he; simp [edgeSat, Region.binds, Fact.at_] at he; unfold locRun; go_simp; first | exact loc_val)) | (apply wpLoc_det undef; · (intro vs2 W hb he; simp [edgeSat, Region.binds, Fact.at_] at he; go_simp; done)))
                    refine wpLoc_nil fun vs2 W hb he => ?_
                    simp only [List.nil_append, List.cons_append, factsAll, Fact.at_, Nat.reduceAdd] at he
                    obtain ⟨-, -, -, -, -, -, -, -, -, -, -, -, -, -, -, -, -, -, -, -, e20, -⟩ := he
                    rw [e20]
                    have HB5 := Aside0.mk (below_call HB4.out hb)
                    clear e20 hb
                    go_wp2
                    go_roundw
                    case rel => exact ⟨q2 + 1, rfl, by omega, HB5⟩
                    case measure => simp only [intOf]; omega
                  · have hdq2 : decide ((q2 : Int) < (r.length : Int)) = false := by simp; omega
                    go_wp2
                    go_roundw
                    case rel => exact ⟨j + 1, rfl, by omega, HT2, HB4⟩
                    case measure => simp only [intOf]; omega
        · have hd : decide ((j : Int) < (a.length : Int)) = false := by simp; omega
          have hP : partsUpto kind a a.length = 0 := by rw [show a.length = j by omega]; exact HN.out
          rw [hP, if_pos rfl] at HD
          by_cases h7 : kind = 3
          · subst h7
            rw [if_pos rfl] at HD
            have HC := Aside0.mk (area_any a A c wr (HR.out.keep HB1.out) hc)
            generalize areaErr a = m at *
            go_wp2_with (go_at_call 50; (with_reducible refine HC.out.mono ?_); rintro e w2 ⟨rfl, hB⟩; have HB2 := Aside0.mk (below_call HB1.out hB); clear hB)
            go_ret
            exact ⟨i64_ret HD.out.symm, HB2.out⟩
          · rw [if_neg h7] at HD
            have e7 : (kind == 3) = false := by simpa using h7
            go_wp2
            go_ret
            exact ⟨i64_ret HD.out.symm, HB1.out⟩
end Go.Proofs.YtgabpbnndikheaaDoor
