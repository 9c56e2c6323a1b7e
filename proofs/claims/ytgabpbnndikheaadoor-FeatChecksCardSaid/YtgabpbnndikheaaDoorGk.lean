import Derived.Test.YtgabpbnndikheaaDoorGj
set_option linter.constructorNameAsVariable false
/-! Rings. -/
namespace Go.Proofs.YtgabpbnndikheaaDoor
open Go.RowKit Go.Proofs.YtgabpbnndikheaaDoorW.PrintWords

/-- No two edges up to the i-th meet where they must not. -/
def apartUpto (r : List Pt) (i : Nat) : Bool := (List.range i).all fun j => (List.range j).all fun k => apart r k j
def ringErr (r : List Pt) : Int := if 200 < r.length then 2 else if r.length < 3 then 3 else if r.any (fun p => !okPt p) then 1 else if apartUpto r r.length then 0 else 10
theorem apartUpto_no {r : List Pt} {i k n : Nat} (hi : i < n) (hk : k < i) (h : apart r k i = false) : apartUpto r n = false := by
  unfold apartUpto
  rw [Bool.eq_false_iff]
  intro e
  rw [List.all_eq_true] at e
  have := List.all_eq_true.1 (e i (List.mem_range.2 hi)) k (List.mem_range.2 hk)
  rw [h] at this
  cases this
theorem apartUpto_succ {r : List Pt} {i : Nat} (h : apartUpto r i = true) (h2 : ∀ k, k < i → apart r k i = true) : apartUpto r (i + 1) = true := by
  unfold apartUpto at *
  rw [List.range_succ, List.all_append, h, Bool.true_and]
  simp only [List.all_cons, List.all_nil, Bool.and_true]
  exact List.all_eq_true.2 fun k hk => h2 k (List.mem_range.1 hk)
set_option maxRecDepth 100000 in
theorem notOk_any (p : Pt) (w : World) :
    Calls Tryd.prog 111 #[p.v] w fun e w' => e = .returned (.bool (!okPt p)) ∧ Below w.heap.size w w' := by
  have c1 := fun W => ok_any p W
  generalize okPt p = b at *
  obtain ⟨x, y⟩ := p
  simp only [Pt.v] at *
  have C1 := Aside0.mk c1
  clear c1
  go_enter Tryd.func111, Tryd.ntmps111
  go_wp2_with (go_at_call 87; refine (C1.out _).mono ?_; rintro e w1 ⟨rfl, hB⟩; have HB := Aside0.mk (below_call (below_alloc' (Below.refl _ _) _) hB); clear hB)
  go_ret
  exact ⟨rfl, HB.out⟩
set_option maxHeartbeats 2000000 in
set_option maxRecDepth 100000 in
theorem ring_any (r : List Pt) (A : Option Addr) (c : Nat) (w : World) (h : RdP w A r) :
    Calls Tryd.prog 88 #[.slice A r.length c] w fun e w' => e = .returned (.int .i64 (ringErr r)) ∧ Below w.heap.size w w' := by
  obtain ⟨R, hR⟩ : ∃ R, R = ringErr r := ⟨_, rfl⟩
  rw [← hR]
  unfold ringErr at hR
  have HR := Aside0.mk h
  by_cases h1 : 200 < r.length
  · rw [if_pos h1] at hR
    have d1 : decide ((200 : Int) < (r.length : Int)) = true := by simp; omega
    subst hR
    go_enter Tryd.func88, Tryd.ntmps88
    go_wp2
    go_ret
    exact ⟨rfl, Below.refl _ _⟩
  rw [if_neg h1] at hR
  have d1 : decide ((200 : Int) < (r.length : Int)) = false := by simp; omega
  by_cases h2 : r.length < 3
  · rw [if_pos h2] at hR
    have d2 : decide ((r.length : Int) < 3) = true := by simp; omega
    subst hR
    go_enter Tryd.func88, Tryd.ntmps88
    go_wp2
    go_ret
    exact ⟨rfl, Below.refl _ _⟩
  rw [if_neg h2] at hR
  have d2 : decide ((r.length : Int) < 3) = false := by simp; omega
  have c1 := fun W (hb : Below w.heap.size w W) => hasP_any (fun p => !okPt p) 111 r A c W (h.keep hb) (by omega) (fun _ _ => by go_simp) (fun p _ W' _ => notOk_any p W')
  generalize r.any (fun p => !okPt p) = b at *
  have C1 := Aside0.mk c1
  clear c1 h
  cases b
  · rw [if_neg (by simp)] at hR
    have HD := Aside0.mk hR
    clear hR
    go_enter Tryd.func88, Tryd.ntmps88
    go_wp2_with (go_at_call 85; refine (C1.out _ (Below.refl _ _)).mono ?_; rintro e w1 ⟨rfl, hB⟩; have HB := Aside0.mk hB; clear hB)
    go_loopw [18] (fun u wr => ∃ i : Nat, u = .int .i64 i ∧ i ≤ r.length ∧ Aside0 (apartUpto r i = true) ∧ Aside0 (Below w.heap.size w wr)) (fun u _ => r.length - (intOf u).toNat)
    case atStart => exact ⟨0, rfl, Nat.zero_le _, ⟨rfl⟩, HB⟩
    case round =>
      obtain ⟨i, rfl, hi0, HN, HB1⟩ := hrel
      by_cases hi : i < r.length
      · have hd : decide ((i : Int) < (r.length : Int)) = true := by simp; omega
        go_wp2
        go_loopw [22] (fun u wr => ∃ k : Nat, u = .int .i64 k ∧ k ≤ i ∧ Aside0 (∀ q, q < k → apart r q i = true) ∧ Aside0 (Below w.heap.size w wr)) (fun u _ => i - (intOf u).toNat)
        case atStart => exact ⟨0, rfl, Nat.zero_le _, ⟨fun q hq => absurd hq (by omega)⟩, HB1⟩
        case round =>
          obtain ⟨k, rfl, hk0, HK, HB2⟩ := hrel
          by_cases hk : k < i
          · have hd2 : decide ((k : Int) < (i : Int)) = true := by simp; omega
            have HA := Aside0.mk (fun W hb => apart_any r A c k i W (HR.out.keep hb) (by omega) (by omega) hi)
            have HF := Aside0.mk (fun e : apart r k i = false => apartUpto_no hi hk e)
            have HT := Aside0.mk (fun e : apart r k i = true => (fun q (hq : q < k + 1) => if hqk : q < k then HK.out q hqk else (by rw [show q = k by omega]; exact e) : ∀ q, q < k + 1 → apart r q i = true))
            generalize apart r k i = b at HA HF HT
            cases b
            · go_wp2_with (go_at_call 112; refine (HA.out _ HB2.out).mono ?_; rintro e w3 ⟨rfl, hB⟩; have HB3 := Aside0.mk (below_call HB2.out hB); clear hB)
              go_ret
              refine ⟨i64_ret ?_, HB3.out⟩
              rw [HD.out, HF.out trivial]
              rfl
            · go_wp2_with (go_at_call 112; refine (HA.out _ HB2.out).mono ?_; rintro e w3 ⟨rfl, hB⟩; have HB3 := Aside0.mk (below_call HB2.out hB); clear hB)
              go_roundw
              case rel => exact ⟨k + 1, rfl, by omega, ⟨HT.out trivial⟩, HB3⟩
              case measure => simp only [intOf]; omega
          · have hd2 : decide ((k : Int) < (i : Int)) = false := by simp; omega
            go_wp2
            go_roundw
            case rel => exact ⟨i + 1, rfl, by omega, ⟨apartUpto_succ HN.out (fun q hq => HK.out q (by omega))⟩, HB2⟩
            case measure => simp only [intOf]; omega
      · have hd : decide ((i : Int) < (r.length : Int)) = false := by simp; omega
        go_wp2
        go_ret
        refine ⟨i64_ret ?_, HB1.out⟩
        rw [HD.out, if_pos]
        rw [show r.length = i by omega]
        exact HN.out
  · rw [if_pos rfl] at hR
    subst hR
    go_enter Tryd.func88, Tryd.ntmps88
    go_wp2_with (go_at_call 85; refine (C1.out _ (Below.refl _ _)).mono ?_; rintro e w1 ⟨rfl, hB⟩; have HB := Aside0.mk hB; clear hB)
    go_ret
    exact ⟨rfl, HB.out⟩
end Go.Proofs.YtgabpbnndikheaaDoor
