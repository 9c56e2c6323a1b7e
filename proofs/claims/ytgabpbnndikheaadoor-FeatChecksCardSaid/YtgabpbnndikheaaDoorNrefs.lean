import Derived.Test.YtgabpbnndikheaaDoorNc
import Derived.Test.YtgabpbnndikheaaDoorNe
import Derived.Test.YtgabpbnndikheaaDoorNj
import Derived.Test.YtgabpbnndikheaaDoorNd
set_option linter.constructorNameAsVariable false
/-! The reference's features. -/
namespace Go.Proofs.YtgabpbnndikheaaDoor
open Go.RowKit Go.Proofs.YtgabpbnndikheaaDoorW.PrintWords

set_option maxHeartbeats 4000000 in
set_option maxRecDepth 100000 in
theorem rfeat_any (f : Fea) (A A' : Option Addr) (c c' : Nat) (w : World) (hp : RdA w A f.parts) (hc : f.parts.length ≤ c) (ha : RdT w A' f.attrs) :
    Calls Tryd.prog 19 #[.agg #[.int .i64 f.id, .int .i64 f.kind, .slice A f.parts.length c, .slice A' f.attrs.length c', .int .i64 f.fro, .int .i64 f.til]] w fun e w' => e = .returned (.int .i64 (featErr f)) ∧ Below w.heap.size w w' := by
  have P1 := Aside0.mk (fun W (hb : Below w.heap.size w W) => rparts_any f.kind f.parts A c W (hp.keep hb) hc)
  have P2 := Aside0.mk (fun W (hb : Below w.heap.size w W) => rattrs_any f.attrs false A' c' W (ha.keep hb))
  clear hp ha hc
  obtain ⟨R, hR⟩ : ∃ R, R = featErr f := ⟨_, rfl⟩
  rw [← hR]
  unfold featErr at hR
  obtain ⟨id, kind, parts, attrs, fro, til⟩ := f
  simp only at P1 P2 hR ⊢
  generalize partsErr kind parts = m1 at *
  generalize attrsErr attrs false = m2 at *
  generalize parts.length = np at *
  generalize attrs.length = na at *
  by_cases h1 : id < 1
  · rw [if_pos (.inl h1)] at hR
    have d1 : decide (id ≤ 0) = true := by simp; omega
    subst hR
    go_enter Tryd.func19, Tryd.ntmps19
    go_wp2
    go_ret
    exact ⟨rfl, below_alloc' (Below.refl _ _) _⟩
  have d1 : decide (id ≤ 0) = false := by simp; omega
  by_cases h2 : 1073741824 < id
  · rw [if_pos (.inr h2)] at hR
    have d2 : decide (1073741824 < id) = true := by simp; omega
    subst hR
    go_enter Tryd.func19, Tryd.ntmps19
    go_wp2
    go_ret
    exact ⟨rfl, below_alloc' (Below.refl _ _) _⟩
  have d2 : decide (1073741824 < id) = false := by simp; omega
  rw [if_neg (by omega)] at hR
  by_cases h3 : m1 = 0
  rotate_left
  · rw [if_pos h3] at hR
    have hmb : (m1 == 0) = false := by simpa using h3
    subst hR
    go_enter Tryd.func19, Tryd.ntmps19
    go_wp2_with (go_at_call 21; refine boxF_c fun w0 HB0 HX => ?_; (with_reducible refine (P1.out _ HB0.out).mono ?_); rintro e w2 ⟨rfl, hB⟩; have HB2 := Aside0.mk (below_call HB0.out hB); have HX2 := Aside0.mk (HX.out.keep hB); obtain ⟨k0, k1, k2, k3, k4, k5⟩ := HX2.out.cs; clear hB HB0 HX)
    go_ret
    exact ⟨rfl, HB2.out⟩
  rw [if_neg (by simpa using h3)] at hR
  subst h3
  by_cases h4 : m2 = 0
  rotate_left
  · rw [if_pos h4] at hR
    have hmb : (m2 == 0) = false := by simpa using h4
    subst hR
    go_enter Tryd.func19, Tryd.ntmps19
    go_wp2_with (first | (go_at_call 21; refine boxF_c fun w0 HB0 HX => ?_; (with_reducible refine (P1.out _ HB0.out).mono ?_); rintro e w2 ⟨rfl, hB⟩; have HB2 := Aside0.mk (below_call HB0.out hB); have HX2 := Aside0.mk (HX.out.keep hB); obtain ⟨k0, k1, k2, k3, k4, k5⟩ := HX2.out.cs; clear hB HB0 HX) | (go_at_call 23; (with_reducible refine (P2.out _ HB2.out).mono ?_); rintro e w3 ⟨rfl, hB⟩; have HB3 := Aside0.mk (below_call HB2.out hB); obtain ⟨j0, j1, j2, j3, j4, j5⟩ := (HX2.out.keep hB).cs; clear hB))
    go_ret
    exact ⟨rfl, HB3.out⟩
  rw [if_neg (by simpa using h4)] at hR
  subst h4
  by_cases h5 : fro < 0
  · rw [if_pos (.inl h5)] at hR
    have d5 : decide (fro < 0) = true := by simp; omega
    subst hR
    go_enter Tryd.func19, Tryd.ntmps19
    go_wp2_with (first | (go_at_call 21; refine boxF_c fun w0 HB0 HX => ?_; (with_reducible refine (P1.out _ HB0.out).mono ?_); rintro e w2 ⟨rfl, hB⟩; have HB2 := Aside0.mk (below_call HB0.out hB); have HX2 := Aside0.mk (HX.out.keep hB); obtain ⟨k0, k1, k2, k3, k4, k5⟩ := HX2.out.cs; clear hB HB0 HX) | (go_at_call 23; (with_reducible refine (P2.out _ HB2.out).mono ?_); rintro e w3 ⟨rfl, hB⟩; have HB3 := Aside0.mk (below_call HB2.out hB); obtain ⟨j0, j1, j2, j3, j4, j5⟩ := (HX2.out.keep hB).cs; clear hB))
    go_ret
    exact ⟨rfl, HB3.out⟩
  have d5 : decide (fro < 0) = false := by simp; omega
  by_cases h7 : til ≤ fro
  · rw [if_pos (.inr (.inr h7))] at hR
    have d7 : decide (til ≤ fro) = true := by simp; omega
    subst hR
    go_enter Tryd.func19, Tryd.ntmps19
    go_wp2_with (first | (go_at_call 21; refine boxF_c fun w0 HB0 HX => ?_; (with_reducible refine (P1.out _ HB0.out).mono ?_); rintro e w2 ⟨rfl, hB⟩; have HB2 := Aside0.mk (below_call HB0.out hB); have HX2 := Aside0.mk (HX.out.keep hB); obtain ⟨k0, k1, k2, k3, k4, k5⟩ := HX2.out.cs; clear hB HB0 HX) | (go_at_call 23; (with_reducible refine (P2.out _ HB2.out).mono ?_); rintro e w3 ⟨rfl, hB⟩; have HB3 := Aside0.mk (below_call HB2.out hB); obtain ⟨j0, j1, j2, j3, j4, j5⟩ := (HX2.out.keep hB).cs; clear hB))
    go_ret
    exact ⟨rfl, HB3.out⟩
  have d7 : decide (til ≤ fro) = false := by simp; omega
  by_cases h6 : 1073741824 < til
  · rw [if_pos (.inr (.inl h6))] at hR
    have d6 : decide (1073741824 < til) = true := by simp; omega
    subst hR
    go_enter Tryd.func19, Tryd.ntmps19
    go_wp2_with (first | (go_at_call 21; refine boxF_c fun w0 HB0 HX => ?_; (with_reducible refine (P1.out _ HB0.out).mono ?_); rintro e w2 ⟨rfl, hB⟩; have HB2 := Aside0.mk (below_call HB0.out hB); have HX2 := Aside0.mk (HX.out.keep hB); obtain ⟨k0, k1, k2, k3, k4, k5⟩ := HX2.out.cs; clear hB HB0 HX) | (go_at_call 23; (with_reducible refine (P2.out _ HB2.out).mono ?_); rintro e w3 ⟨rfl, hB⟩; have HB3 := Aside0.mk (below_call HB2.out hB); obtain ⟨j0, j1, j2, j3, j4, j5⟩ := (HX2.out.keep hB).cs; clear hB))
    go_ret
    exact ⟨rfl, HB3.out⟩
  have d6 : decide (1073741824 < til) = false := by simp; omega
  rw [if_neg (by omega)] at hR
  subst hR
  go_enter Tryd.func19, Tryd.ntmps19
  go_wp2_with (first | (go_at_call 21; refine boxF_c fun w0 HB0 HX => ?_; (with_reducible refine (P1.out _ HB0.out).mono ?_); rintro e w2 ⟨rfl, hB⟩; have HB2 := Aside0.mk (below_call HB0.out hB); have HX2 := Aside0.mk (HX.out.keep hB); obtain ⟨k0, k1, k2, k3, k4, k5⟩ := HX2.out.cs; clear hB HB0 HX) | (go_at_call 23; (with_reducible refine (P2.out _ HB2.out).mono ?_); rintro e w3 ⟨rfl, hB⟩; have HB3 := Aside0.mk (below_call HB2.out hB); obtain ⟨j0, j1, j2, j3, j4, j5⟩ := (HX2.out.keep hB).cs; clear hB))
  go_ret
  exact ⟨rfl, HB3.out⟩
end Go.Proofs.YtgabpbnndikheaaDoor

set_option linter.constructorNameAsVariable false
/-! The reference's surveys. -/
namespace Go.Proofs.YtgabpbnndikheaaDoor
open Go.RowKit Go.Proofs.YtgabpbnndikheaaDoorW.PrintWords

def lastId (l : List Fea) (i : Nat) : Int := if i = 0 then 0 else (fea l (i - 1)).id
theorem featErr_id {f : Fea} (h : featErr f = 0) : 1 ≤ f.id := by
  unfold featErr at h
  by_cases h1 : f.id < 1 ∨ 1073741824 < f.id
  · rw [if_pos h1] at h; cases h
  · omega
theorem lastId_law {l : List Fea} {i : Nat} {id : Int} (h : 1 ≤ id) : (0 < i ∧ id ≤ (fea l (i - 1)).id) ↔ id ≤ lastId l i := by
  unfold lastId
  by_cases hi : i = 0
  · subst hi
    rw [if_pos rfl]
    omega
  · rw [if_neg hi]
    omega
set_option maxHeartbeats 4000000 in
set_option maxRecDepth 100000 in
theorem rall_any (l : List Fea) (A : Option Addr) (c : Nat) (w : World) (h : RdS w A l) :
    Calls Tryd.prog 17 #[.slice A l.length c] w fun e w' => e = .returned (.int .i64 (surveyErr l)) ∧ Below w.heap.size w w' := by
  obtain ⟨R, hR⟩ : ∃ R, R = surveyErr l := ⟨_, rfl⟩
  rw [← hR]
  unfold surveyErr at hR
  have HR := Aside0.mk h
  have hbig := h.2.1
  clear h
  by_cases h8 : 200 < l.length
  · rw [if_pos h8] at hR
    have d1 : decide ((200 : Int) < (l.length : Int)) = true := by simp; omega
    subst hR
    go_enter Tryd.func17, Tryd.ntmps17
    go_wp2
    go_ret
    exact ⟨rfl, Below.refl _ _⟩
  rw [if_neg h8] at hR
  have d1 : decide ((200 : Int) < (l.length : Int)) = false := by simp; omega
  have HD := Aside0.mk hR
  clear hR
  go_enter Tryd.func17, Tryd.ntmps17
  go_wp2
  go_loopw [12, 3] (fun u v wr => ∃ i : Nat, u = .int .i64 i ∧ v = .int .i64 (lastId l i) ∧ i ≤ l.length ∧ Aside0 (allUpto l i = 0) ∧ Aside0 (Below w.heap.size w wr)) (fun u _ _ => l.length - (intOf u).toNat)
  case atStart => exact ⟨0, rfl, rfl, Nat.zero_le _, ⟨rfl⟩, ⟨Below.refl _ _⟩⟩
  case round =>
    obtain ⟨i, rfl, rfl, hi0, HN, HB1⟩ := hrel
    by_cases hi : i < l.length
    · have hd : decide ((i : Int) < (l.length : Int)) = true := by simp; omega
      have hd' : ¬ l.length ≤ i := by omega
      have HS := Aside0.mk (fun e : feaErr l i ≠ 0 => allUpto_stay hi HN.out e)
      have HT := Aside0.mk (fun e : feaErr l i = 0 => (by rw [allUpto, if_pos HN.out]; exact e : allUpto l (i + 1) = 0))
      obtain ⟨E, hE⟩ : ∃ E, E = feaErr l i := ⟨_, rfl⟩
      rw [← hE] at HS HT
      unfold feaErr at hE
      have HLL := Aside0.mk (fun e : featErr (fea l i) = 0 => lastId_law (l := l) (i := i) (featErr_id e))
      have HLN := Aside0.mk (show lastId l (i + 1) = (fea l i).id by unfold lastId; rw [if_neg (by omega), Nat.add_sub_cancel])
      have HE := Aside0.mk hE
      clear hE
      obtain ⟨ad, A1, c1, A2, c2, rfl, k0, k1, k2, k3, k4, k5, hpc, hac, hrp, hrt⟩ := (HR.out.keep HB1.out).fea hi
      have HC := Aside0.mk (fun W (hb : Below wr.heap.size wr W) => rfeat_any (fea l i) A1 A2 c1 c2 W (hrp.keep hb) hpc (hrt.keep hb))
      clear hrp hrt hpc hac
      generalize fea l i = f at *
      generalize lastId l i = lk at *
      generalize featErr f = m at *
      obtain ⟨id, kind, parts, attrs, fro, til⟩ := f
      simp only at k0 k1 k2 k3 k4 k5 HC HE HLL HLN
      generalize parts.length = np at *
      generalize attrs.length = na at *
      by_cases hm : m = 0
      rotate_left
      · have hmb : (m == 0) = false := by simpa using hm
        have hmb2 : (m != 0) = true := by simpa using hm
        rw [if_pos hm] at HE
        go_wp2_with (go_at_call 19; refine boxF_c fun w2 HB2 HX => ?_; (with_reducible refine (HC.out _ HB2.out).mono ?_); rintro e w3 ⟨rfl, hB⟩; have HB3 := Aside0.mk (below_call (below_call HB1.out HB2.out) hB); clear HB2 hB)
        go_ret
        refine ⟨i64_ret ?_, HB3.out⟩
        rw [HD.out, HS.out (by rw [HE.out]; exact hm), HE.out]
      · subst hm
        rw [if_neg (by simp)] at HE
        have hll := HLL.out (by first | rfl | trivial)
        by_cases hf : id ≤ lk
        · have hfd : decide (id ≤ lk) = true := by simp; omega
          rw [if_pos (hll.2 hf)] at HE
          clear hll HLL
          go_wp2_with (go_at_call 19; refine boxF_c fun w2 HB2 HX => ?_; (with_reducible refine (HC.out _ HB2.out).mono ?_); rintro e w3 ⟨rfl, hB⟩; have HB3 := Aside0.mk (below_call (below_call HB1.out HB2.out) hB); obtain ⟨q0, q1, q2, q3, q4, q5⟩ := (HX.out.keep hB).cs; clear HB2 hB HX)
          go_ret
          refine ⟨i64_ret ?_, HB3.out⟩
          rw [HD.out, HS.out (by rw [HE.out]; decide), HE.out]
        · have hfd : decide (id ≤ lk) = false := by simp; omega
          rw [if_neg (fun h => hf (hll.1 h))] at HE
          clear hll HLL
          go_wp2_with (go_at_call 19; refine boxF_c fun w2 HB2 HX => ?_; (with_reducible refine (HC.out _ HB2.out).mono ?_); rintro e w3 ⟨rfl, hB⟩; have HB3 := Aside0.mk (below_call (below_call HB1.out HB2.out) hB); obtain ⟨q0, q1, q2, q3, q4, q5⟩ := (HX.out.keep hB).cs; clear HB2 hB HX)
          go_roundw
          case rel => exact ⟨i + 1, rfl, by rw [HLN.out], by omega, ⟨HT.out HE.out⟩, HB3⟩
          case measure => simp only [intOf]; omega
    · have hd : decide ((i : Int) < (l.length : Int)) = false := by simp; omega
      go_wp2
      go_ret
      refine ⟨i64_ret ?_, HB1.out⟩
      rw [HD.out, show l.length = i by omega, HN.out]
end Go.Proofs.YtgabpbnndikheaaDoor

