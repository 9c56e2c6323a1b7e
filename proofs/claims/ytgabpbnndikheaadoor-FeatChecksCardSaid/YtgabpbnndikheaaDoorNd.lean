import Derived.Test.YtgabpbnndikheaaDoorNc
set_option linter.constructorNameAsVariable false
/-! Surveys. -/
namespace Go.Proofs.YtgabpbnndikheaaDoor
open Go.RowKit Go.Proofs.YtgabpbnndikheaaDoorW.PrintWords

def feaErr (l : List Fea) (i : Nat) : Int := if featErr (fea l i) ≠ 0 then featErr (fea l i) else if 0 < i ∧ (fea l i).id ≤ (fea l (i - 1)).id then 9 else 0
def allUpto (l : List Fea) : Nat → Int
  | 0 => 0
  | n + 1 => if allUpto l n = 0 then feaErr l n else allUpto l n
theorem allUpto_stay {l : List Fea} {i n : Nat} (hi : i < n) (h : allUpto l i = 0) (h2 : feaErr l i ≠ 0) : allUpto l n = feaErr l i := by
  induction n with
  | zero => omega
  | succ n ih =>
    by_cases hin : i = n
    · subst hin
      rw [allUpto, if_pos h]
    · have := ih (by omega)
      rw [allUpto, if_neg (by rw [this]; exact h2), this]
def surveyErr (l : List Fea) : Int := if 200 < l.length then 2 else allUpto l l.length
set_option maxHeartbeats 4000000 in
set_option maxRecDepth 100000 in
theorem all_any (l : List Fea) (A : Option Addr) (c : Nat) (w : World) (h : RdS w A l) :
    Calls Tryd.prog 16 #[.slice A l.length c] w fun e w' => e = .returned (.int .i64 (surveyErr l)) ∧ Below w.heap.size w w' := by
  obtain ⟨R, hR⟩ : ∃ R, R = surveyErr l := ⟨_, rfl⟩
  rw [← hR]
  unfold surveyErr at hR
  have HR := Aside0.mk h
  have hbig := h.2.1
  clear h
  by_cases h8 : 200 < l.length
  · rw [if_pos h8] at hR
    have d1 : decide ((200 : Int) < (l.length : Int)) = true := by simp; omega
    subst hR
    go_enter Tryd.func16, Tryd.ntmps16
    go_wp2
    go_ret
    exact ⟨rfl, Below.refl _ _⟩
  rw [if_neg h8] at hR
  have d1 : decide ((200 : Int) < (l.length : Int)) = false := by simp; omega
  have HD := Aside0.mk hR
  clear hR
  go_enter Tryd.func16, Tryd.ntmps16
  go_wp2
  go_loopw [11] (fun u wr => ∃ i : Nat, u = .int .i64 i ∧ i ≤ l.length ∧ Aside0 (allUpto l i = 0) ∧ Aside0 (Below w.heap.size w wr)) (fun u _ => l.length - (intOf u).toNat)
  case atStart => exact ⟨0, rfl, Nat.zero_le _, ⟨rfl⟩, ⟨Below.refl _ _⟩⟩
  case round =>
    obtain ⟨i, rfl, hi0, HN, HB1⟩ := hrel
    by_cases hi : i < l.length
    · have hd : decide ((i : Int) < (l.length : Int)) = true := by simp; omega
      have hd' : ¬ l.length ≤ i := by omega
      have HS := Aside0.mk (fun e : feaErr l i ≠ 0 => allUpto_stay hi HN.out e)
      have HT := Aside0.mk (fun e : feaErr l i = 0 => (by rw [allUpto, if_pos HN.out]; exact e : allUpto l (i + 1) = 0))
      obtain ⟨E, hE⟩ : ∃ E, E = feaErr l i := ⟨_, rfl⟩
      rw [← hE] at HS HT
      unfold feaErr at hE
      obtain ⟨i', hii⟩ : ∃ i', i' = i - 1 := ⟨_, rfl⟩
      rw [← hii] at hE
      have HE := Aside0.mk hE
      clear hE
      obtain ⟨ad, A1, c1, A2, c2, rfl, k0, k1, k2, k3, k4, k5, hpc, hac, hrp, hrt⟩ := (HR.out.keep HB1.out).fea hi
      have HC := Aside0.mk (fun W (hb : Below wr.heap.size wr W) => fcheck_any (fea l i) A1 A2 c1 c2 W (hrp.keep hb) hpc (hrt.keep hb))
      clear hrp hrt hpc hac
      generalize fea l i = f at *
      generalize hpk : (fea l i').id = pk at *
      have hR' := HR.out.keep HB1.out
      have HRA : Aside0 (i' < l.length → ∀ W, Below wr.heap.size wr W → W.cell? (ad.add (i' * 6)) = some (.int .i64 pk)) := ⟨fun hi' W hW => by
        obtain ⟨_, _, _, _, _, e0, q0, -⟩ := (hR'.keep hW).fea hi'
        injection e0 with e0
        subst e0
        rw [hpk] at q0
        exact q0⟩
      clear hpk hR'
      generalize featErr f = m at *
      obtain ⟨id, kind, parts, attrs, fro, til⟩ := f
      simp only at k0 k1 k2 k3 k4 k5 HC HE
      generalize parts.length = np at *
      generalize attrs.length = na at *
      by_cases hm : m = 0
      rotate_left
      · have hmb : (m == 0) = false := by simpa using hm
        have hmb2 : (m != 0) = true := by simpa using hm
        rw [if_pos hm] at HE
        go_wp2_with (go_at_call 18; refine boxF_c fun w2 HB2 HX => ?_; (with_reducible refine (HC.out _ HB2.out).mono ?_); rintro e w3 ⟨rfl, hB⟩; have HB3 := Aside0.mk (below_call (below_call HB1.out HB2.out) hB); clear HB2 hB)
        go_ret
        refine ⟨i64_ret ?_, HB3.out⟩
        rw [HD.out, HS.out (by rw [HE.out]; exact hm), HE.out]
      · subst hm
        rw [if_neg (by simp)] at HE
        go_wp2_with (go_at_call 18; refine boxF_c fun w2 HB2 HX => ?_; (with_reducible refine (HC.out _ HB2.out).mono ?_); rintro e w3 ⟨rfl, hB⟩; have HBw := Aside0.mk (below_call HB2.out hB); have HB3 := Aside0.mk (below_call HB1.out HBw.out); have HX3 := Aside0.mk (HX.out.keep hB); clear HB2 hB HX)
        clear HC k0 k1 k2 k3 k4 k5
        by_cases hz : 0 < i
        · have hi' : i' < l.length := by omega
          have n3 : IntKind.i64.wrap ((i : Int) - 1) = (i' : Int) := by rw [IntKind.wrap_i64]; omega
          have n2 : (i' : Int) < (l.length : Int) := by omega
          have HRB := Aside0.mk (HRA.out hi')
          clear hii HRA
          refine wp_region_loc (by kernel_rfl) (by kernel_rfl) (by kernel_rfl) (fun xs => by simp only [fill, Act.put, List.setIfInBounds_toArray, List.set_cons_zero, List.set_cons_succ, Nat.reduceAdd]; rfl) ?_
          iterate 13 (apply wpLoc_det; · (intro vs2 W hb he; obtain ⟨q1, -, -, -, -, -⟩ := (HX3.out.keep hb).cs; have q2 := HRB.out W (HBw.out.trans (hb.mono HBw.out.size)); simp [edgeSat, Region.binds, Fact.at_] at he; unfold locRun; go_simp; first | exact loc_val))
          refine wpLoc_nil fun vs2 W hb he => ?_
          simp only [List.nil_append, List.cons_append, factsAll, Fact.at_, Nat.reduceAdd] at he
          obtain ⟨-, -, -, -, -, -, -, -, -, -, -, -, e12, -⟩ := he
          rw [e12]
          have HB4 := Aside0.mk (below_call HB3.out hb)
          clear e12 hb HRB HX3 HB3 n2 n3
          by_cases hf : id ≤ pk
          · have hfd : decide (id ≤ pk) = true := by simp; omega
            rw [if_pos ⟨hz, hf⟩] at HE
            go_wp2
            go_ret
            refine ⟨i64_ret ?_, HB4.out⟩
            rw [HD.out, HS.out (by rw [HE.out]; decide), HE.out]
          · have hfd : decide (id ≤ pk) = false := by simp; omega
            rw [if_neg (fun h => hf h.2)] at HE
            go_wp2
            go_roundw
            case rel => exact ⟨i + 1, rfl, by omega, ⟨HT.out HE.out⟩, HB4⟩
            case measure => simp only [intOf]; omega
        · have hi0' : i = 0 := by omega
          clear HRA hii
          refine wp_region_loc (by kernel_rfl) (by kernel_rfl) (by kernel_rfl) (fun xs => by simp only [fill, Act.put, List.setIfInBounds_toArray, List.set_cons_zero, List.set_cons_succ, Nat.reduceAdd]; rfl) ?_
          iterate 13 (first | (apply wpLoc_det; · (intro vs2 W hb he; obtain ⟨q1, -, -, -, -, -⟩ := (HX3.out.keep hb).cs; simp [edgeSat, Region.binds, Fact.at_] at he; unfold locRun; go_simp; first | exact loc_val)) | (apply wpLoc_det undef; · (intro vs2 W hb he; simp [edgeSat, Region.binds, Fact.at_] at he; go_simp; done)))
          refine wpLoc_nil fun vs2 W hb he => ?_
          simp only [List.nil_append, List.cons_append, factsAll, Fact.at_, Nat.reduceAdd] at he
          obtain ⟨-, -, -, -, -, -, -, -, -, -, -, -, e12, -⟩ := he
          rw [e12]
          have HB4 := Aside0.mk (below_call HB3.out hb)
          rw [if_neg (fun h => hz h.1)] at HE
          clear e12 hb HX3 HB3 hi0'
          go_wp2
          go_roundw
          case rel => exact ⟨i + 1, rfl, by omega, ⟨HT.out HE.out⟩, HB4⟩
          case measure => simp only [intOf]; omega
    · have hd : decide ((i : Int) < (l.length : Int)) = false := by simp; omega
      go_wp2
      go_ret
      refine ⟨i64_ret ?_, HB1.out⟩
      rw [HD.out, show l.length = i by omega, HN.out]
end Go.Proofs.YtgabpbnndikheaaDoor
