import Derived.Test.YtgabpbnndikheaaDoorVp
set_option linter.constructorNameAsVariable false
/-! The reference's ValueOf: it reads as 'readVal' says. -/
namespace Go.Proofs.YtgabpbnndikheaaDoor
open Go.RowKit Go.Proofs.YtgabpbnndikheaaDoorW.PrintWords

theorem St.start' {w w1 : World} (y : Val) (h : Below ((w.alloc (.cells #[.int .i64 0, .int .i64 0, .string ⟨#[]⟩, .bool false] 23)).alloc (.cells #[.int .i64 y.kind, .int .i64 y.n, .string y.s, .bool y.b] 23)).heap.size ((w.alloc (.cells #[.int .i64 0, .int .i64 0, .string ⟨#[]⟩, .bool false] 23)).alloc (.cells #[.int .i64 y.kind, .int .i64 y.n, .string y.s, .bool y.b] 23)) w1) :
    St w w1 vNil y := by
  have h0 : Below w.heap.size w ((w.alloc (.cells #[.int .i64 0, .int .i64 0, .string ⟨#[]⟩, .bool false] 23)).alloc (.cells #[.int .i64 y.kind, .int .i64 y.n, .string y.s, .bool y.b] 23)) := below_alloc' (below_alloc' (Below.refl _ _) _) _
  refine ⟨h0.trans (h.mono h0.size), ?_, ?_⟩
  · exact Boxed.keep (Boxed.keep (heap_alloc_new w _) (below_alloc' (Below.refl _ _) _)) h
  · have := heap_alloc_new (w.alloc (.cells #[.int .i64 0, .int .i64 0, .string ⟨#[]⟩, .bool false] 23)) (.cells #[.int .i64 y.kind, .int .i64 y.n, .string y.s, .bool y.b] 23)
    rw [World.size_alloc] at this
    exact Boxed.keep (x := y) this h
theorem prefix_q (l : List UInt8) : Lib.hasPrefix l [34] = decide (l.head? = some 34) := by
  unfold Lib.hasPrefix
  cases l with
  | nil => rfl
  | cons a r => simp [List.isPrefixOf, eq_comm, Bool.beq_eq_decide_eq]
theorem suffix_q (l : List UInt8) : Lib.hasSuffix l [34] = decide (l.getLast? = some 34) := by
  unfold Lib.hasSuffix List.isSuffixOf
  have := prefix_q l.reverse
  unfold Lib.hasPrefix at this
  rw [List.reverse_singleton, this, List.head?_reverse]
theorem pre_any (s : ByteArray) (w : World) : Calls Tryd.prog 51 #[.string s, .string ⟨#[34]⟩] w fun e w' => e = .returned (.bool (decide (s.data.toList.head? = some 34))) ∧ w = w' :=
  (Tryd.strings_HasPrefix s ⟨#[34]⟩ w).mono fun _ _ ⟨he, hw⟩ => ⟨by rw [he, ← prefix_q], hw.symm⟩
theorem suf_any (s : ByteArray) (w : World) (hs : s.size ≤ 9223372036854775807) : Calls Tryd.prog 52 #[.string s, .string ⟨#[34]⟩] w fun e w' => e = .returned (.bool (decide (s.data.toList.getLast? = some 34))) ∧ w = w' :=
  (Tryd.strings_HasSuffix s ⟨#[34]⟩ w hs).mono fun _ _ ⟨he, hw⟩ => ⟨by rw [he, ← suffix_q], hw.symm⟩

set_option maxHeartbeats 8000000 in
set_option maxRecDepth 100000 in
theorem valueOf_any (s : ByteArray) (w : World) (hE : Env w) (hm : s.size ≤ 140737488355232) :
    Calls Tryd.prog 28 #[.string s] w fun e w' => e = .returned (.tuple #[(readVal s).1.v, .int .i64 (readVal s).2]) ∧ Below w.heap.size w w' := by
  have HE := Aside0.mk hE
  clear hE
  have R1 : ∀ v, preRead s = some v → checkVal v = 0 → readVal s = (v, 0) := fun v h hc => by unfold readVal; rw [h]; simp [hc]
  have R2 : ∀ v, preRead s = some v → checkVal v ≠ 0 → readVal s = (vNil, checkVal v) := fun v h hc => by unfold readVal; rw [h]; simp [hc]
  have R3 : preRead s = none → readVal s = (vNil, 15) := fun h => by unfold readVal; rw [h]
  have hpre : preRead s = preRead s := rfl
  conv at hpre => rhs; unfold preRead
  rw [← ByteArray.toList_eq] at hpre
  have P1 := fun W => pre_any s W
  have S1 := fun W => suf_any s W (by omega)
  rw [← ByteArray.toList_eq] at P1 S1
  generalize hb4 : decide (s.toList.head? = some 34) = p at P1
  generalize hb5 : decide (s.toList.getLast? = some 34) = q at S1
  generalize readVal s = R at *
  have A1 := Aside0.mk R1
  have A2 := Aside0.mk R2
  have A3 := Aside0.mk R3
  have AP := Aside0.mk P1
  have AS := Aside0.mk S1
  clear R1 R2 R3 P1 S1
  by_cases h1 : s.toList = [110, 105, 108]
  · rw [if_pos h1] at hpre
    have b1 : (s.toList == [110, 105, 108]) = true := by simp [h1]
    have HP := Aside0.mk hpre
    clear h1 hpre
    by_cases hk : checkVal (vNil) = 0
    · have HR := Aside0.mk (A1.out _ HP.out hk)
      have bk : (checkVal (vNil) != 0) = false := by simp [hk]
      clear hk
      go_enter Tryd.func28, Tryd.ntmps28
      go_wp2_with (first
        | (go_at_call 51; with_reducible refine (AP.out _).mono ?_; rintro e w1 ⟨rfl, rfl⟩)
        | (go_at_call 52; with_reducible refine (AS.out _).mono ?_; rintro e w1 ⟨rfl, rfl⟩)
        | (go_at_call 29; go_loud (refine (verr_any (vNil) _).mono ?_; rintro e w3 ⟨rfl, hB3⟩; have H := Aside0.mk (St.start' (vNil) hB3); clear hB3; obtain ⟨f0, f1, d0, d1, d2, d3, c0, c1, c2, c3⟩ := H.out.facts; simp only [vNil, vNum, vText, vBool] at c0 c1 c2 c3 d0 d1 d2 d3)))
      have H2 := Aside0.mk (H.out.set0 0 0 ⟨#[]⟩ false)
      unfold set4 at H2
      refine bodyPost_ret (v := .tuple #[(vNil).v, .int .i64 0]) (by simp [results, Tryd.results28, go_sem, *]; rfl) rfl ⟨by rw [HR.out], H2.out.below⟩
    · have HR := Aside0.mk (A2.out _ HP.out hk)
      have bk : (checkVal (vNil) != 0) = true := by simp [hk]
      clear hk
      go_enter Tryd.func28, Tryd.ntmps28
      go_wp2_with (first
        | (go_at_call 51; with_reducible refine (AP.out _).mono ?_; rintro e w1 ⟨rfl, rfl⟩)
        | (go_at_call 52; with_reducible refine (AS.out _).mono ?_; rintro e w1 ⟨rfl, rfl⟩)
        | (go_at_call 29; go_loud (refine (verr_any (vNil) _).mono ?_; rintro e w3 ⟨rfl, hB3⟩; have H := Aside0.mk (St.start' (vNil) hB3); clear hB3; obtain ⟨f0, f1, d0, d1, d2, d3, c0, c1, c2, c3⟩ := H.out.facts; simp only [vNil, vNum, vText, vBool] at c0 c1 c2 c3 d0 d1 d2 d3)))
      have H2 := Aside0.mk (H.out.set0 0 0 ⟨#[]⟩ false)
      unfold set4 at H2
      refine bodyPost_ret (v := .tuple #[vNil.v, .int .i64 (checkVal (vNil))]) (by simp [results, Tryd.results28, go_sem, *]; rfl) rfl ⟨by rw [HR.out], H2.out.below⟩
  rw [if_neg h1] at hpre
  have b1 : (s.toList == [110, 105, 108]) = false := by simp [h1]
  by_cases h2 : s.toList = [116, 114, 117, 101]
  · rw [if_pos h2] at hpre
    have b2 : (s.toList == [116, 114, 117, 101]) = true := by simp [h2]
    have HP := Aside0.mk hpre
    clear h1 h2 hpre
    by_cases hk : checkVal (vBool true) = 0
    · have HR := Aside0.mk (A1.out _ HP.out hk)
      have bk : (checkVal (vBool true) != 0) = false := by simp [hk]
      clear hk
      go_enter Tryd.func28, Tryd.ntmps28
      go_wp2_with (first
        | (go_at_call 51; with_reducible refine (AP.out _).mono ?_; rintro e w1 ⟨rfl, rfl⟩)
        | (go_at_call 52; with_reducible refine (AS.out _).mono ?_; rintro e w1 ⟨rfl, rfl⟩)
        | (go_at_call 29; go_loud (refine (verr_any (vBool true) _).mono ?_; rintro e w3 ⟨rfl, hB3⟩; have H := Aside0.mk (St.start' (vBool true) hB3); clear hB3; obtain ⟨f0, f1, d0, d1, d2, d3, c0, c1, c2, c3⟩ := H.out.facts; simp only [vNil, vNum, vText, vBool] at c0 c1 c2 c3 d0 d1 d2 d3)))
      have H2 := Aside0.mk (H.out.set0 3 0 ⟨#[]⟩ true)
      unfold set4 at H2
      refine bodyPost_ret (v := .tuple #[(vBool true).v, .int .i64 0]) (by simp [results, Tryd.results28, go_sem, *]; rfl) rfl ⟨by rw [HR.out], H2.out.below⟩
    · have HR := Aside0.mk (A2.out _ HP.out hk)
      have bk : (checkVal (vBool true) != 0) = true := by simp [hk]
      clear hk
      go_enter Tryd.func28, Tryd.ntmps28
      go_wp2_with (first
        | (go_at_call 51; with_reducible refine (AP.out _).mono ?_; rintro e w1 ⟨rfl, rfl⟩)
        | (go_at_call 52; with_reducible refine (AS.out _).mono ?_; rintro e w1 ⟨rfl, rfl⟩)
        | (go_at_call 29; go_loud (refine (verr_any (vBool true) _).mono ?_; rintro e w3 ⟨rfl, hB3⟩; have H := Aside0.mk (St.start' (vBool true) hB3); clear hB3; obtain ⟨f0, f1, d0, d1, d2, d3, c0, c1, c2, c3⟩ := H.out.facts; simp only [vNil, vNum, vText, vBool] at c0 c1 c2 c3 d0 d1 d2 d3)))
      have H2 := Aside0.mk (H.out.set0 0 0 ⟨#[]⟩ false)
      unfold set4 at H2
      refine bodyPost_ret (v := .tuple #[vNil.v, .int .i64 (checkVal (vBool true))]) (by simp [results, Tryd.results28, go_sem, *]; rfl) rfl ⟨by rw [HR.out], H2.out.below⟩
  rw [if_neg h2] at hpre
  have b2 : (s.toList == [116, 114, 117, 101]) = false := by simp [h2]
  by_cases h3 : s.toList = [102, 97, 108, 115, 101]
  · rw [if_pos h3] at hpre
    have b3 : (s.toList == [102, 97, 108, 115, 101]) = true := by simp [h3]
    have HP := Aside0.mk hpre
    clear h1 h2 h3 hpre
    by_cases hk : checkVal (vBool false) = 0
    · have HR := Aside0.mk (A1.out _ HP.out hk)
      have bk : (checkVal (vBool false) != 0) = false := by simp [hk]
      clear hk
      go_enter Tryd.func28, Tryd.ntmps28
      go_wp2_with (first
        | (go_at_call 51; with_reducible refine (AP.out _).mono ?_; rintro e w1 ⟨rfl, rfl⟩)
        | (go_at_call 52; with_reducible refine (AS.out _).mono ?_; rintro e w1 ⟨rfl, rfl⟩)
        | (go_at_call 29; go_loud (refine (verr_any (vBool false) _).mono ?_; rintro e w3 ⟨rfl, hB3⟩; have H := Aside0.mk (St.start' (vBool false) hB3); clear hB3; obtain ⟨f0, f1, d0, d1, d2, d3, c0, c1, c2, c3⟩ := H.out.facts; simp only [vNil, vNum, vText, vBool] at c0 c1 c2 c3 d0 d1 d2 d3)))
      have H2 := Aside0.mk (H.out.set0 3 0 ⟨#[]⟩ false)
      unfold set4 at H2
      refine bodyPost_ret (v := .tuple #[(vBool false).v, .int .i64 0]) (by simp [results, Tryd.results28, go_sem, *]; rfl) rfl ⟨by rw [HR.out], H2.out.below⟩
    · have HR := Aside0.mk (A2.out _ HP.out hk)
      have bk : (checkVal (vBool false) != 0) = true := by simp [hk]
      clear hk
      go_enter Tryd.func28, Tryd.ntmps28
      go_wp2_with (first
        | (go_at_call 51; with_reducible refine (AP.out _).mono ?_; rintro e w1 ⟨rfl, rfl⟩)
        | (go_at_call 52; with_reducible refine (AS.out _).mono ?_; rintro e w1 ⟨rfl, rfl⟩)
        | (go_at_call 29; go_loud (refine (verr_any (vBool false) _).mono ?_; rintro e w3 ⟨rfl, hB3⟩; have H := Aside0.mk (St.start' (vBool false) hB3); clear hB3; obtain ⟨f0, f1, d0, d1, d2, d3, c0, c1, c2, c3⟩ := H.out.facts; simp only [vNil, vNum, vText, vBool] at c0 c1 c2 c3 d0 d1 d2 d3)))
      have H2 := Aside0.mk (H.out.set0 0 0 ⟨#[]⟩ false)
      unfold set4 at H2
      refine bodyPost_ret (v := .tuple #[vNil.v, .int .i64 (checkVal (vBool false))]) (by simp [results, Tryd.results28, go_sem, *]; rfl) rfl ⟨by rw [HR.out], H2.out.below⟩
  rw [if_neg h3] at hpre
  have b3 : (s.toList == [102, 97, 108, 115, 101]) = false := by simp [h3]
  clear h1 h2 h3
  by_cases h4 : 2 ≤ s.size ∧ s.toList.head? = some 34 ∧ s.toList.getLast? = some 34
  · rw [if_pos h4] at hpre
    have hd : decide ((1 : Int) < (s.size : Int)) = true := by simp; omega
    obtain ⟨h2s, h5, h6⟩ := h4
    rw [decide_eq_true h5] at hb4
    rw [decide_eq_true h6] at hb5
    subst hb4 hb5
    have HP := Aside0.mk hpre
    clear hpre h5 h6
    by_cases hk : checkVal (vText (s.extract 1 (s.size - 1))) = 0
    · have HR := Aside0.mk (A1.out _ HP.out hk)
      have bk : (checkVal (vText (s.extract 1 (s.size - 1))) != 0) = false := by simp [hk]
      clear hk
      go_enter Tryd.func28, Tryd.ntmps28
      go_wp2_with (first
        | (go_at_call 51; with_reducible refine (AP.out _).mono ?_; rintro e w1 ⟨rfl, rfl⟩)
        | (go_at_call 52; with_reducible refine (AS.out _).mono ?_; rintro e w1 ⟨rfl, rfl⟩)
        | (go_at_call 29; go_loud (refine (verr_any (vText (s.extract 1 (s.size - 1))) _).mono ?_; rintro e w3 ⟨rfl, hB3⟩; have H := Aside0.mk (St.start' (vText (s.extract 1 (s.size - 1))) hB3); clear hB3; obtain ⟨f0, f1, d0, d1, d2, d3, c0, c1, c2, c3⟩ := H.out.facts; simp only [vNil, vNum, vText, vBool] at c0 c1 c2 c3 d0 d1 d2 d3)))
      have H2 := Aside0.mk (H.out.set0 2 0 (s.extract 1 (s.size - 1)) false)
      unfold set4 at H2
      refine bodyPost_ret (v := .tuple #[(vText (s.extract 1 (s.size - 1))).v, .int .i64 0]) (by simp [results, Tryd.results28, go_sem, *]; rfl) rfl ⟨by rw [HR.out], H2.out.below⟩
    · have HR := Aside0.mk (A2.out _ HP.out hk)
      have bk : (checkVal (vText (s.extract 1 (s.size - 1))) != 0) = true := by simp [hk]
      clear hk
      go_enter Tryd.func28, Tryd.ntmps28
      go_wp2_with (first
        | (go_at_call 51; with_reducible refine (AP.out _).mono ?_; rintro e w1 ⟨rfl, rfl⟩)
        | (go_at_call 52; with_reducible refine (AS.out _).mono ?_; rintro e w1 ⟨rfl, rfl⟩)
        | (go_at_call 29; go_loud (refine (verr_any (vText (s.extract 1 (s.size - 1))) _).mono ?_; rintro e w3 ⟨rfl, hB3⟩; have H := Aside0.mk (St.start' (vText (s.extract 1 (s.size - 1))) hB3); clear hB3; obtain ⟨f0, f1, d0, d1, d2, d3, c0, c1, c2, c3⟩ := H.out.facts; simp only [vNil, vNum, vText, vBool] at c0 c1 c2 c3 d0 d1 d2 d3)))
      have H2 := Aside0.mk (H.out.set0 0 0 ⟨#[]⟩ false)
      unfold set4 at H2
      refine bodyPost_ret (v := .tuple #[vNil.v, .int .i64 (checkVal (vText (s.extract 1 (s.size - 1))))]) (by simp [results, Tryd.results28, go_sem, *]; rfl) rfl ⟨by rw [HR.out], H2.out.below⟩
  rw [if_neg h4] at hpre
  have hpre2 : preRead s = (num s.toList).map vNum := by
    rw [hpre]; unfold num
    cases atoiOk s.toList with
    | none => rfl
    | some n =>
      simp only
      by_cases h : Lib.itoa n = s.toList
      · rw [if_pos h, if_pos h]; rfl
      · rw [if_neg h, if_neg h]; rfl
  have HP := Aside0.mk hpre2
  clear hpre hpre2
  have hq3 : decide ((1 : Int) < (s.size : Int)) = false ∨ (decide ((1 : Int) < (s.size : Int)) = true ∧ (p = false ∨ (p = true ∧ q = false))) := by
    subst hb4 hb5
    by_cases h2s : 2 ≤ s.size
    · refine .inr ⟨by simp; omega, ?_⟩
      by_cases h5 : s.toList.head? = some 34
      · refine .inr ⟨decide_eq_true h5, decide_eq_false fun h6 => h4 ⟨h2s, h5, h6⟩⟩
      · exact .inl (decide_eq_false h5)
    · exact .inl (by simp; omega)
  clear h4 hb4 hb5
  rcases hq3 with q1 | ⟨q1, rfl | ⟨rfl, rfl⟩⟩
  all_goals
    go_enter Tryd.func28, Tryd.ntmps28
    go_wp2_with (first
      | (go_at_call 51; with_reducible refine (AP.out _).mono ?_; rintro e w1 ⟨rfl, rfl⟩)
      | (go_at_call 52; with_reducible refine (AS.out _).mono ?_; rintro e w1 ⟨rfl, rfl⟩)
      | (go_at_call 53; go_loud (refine (whole_any s _ (HE.out.below (below_alloc' (below_alloc' (Below.refl _ _) _) _)) (by omega)).mono ?_; rintro e w1 ⟨n, b, rfl, hB1, hA⟩; have H := Aside0.mk (St.start hB1); clear hB1; obtain ⟨f0, f1, d0, d1, d2, d3, c0, c1, c2, c3⟩ := H.out.facts; simp only [vNil, vNum, vText, vBool] at c0 c1 c2 c3 d0 d1 d2 d3; rw [← ByteArray.toList_eq] at hA; rcases hA with ⟨rfl, ha⟩ | ⟨rfl, ha⟩)))
    · have HQ := Aside0.mk (HP.out.trans (by rw [ha]; rfl) : preRead s = some (vNum n))
      clear ha
      by_cases hk : checkVal (vNum n) = 0
      · have HR := Aside0.mk (A1.out _ HQ.out hk)
        have bk : (checkVal (vNum n) != 0) = false := by simp [hk]
        clear hk
        go_wp2_with (first
          | (go_at_call 51; with_reducible refine (AP.out _).mono ?_; rintro e w1 ⟨rfl, rfl⟩)
          | (go_at_call 52; with_reducible refine (AS.out _).mono ?_; rintro e w1 ⟨rfl, rfl⟩)
          | (go_at_call 29; go_loud (refine (verr_any (vNum n) _).mono ?_; rintro e w3 ⟨rfl, hB3⟩; have H := Aside0.mk ((H.out.set1 1 n ⟨#[]⟩ false).call hB3); clear hB3; obtain ⟨f0, f1, d0, d1, d2, d3, c0, c1, c2, c3⟩ := H.out.facts; simp only [vNil, vNum, vText, vBool] at c0 c1 c2 c3 d0 d1 d2 d3)))
        have H2 := Aside0.mk (H.out.set0 1 n ⟨#[]⟩ false)
        unfold set4 at H2
        refine bodyPost_ret (v := .tuple #[(vNum n).v, .int .i64 0]) (by simp [results, Tryd.results28, go_sem, *]; rfl) rfl ⟨by rw [HR.out], H2.out.below⟩
      · have HR := Aside0.mk (A2.out _ HQ.out hk)
        have bk : (checkVal (vNum n) != 0) = true := by simp [hk]
        clear hk
        go_wp2_with (first
          | (go_at_call 51; with_reducible refine (AP.out _).mono ?_; rintro e w1 ⟨rfl, rfl⟩)
          | (go_at_call 52; with_reducible refine (AS.out _).mono ?_; rintro e w1 ⟨rfl, rfl⟩)
          | (go_at_call 29; go_loud (refine (verr_any (vNum n) _).mono ?_; rintro e w3 ⟨rfl, hB3⟩; have H := Aside0.mk ((H.out.set1 1 n ⟨#[]⟩ false).call hB3); clear hB3; obtain ⟨f0, f1, d0, d1, d2, d3, c0, c1, c2, c3⟩ := H.out.facts; simp only [vNil, vNum, vText, vBool] at c0 c1 c2 c3 d0 d1 d2 d3)))
        have H2 := Aside0.mk (H.out.set0 0 0 ⟨#[]⟩ false)
        unfold set4 at H2
        refine bodyPost_ret (v := .tuple #[vNil.v, .int .i64 (checkVal (vNum n))]) (by simp [results, Tryd.results28, go_sem, *]; rfl) rfl ⟨by rw [HR.out], H2.out.below⟩
    · have HR := Aside0.mk (A3.out (HP.out.trans (by rw [ha]; rfl)))
      clear ha
      go_wp2
      have H2 := Aside0.mk (H.out.set0 0 0 ⟨#[]⟩ false)
      unfold set4 at H2
      refine bodyPost_ret (v := .tuple #[vNil.v, .int .i64 15]) (by simp [results, Tryd.results28, go_sem, *]; rfl) rfl ⟨by rw [HR.out], H2.out.below⟩
end Go.Proofs.YtgabpbnndikheaaDoor
