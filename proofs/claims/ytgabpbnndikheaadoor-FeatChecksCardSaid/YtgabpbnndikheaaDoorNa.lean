import Derived.Test.YtgabpbnndikheaaDoorGe
set_option linter.constructorNameAsVariable false
/-! Names. -/
namespace Go.Proofs.YtgabpbnndikheaaDoor
open Go.RowKit Go.Proofs.YtgabpbnndikheaaDoorW.PrintWords

def nameC (z : Bool) (n : Nat) : Bool := (decide (97 ≤ n) && decide (n ≤ 122)) || (z && ((n == 95) || (decide (48 ≤ n) && decide (n ≤ 57))))
def bt (s : ByteArray) (j : Nat) : Nat := (s.data.toList.getD j 0).toNat
theorem bt_get {s : ByteArray} {j : Nat} (h : j < s.size) : bt s j = s[j].toNat := by
  unfold bt
  rw [List.getD_eq_getElem?_getD, List.getElem?_eq_getElem (by simpa using h)]
  rfl
def nameUpto (s : ByteArray) (k : Nat) : Bool := (List.range k).all fun j => nameC (decide (0 < j)) (bt s j)
def nameOk (s : ByteArray) : Bool := nameUpto s s.size && (decide (1 ≤ s.size) && decide (s.size ≤ 12))
theorem nameUpto_no {s : ByteArray} {i n : Nat} (hi : i < n) (h : nameC (decide (0 < i)) (bt s i) = false) : nameUpto s n = false := by
  unfold nameUpto
  rw [Bool.eq_false_iff]
  intro e
  rw [List.all_eq_true] at e
  have := e i (List.mem_range.2 hi)
  rw [h] at this
  cases this
theorem nameUpto_succ {s : ByteArray} {i : Nat} (h : nameUpto s i = true) (h2 : nameC (decide (0 < i)) (bt s i) = true) : nameUpto s (i + 1) = true := by
  unfold nameUpto at *
  rw [List.range_succ, List.all_append, h, Bool.true_and]
  simp only [List.all_cons, List.all_nil, Bool.and_true]
  exact h2
theorem nameC_good {z : Bool} {n : Nat} (h : nameC z n = true) : (97 ≤ n ∧ n ≤ 122) ∨ (z = true ∧ n = 95) ∨ (z = true ∧ 48 ≤ n ∧ n ≤ 57) := by
  unfold nameC at h
  cases z
  · simp at h; simp; omega
  · simp at h; simp; omega
theorem nameC_bad {z : Bool} {n : Nat} (h : nameC z n = false) : (z = false ∧ n < 97) ∨ (z = false ∧ 122 < n) ∨ (z = true ∧ n < 97 ∧ n ≠ 95 ∧ n < 48) ∨ (z = true ∧ n < 97 ∧ n ≠ 95 ∧ 57 < n) ∨ (z = true ∧ 122 < n) := by
  unfold nameC at h
  cases z
  · simp at h; simp; omega
  · simp at h; simp; omega
set_option maxHeartbeats 4000000 in
set_option maxRecDepth 100000 in
theorem name_any (s : ByteArray) (w : World) (hm : s.size ≤ 9223372036854775807) :
    Calls Tryd.prog 14 #[.string s] w fun e w' => e = .returned (.bool (nameOk s)) ∧ w = w' := by
  obtain ⟨R, hR⟩ : ∃ R, R = nameOk s := ⟨_, rfl⟩
  rw [← hR]
  unfold nameOk at hR
  have HD := Aside0.mk hR
  clear hR
  go_enter Tryd.func14, Tryd.ntmps14
  go_wp2
  go_loop [7] (fun i => ∃ k : Nat, k ≤ s.size ∧ i = .int .i64 k ∧ Aside0 (nameUpto s k = true)) (fun i => s.size - (intOf i).toNat)
  case atStart => exact ⟨0, Nat.zero_le _, rfl, ⟨rfl⟩⟩
  case round =>
    obtain ⟨k, hk, rfl, HF⟩ := hrel
    by_cases hlt : k < s.size
    · have hd : decide ((k : Int) < s.size) = true := by simp; omega
      have HB := Aside0.mk (bt_get hlt)
      have HN := Aside0.mk (fun e => nameUpto_no (s := s) hlt e)
      have HT := Aside0.mk (fun e => nameUpto_succ (s := s) HF.out e)
      rw [HB.out] at HN HT
      have hu := s[k].toNat_lt
      cases hc : nameC (decide (0 < k)) s[k].toNat
      · have HN2 := Aside0.mk (HN.out hc)
        have hb := nameC_bad hc
        clear hc HN HT HB
        have hq : (¬ 0 < k ∧ decide ((97 : Int) ≤ (s[k].toNat : Int)) = false) ∨ (¬ 0 < k ∧ decide ((97 : Int) ≤ (s[k].toNat : Int)) = true ∧ decide ((s[k].toNat : Int) ≤ 122) = false)
            ∨ (0 < k ∧ decide ((97 : Int) ≤ (s[k].toNat : Int)) = false ∧ ((s[k].toNat : Int) == 95) = false ∧ decide ((48 : Int) ≤ (s[k].toNat : Int)) = false)
            ∨ (0 < k ∧ decide ((97 : Int) ≤ (s[k].toNat : Int)) = false ∧ ((s[k].toNat : Int) == 95) = false ∧ decide ((48 : Int) ≤ (s[k].toNat : Int)) = true ∧ decide ((s[k].toNat : Int) ≤ 57) = false)
            ∨ (0 < k ∧ decide ((97 : Int) ≤ (s[k].toNat : Int)) = true ∧ decide ((s[k].toNat : Int) ≤ 122) = false ∧ ((s[k].toNat : Int) == 95) = false ∧ decide ((48 : Int) ≤ (s[k].toNat : Int)) = true ∧ decide ((s[k].toNat : Int) ≤ 57) = false) := by
          simp at hb ⊢
          omega
        clear hb
        rcases hq with ⟨h1, h2⟩ | ⟨h1, h2, h3⟩ | ⟨h1, h2, h3, h4⟩ | ⟨h1, h2, h3, h4, h5⟩ | ⟨h1, h2, h3, h4, h5, h6⟩
        all_goals
          go_wp2
          go_ret
          exact ⟨bool_ret (by rw [HD.out, HN2.out, Bool.false_and]), rfl⟩
      · have HT2 := Aside0.mk (HT.out hc)
        have hb := nameC_good hc
        clear hc HN HT HB
        have hq : (decide ((97 : Int) ≤ (s[k].toNat : Int)) = true ∧ decide ((s[k].toNat : Int) ≤ 122) = true) ∨ (0 < k ∧ decide ((97 : Int) ≤ (s[k].toNat : Int)) = false ∧ ((s[k].toNat : Int) == 95) = true)
            ∨ (0 < k ∧ decide ((97 : Int) ≤ (s[k].toNat : Int)) = false ∧ ((s[k].toNat : Int) == 95) = false ∧ decide ((48 : Int) ≤ (s[k].toNat : Int)) = true ∧ decide ((s[k].toNat : Int) ≤ 57) = true) := by
          simp at hb ⊢
          omega
        clear hb
        rcases hq with ⟨h1, h2⟩ | ⟨h1, h2, h3⟩ | ⟨h1, h2, h3, h4, h5⟩
        all_goals
          go_wp2
          go_round
          case rel => exact ⟨k + 1, by omega, by go_num, HT2⟩
          case measure => simp [intOf]; omega
    · have hd : decide ((k : Int) < s.size) = false := by simp; omega
      have hks : k = s.size := by omega
      rw [hks] at HF
      rw [HF.out, Bool.true_and] at HD
      have hz : decide (1 ≤ s.size) = decide ((1 : Int) ≤ (s.size : Int)) := by rw [decide_eq_decide]; omega
      have hz2 : decide (s.size ≤ 12) = decide ((s.size : Int) ≤ 12) := by rw [decide_eq_decide]; omega
      rw [hz, hz2] at HD
      generalize hg1 : decide ((1 : Int) ≤ (s.size : Int)) = g1 at HD
      generalize hg2 : decide ((s.size : Int) ≤ 12) = g2 at HD
      clear hz hz2
      cases g1 <;> cases g2
      all_goals
        go_wp2
        go_ret
        exact ⟨bool_ret (by rw [HD.out]; rfl), rfl⟩
end Go.Proofs.YtgabpbnndikheaaDoor
