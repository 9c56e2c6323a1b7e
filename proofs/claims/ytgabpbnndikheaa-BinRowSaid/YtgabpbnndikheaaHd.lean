import Derived.Test.YtgabpbnndikheaaHc
namespace Go.Proofs.Ytgabpbnndikheaa
open Go.RowKit Go.Proofs.YtgabpbnndikheaaW.PrintWords

def restOf (r : Nat × Nat × Nat) (bs : List UInt8) : List UInt8 := if r.2.2 = 0 then bs.drop r.2.1 else []

set_option maxHeartbeats 1000000 in
set_option maxRecDepth 100000 in
theorem get_any (A : Option Addr) (c : Nat) (bs : List UInt8) (w : World) (hr : kby.C w A bs.length bs) (hlc : bs.length ≤ c) (hl : bs.length ≤ 140737488355232) :
    Calls Try.prog 13 #[.slice A bs.length c] w fun e w' => ∃ v, e = .returned (.tuple #[.int .i64 (numOf (getU 0 0 bs)).1, v, .int .i64 (numOf (getU 0 0 bs)).2.2]) ∧ kby.R 5 w' w.heap.size (fun _ => True) v (restOf (getU 0 0 bs) bs) ∧ Below w.heap.size w w' := by
  have hm := hr.2.1
  have HR := Aside0.mk hr
  clear hr
  go_enter Try.func13, Try.ntmps13
  go_wp2
  go_loop [5, 10] (fun u i => ∃ (k v : Nat), k ≤ bs.length ∧ k ≤ 9 ∧ i = .int .i64 k ∧ u = .int .u64 v ∧ Aside0 (v < 2 ^ (7 * k)) ∧ Aside0 (getU 0 0 bs = getU k v (bs.drop k))) (fun _ i => bs.length - (intOf i).toNat)
  case atStart => exact ⟨0, 0, Nat.zero_le _, by omega, rfl, rfl, ⟨by decide⟩, ⟨rfl⟩⟩
  case round =>
    obtain ⟨k, v, hk, hk9, rfl, rfl, HV, HG⟩ := hrel
    by_cases hlt : k < bs.length
    · obtain ⟨ad, rfl, hc⟩ := C1_at HR.out hlt
      have hu := bs[k].toNat_lt
      have hd : decide ((k : Int) < bs.length) = true := by simp; omega
      generalize hb : bs[k] = b at *
      have HB := Aside0.mk hb
      clear hb
      have HG1 := HG.out
      rw [List.drop_eq_getElem_cons hlt, HB.out, getU] at HG1
      have HS := Aside0.mk (fun h => And.intro (getO_step (b := b.toNat) hk9 HV.out (by have := b.toNat_lt; omega) h) (getU_step (b := b.toNat) hk9 HV.out h).2)
      clear HG
      by_cases h9 : k = 9 ∧ 1 < b.toNat
      · rw [if_pos h9] at HG1
        have HG := Aside0.mk HG1
        clear HG1
        have e0 : ((k : Int) == 9) = true := by simp; omega
        have e1 : decide (1 < (b.toNat : Int)) = true := by simp; omega
        have H9 := Aside0.mk h9
        clear h9
        go_wp2
        go_ret3
        exact ⟨_, by rw [HG.out]; rfl, by rw [HG.out]; exact Kd.R_nil _ _ _ _ _, Below.refl _ _⟩
      · rw [if_neg h9] at HG1
        have HS := Aside0.mk (HS.out (by omega))
        have H9 := Aside0.mk h9
        clear h9
        by_cases h128 : 128 ≤ b.toNat
        · rw [if_pos h128] at HG1
          have HG := Aside0.mk HG1
          clear HG1
          have e2 : decide (128 ≤ (b.toNat : Int)) = true := by simp; omega
          have e0 : ((k : Int) == 9) = false := by have := H9.out; simp; omega
          have hk8 := Aside0.mk (show k < 9 by have := H9.out; omega)
          go_wp2
          go_round
          case rel => exact ⟨k + 1, _, by omega, by have := hk8.out; omega, by go_num, by rw [HS.out.1], ⟨HS.out.2.1⟩, HG⟩
          case measure => simp [intOf]; omega
        · rw [if_neg h128] at HG1
          have e2 : decide (128 ≤ (b.toNat : Int)) = false := by simp; omega
          have h19 : ((k : Int) == 9) = false ∨ ((k : Int) == 9) = true ∧ decide (1 < (b.toNat : Int)) = false := by have := H9.out; simp; omega
          by_cases h0 : 0 < k ∧ b.toNat = 0
          · rw [if_pos h0] at HG1
            have HG := Aside0.mk HG1
            clear HG1
            have e3 : decide (0 < k) = true := by simp; omega
            have e4 : ((b.toNat : Int) == 0) = true := by simp; omega
            have H0 := Aside0.mk h0
            clear h0
            rcases h19 with h19 | ⟨h19, h20⟩
            all_goals
              go_wp2
            all_goals
              go_ret3
              exact ⟨_, by rw [HG.out]; rfl, by rw [HG.out]; exact Kd.R_nil _ _ _ _ _, Below.refl _ _⟩
          · rw [if_neg h0] at HG1
            have HG := Aside0.mk HG1
            clear HG1
            have h30 : decide (0 < k) = false ∨ decide (0 < k) = true ∧ ((b.toNat : Int) == 0) = false := by simp; omega
            have H0 := Aside0.mk h0
            clear h0
            obtain ⟨hw1, hw2⟩ := HS.out
            clear HS
            generalize hq : v + b.toNat % 128 * 2 ^ (7 * k) = q at *
            have HQ := Aside0.mk hw2
            clear hq hw2
            have ha := u64_and1 HQ.out.2
            have hN : numOf (q, k + 1, 0) = (unzig q, ((k + 1 : Nat) : Int), 0) := rfl
            have HN := Aside0.mk (HG.out ▸ hN : numOf (getU 0 0 bs) = _)
            have HD := Aside0.mk (show restOf (getU 0 0 bs) bs = bs.drop (k + 1) by rw [HG.out]; rfl)
            clear hN
            rcases h19 with h19 | ⟨h19, h20⟩ <;> rcases h30 with h30 | ⟨h30, h31⟩
            all_goals
              go_wp2_with (go_at_call 26; first | (refine (clone_bytes _ _ _ (bs.drop (k + 1)) _ (by simp) (by rw [addr_pos ad (by omega), List.length_drop]; exact C_drop1 HR.out (k + 1)) (by simp; omega)).mono ?_; rintro e w1 ⟨v1, rfl, hR, hB⟩) | (refine (clone_bytes _ _ _ (bs.drop (k + 1)) _ (by simp) (by rw [List.drop_of_length_le (by omega)]; exact C_zero _ _) (by simp; omega)).mono ?_; rintro e w1 ⟨v1, rfl, hR, hB⟩))
            all_goals
              go_ret3
              refine ⟨v1, ?_, by rw [HD.out]; exact hR, hB⟩
              rw [HN.out]
              exact congrArg (fun x : Int => Ending.returned (.tuple #[.int .i64 x, v1, .int .i64 0])) (unzig_xor HQ.out.2)
    · have hd : decide ((k : Int) < bs.length) = false := by simp; omega
      have HG1 := HG.out
      rw [List.drop_of_length_le (by omega), getU] at HG1
      have HG2 := Aside0.mk HG1
      clear HG HG1
      go_wp2
      go_ret3
      exact ⟨_, by rw [HG2.out]; rfl, by rw [HG2.out]; exact Kd.R_nil _ _ _ _ _, Below.refl _ _⟩
end Go.Proofs.Ytgabpbnndikheaa
