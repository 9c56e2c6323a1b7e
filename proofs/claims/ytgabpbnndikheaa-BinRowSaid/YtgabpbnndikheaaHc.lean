import Derived.Test.YtgabpbnndikheaaHb
namespace Go.Proofs.Ytgabpbnndikheaa
open Go.RowKit Go.Proofs.YtgabpbnndikheaaW.PrintWords

def numOf (r : Nat × Nat × Nat) : Int × Int × Int := if r.2.2 = 0 then (unzig r.1, r.2.1, 0) else (0, 0, r.2.2)

set_option maxHeartbeats 1000000 in
set_option maxRecDepth 100000 in
theorem numberof_any (A : Option Addr) (c : Nat) (bs : List UInt8) (w : World) (hr : kby.C w A bs.length bs) :
    Calls Try.prog 14 #[.slice A bs.length c] w fun e w' => e = .returned (.tuple #[.int .i64 (numOf (getU 0 0 bs)).1, .int .i64 (numOf (getU 0 0 bs)).2.1, .int .i64 (numOf (getU 0 0 bs)).2.2]) ∧ w = w' := by
  have hm := hr.2.1
  have HR := Aside0.mk hr
  clear hr
  go_enter Try.func14, Try.ntmps14
  go_wp2
  go_loop [5, 6] (fun u i => ∃ (k v : Nat), k ≤ bs.length ∧ k ≤ 9 ∧ i = .int .i64 k ∧ u = .int .u64 v ∧ Aside0 (v < 2 ^ (7 * k)) ∧ Aside0 (getU 0 0 bs = getU k v (bs.drop k))) (fun _ i => bs.length - (intOf i).toNat)
  case atStart => exact ⟨0, 0, Nat.zero_le _, by omega, rfl, rfl, ⟨by decide⟩, ⟨rfl⟩⟩
  case round =>
    obtain ⟨k, v, hk, hk9, rfl, rfl, HV, HG⟩ := hrel
    by_cases hlt : k < bs.length
    · obtain ⟨ad, rfl, hc⟩ := C1_at HR.out hlt
      have hu := bs[k].toNat_lt
      have hd : decide ((k : Int) < bs.length) = true := by simp; omega
      generalize hb : bs[k] = b at *
      have HB := Aside0.mk hb
      clear hb
      have HG1 := HG.out
      rw [List.drop_eq_getElem_cons hlt, HB.out, getU] at HG1
      have HS := Aside0.mk (getU_step (b := b.toNat) hk9 HV.out)
      clear HG
      by_cases h9 : k = 9 ∧ 1 < b.toNat
      · rw [if_pos h9] at HG1
        have HG := Aside0.mk HG1
        clear HG1
        have e0 : ((k : Int) == 9) = true := by simp; omega
        have e1 : decide (1 < (b.toNat : Int)) = true := by simp; omega
        have H9 := Aside0.mk h9
        clear h9
        go_wp2
        go_ret3
        exact ⟨by rw [HG.out]; rfl, rfl⟩
      · rw [if_neg h9] at HG1
        have HS := Aside0.mk (HS.out (by omega))
        have H9 := Aside0.mk h9
        clear h9
        by_cases h128 : 128 ≤ b.toNat
        · rw [if_pos h128] at HG1
          have HG := Aside0.mk HG1
          clear HG1
          have e2 : decide (127 < (b.toNat : Int)) = true := by simp; omega
          have e0 : ((k : Int) == 9) = false := by have := H9.out; simp; omega
          have hk8 := Aside0.mk (show k < 9 by have := H9.out; omega)
          go_wp2
          go_round
          case rel => exact ⟨k + 1, _, by omega, by have := hk8.out; omega, by go_num, by rw [HS.out.1], ⟨HS.out.2.1⟩, HG⟩
          case measure => simp [intOf]; omega
        · rw [if_neg h128] at HG1
          have e2 : decide (127 < (b.toNat : Int)) = false := by simp; omega
          by_cases h0 : 0 < k ∧ b.toNat = 0
          · rw [if_pos h0] at HG1
            have HG := Aside0.mk HG1
            clear HG1
            have e3 : decide (0 < (k : Int)) = true := by simp; omega
            have e3' : decide (0 < k) = true := by simp; omega
            have e4 : ((b.toNat : Int) == 0) = true := by simp; omega
            have e5 : decide (1 < (b.toNat : Int)) = false := by simp; omega
            have H0 := Aside0.mk h0
            clear h0
            cases hx : ((k : Int) == 9)
            all_goals
              go_wp2
              go_ret3
              exact ⟨by rw [HG.out]; rfl, rfl⟩
          · rw [if_neg h0] at HG1
            have HG := Aside0.mk HG1
            clear HG1
            have h30 : decide (0 < k) = false ∨ decide (0 < k) = true ∧ ((b.toNat : Int) == 0) = false := by simp; omega
            have H0 := Aside0.mk h0
            clear h0
            obtain ⟨hw1, hw2⟩ := HS.out
            clear HS
            generalize hq : v + b.toNat % 128 * 2 ^ (7 * k) = q at *
            have HQ := Aside0.mk hw2
            clear hq hw2
            clear HS
            have hN : numOf (q, k + 1, 0) = (unzig q, ((k + 1 : Nat) : Int), 0) := rfl
            have HN := Aside0.mk (HG.out ▸ hN : numOf (getU 0 0 bs) = _)
            clear hN
            have h19 : ((k : Int) == 9) = false ∨ ((k : Int) == 9) = true ∧ decide (1 < (b.toNat : Int)) = false := by have := H9.out; simp; omega
            rcases h19 with h19 | ⟨h19, h20⟩ <;> rcases h30 with h30 | ⟨h30, h31⟩ <;> cases hp : ((q : Int) % 2 == 1)
            all_goals
              go_wp2
            all_goals
              go_ret3
              refine ⟨?_, rfl⟩
              rw [HN.out]
              exact ret3 (by first | exact unzig_odd HQ.out.2 hp | exact unzig_even HQ.out.2 hp) (by show (k : Int) + 1 = ((k + 1 : Nat) : Int); omega) rfl
    · have hd : decide ((k : Int) < bs.length) = false := by simp; omega
      have HG1 := HG.out
      rw [List.drop_of_length_le (by omega), getU] at HG1
      have HG2 := Aside0.mk HG1
      clear HG HG1
      go_wp2
      go_ret3
      exact ⟨by rw [HG2.out]; rfl, rfl⟩
end Go.Proofs.Ytgabpbnndikheaa
