import Derived.Test.YtgabpbnndikheaaDoorVc
set_option linter.constructorNameAsVariable false
namespace Go.Proofs.YtgabpbnndikheaaDoor
open Go.RowKit Go.Proofs.YtgabpbnndikheaaDoorW.PrintWords

def vNum (n : Int) : Val := ⟨1, n, ⟨#[]⟩, false⟩
def vText (s : ByteArray) : Val := ⟨2, 0, s, false⟩
def vBool (b : Bool) : Val := ⟨3, 0, ⟨#[]⟩, b⟩
def vNil : Val := ⟨0, 0, ⟨#[]⟩, false⟩

set_option maxRecDepth 100000 in
theorem num_any (n : Int) (w : World) :
    Calls Tryd.prog 25 #[.int .i64 n] w fun e w' => e = .returned (vNum n).v ∧ Below w.heap.size w w' := by
  go_enter Tryd.func25, Tryd.ntmps25
  go_wp2
  refine bodyPost_ret (v := (vNum n).v) (by simp [results, Tryd.results25, go_sem]; rfl) rfl ⟨rfl, ?_⟩
  exact below_alloc' (Below.refl _ _) _
set_option maxRecDepth 100000 in
theorem text_any (s : ByteArray) (w : World) :
    Calls Tryd.prog 26 #[.string s] w fun e w' => e = .returned (vText s).v ∧ Below w.heap.size w w' := by
  go_enter Tryd.func26, Tryd.ntmps26
  go_wp2
  refine bodyPost_ret (v := (vText s).v) (by simp [results, Tryd.results26, go_sem]; rfl) rfl ⟨rfl, ?_⟩
  exact below_alloc' (Below.refl _ _) _
set_option maxRecDepth 100000 in
theorem bool_any (b : Bool) (w : World) :
    Calls Tryd.prog 27 #[.bool b] w fun e w' => e = .returned (vBool b).v ∧ Below w.heap.size w w' := by
  go_enter Tryd.func27, Tryd.ntmps27
  go_wp2
  refine bodyPost_ret (v := (vBool b).v) (by simp [results, Tryd.results27, go_sem]; rfl) rfl ⟨rfl, ?_⟩
  exact below_alloc' (Below.refl _ _) _

def plainC (c : UInt8) : Bool := decide (32 ≤ c.toNat) && decide (c.toNat ≤ 126) && !(c.toNat == 34)
def plainB (l : List UInt8) : Bool := l.all plainC

set_option maxHeartbeats 1000000 in
set_option maxRecDepth 100000 in
theorem plain_any (s : ByteArray) (w : World) (hm : s.size ≤ 9223372036854775807) :
    Calls Tryd.prog 38 #[.string s] w fun e w' => e = .returned (.bool (plainB s.data.toList)) ∧ w = w' := by
  have hsz : s.data.toList.length = s.size := by simp
  have HS := Aside0.mk hsz
  clear hsz
  go_enter Tryd.func38, Tryd.ntmps38
  go_wp2
  go_loop [6] (fun i => ∃ k : Nat, k ≤ s.size ∧ i = .int .i64 k ∧ Aside0 (plainB s.data.toList = plainB (s.data.toList.drop k))) (fun i => s.size - (intOf i).toNat)
  case atStart => exact ⟨0, Nat.zero_le _, rfl, ⟨rfl⟩⟩
  case round =>
    obtain ⟨k, hk, rfl, HF⟩ := hrel
    by_cases hlt : k < s.size
    · have hd : decide ((k : Int) < s.size) = true := by simp; omega
      have HF1 := HF.out
      rw [List.drop_eq_getElem_cons (by rw [HS.out]; exact hlt), ba_get s k hlt] at HF1
      simp only [plainB, List.all_cons] at HF1
      have hu := s[k].toNat_lt
      by_cases hy : plainC s[k] = true
      · rw [hy, Bool.true_and] at HF1
        have HF2 := Aside0.mk HF1
        simp [plainC] at hy
        have h1 : decide ((s[k].toNat : Int) < 32) = false := by simp; omega
        have h2 : decide ((126 : Int) < (s[k].toNat : Int)) = false := by simp; omega
        have h3 : ((s[k].toNat : Int) == 34) = false := by simp; omega
        have HY := Aside0.mk hy
        clear HF HF1 hy
        go_wp2
        go_round
        case rel => exact ⟨k + 1, by omega, by go_num, HF2⟩
        case measure => simp [intOf]; omega
      · rw [show plainC s[k] = false by simpa using hy, Bool.false_and] at HF1
        have HF2 := Aside0.mk HF1
        have hq : decide ((s[k].toNat : Int) < 32) = true ∨ (decide ((s[k].toNat : Int) < 32) = false ∧ (decide ((126 : Int) < (s[k].toNat : Int)) = true ∨ decide ((126 : Int) < (s[k].toNat : Int)) = false ∧ ((s[k].toNat : Int) == 34) = true)) := by
          simp [plainC] at hy ⊢
          omega
        clear HF HF1 hy
        rcases hq with h1 | ⟨h1, h2 | ⟨h2, h3⟩⟩
        all_goals
          go_wp2
          go_ret
          exact ⟨by rw [show plainB s.data.toList = false from HF2.out]; rfl, rfl⟩
    · have hd : decide ((k : Int) < s.size) = false := by simp; omega
      have HF1 := HF.out
      rw [List.drop_of_length_le (by rw [HS.out]; omega)] at HF1
      have HF2 := Aside0.mk HF1
      clear HF HF1
      go_wp2
      go_ret
      exact ⟨by rw [HF2.out]; rfl, rfl⟩
end Go.Proofs.YtgabpbnndikheaaDoor
