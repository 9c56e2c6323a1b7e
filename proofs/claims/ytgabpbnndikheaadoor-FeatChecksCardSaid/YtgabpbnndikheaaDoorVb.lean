import Derived.Test.YtgabpbnndikheaaDoorVa
set_option linter.constructorNameAsVariable false
namespace Go.Proofs.YtgabpbnndikheaaDoor
open Go.RowKit Go.Proofs.YtgabpbnndikheaaDoorW.PrintWords

/-- A value: api.Value. -/
structure Val where
  kind : Int
  n : Int
  s : ByteArray
  b : Bool
  deriving DecidableEq
def Val.v (x : Val) : Value := .agg #[.int .i64 x.kind, .int .i64 x.n, .string x.s, .bool x.b]

def ord (a b : Int) : Int := if a < b then -1 else if b < a then 1 else 0

set_option maxRecDepth 100000 in
theorem cmpInt_any (a b : Int) (w : World) :
    Calls Tryd.prog 36 #[.int .i64 a, .int .i64 b] w fun e w' => e = .returned (.int .i64 (ord a b)) ∧ w = w' := by
  unfold ord
  by_cases h1 : a < b
  · rw [if_pos h1]
    go_enter Tryd.func36, Tryd.ntmps36
    go_wp2
    go_ret
    exact ⟨rfl, rfl⟩
  · rw [if_neg h1]
    by_cases h2 : b < a
    · rw [if_pos h2]
      go_enter Tryd.func36, Tryd.ntmps36
      go_wp2
      go_ret
      exact ⟨rfl, rfl⟩
    · rw [if_neg h2]
      go_enter Tryd.func36, Tryd.ntmps36
      go_wp2
      go_ret
      exact ⟨rfl, rfl⟩

def firstNZ : List Int → Int
  | [] => 0
  | x :: xs => if x = 0 then firstNZ xs else x

set_option maxHeartbeats 1000000 in
set_option maxRecDepth 100000 in
theorem or_any (A : Option Addr) (n c : Nat) (xs : List Int) (w : World) (hn : n = xs.length) (hr : (Kd.int .i64).C w A n xs) :
    Calls Tryd.prog 35 #[.slice A n c] w fun e w' => e = .returned (.int .i64 (firstNZ xs)) ∧ w = w' := by
  subst hn
  have hm := hr.2.1
  have HR := Aside0.mk hr
  clear hr
  go_enter Tryd.func35, Tryd.ntmps35
  go_wp2
  go_loop [8] (fun i => ∃ k : Nat, k ≤ xs.length ∧ i = .int .i64 k ∧ Aside0 (firstNZ xs = firstNZ (xs.drop k))) (fun i => xs.length - (intOf i).toNat)
  case atStart => exact ⟨0, Nat.zero_le _, rfl, ⟨rfl⟩⟩
  case round =>
    obtain ⟨k, hk, rfl, HF⟩ := hrel
    by_cases hlt : k < xs.length
    · obtain ⟨ad, rfl, hc⟩ := C1_at HR.out hlt
      have hd : decide ((k : Int) < xs.length) = true := by simp; omega
      have HF1 := HF.out
      rw [List.drop_eq_getElem_cons hlt, firstNZ] at HF1
      generalize xs[k] = y at *
      by_cases hy : y = 0
      · rw [if_pos hy] at HF1
        have HF2 := Aside0.mk HF1
        have hb : (y != 0) = false := by simp [hy]
        clear HF HF1 hy
        go_wp2
        go_round
        case rel => exact ⟨k + 1, by omega, by go_num, HF2⟩
        case measure => simp [intOf]; omega
      · rw [if_neg hy] at HF1
        have HF2 := Aside0.mk HF1
        have hb : (y != 0) = true := by simp [hy]
        clear HF HF1 hy
        go_wp2
        go_ret
        exact ⟨by rw [HF2.out]; rfl, rfl⟩
    · have hd : decide ((k : Int) < xs.length) = false := by simp; omega
      have HF1 := HF.out
      rw [List.drop_of_length_le (by omega)] at HF1
      have HF2 := Aside0.mk HF1
      clear HF HF1
      go_wp2
      go_ret
      exact ⟨by rw [HF2.out]; rfl, rfl⟩
end Go.Proofs.YtgabpbnndikheaaDoor
