import Derived.Test.YtjgiibfejfkocaaGreatDoorBr4
import Derived.Below
import Derived.IntWalk
import Derived.Laws.BitsAllLaws
import Derived.Laws.BitsLemmas
import Derived.OpenShut
import Derived.Test.YtjgiibfejfkocaaGreatDoorRows
import Derived.Lib.LaidU8
namespace Go.Proofs.YtjgiibfejfkocaaGreatDoor
open Go.RowKit

/-- An integer's number as it is written: 7 bits a byte, the lowest first. -/
def varint (u : Nat) : List UInt8 := if h : u < 128 then [UInt8.ofNat u] else UInt8.ofNat (u % 128 + 128) :: varint (u / 128)
termination_by u
decreasing_by omega

theorem varint_lt {u : Nat} (h : u < 128) : varint u = [UInt8.ofNat u] := by rw [varint, dif_pos h]
theorem varint_ge {u : Nat} (h : 128 ≤ u) : varint u = UInt8.ofNat (u % 128 + 128) :: varint (u / 128) := by rw [varint, dif_neg (by omega)]
theorem varint_len (k u : Nat) (h : u < 128 ^ (k + 1)) : (varint u).length ≤ k + 1 := by
  induction k generalizing u with
  | zero => rw [varint_lt (by omega)]; simp
  | succ k ih =>
    by_cases hu : u < 128
    · rw [varint_lt hu]; simp
    · rw [varint_ge (by omega)]
      have := ih (u / 128) (by rw [Nat.div_lt_iff_lt_mul (by omega)]; rw [Nat.pow_succ] at h; exact h)
      simp; omega

/-- Signed numbers alternate: 0, -1, 1, -2, 2 .. -/
def zig (n : Int) : Nat := if n < 0 then (-2 * n - 1).toNat else (2 * n).toNat
theorem zig_lt {n : Int} (h0 : -9223372036854775808 ≤ n) (h1 : n ≤ 9223372036854775807) : zig n < 18446744073709551616 := by
  unfold zig; split <;> omega
theorem zig_len {n : Int} (h0 : -9223372036854775808 ≤ n) (h1 : n ≤ 9223372036854775807) : (varint (zig n)).length ≤ 10 :=
  varint_len 9 _ (by have := zig_lt h0 h1; omega)

theorem u64_xor_all (a : Nat) (ha : a < 18446744073709551616) : a ^^^ 18446744073709551615 = 18446744073709551615 - a := by
  have h := congrArg BitVec.toNat (BitVec.xor_allOnes (x := BitVec.ofNat 64 a))
  simp only [BitVec.toNat_xor, BitVec.toNat_not, BitVec.toNat_ofNat, BitVec.toNat_allOnes] at h
  rw [Nat.mod_eq_of_lt (by omega)] at h
  omega
theorem zig_bits {n : Int} (h0 : -9223372036854775808 ≤ n) (h1 : n ≤ 9223372036854775807) :
    bits BinOp.xor IntKind.u64 (IntKind.u64.wrap (IntKind.u64.wrap n * 2)) (IntKind.u64.wrap (n / 9223372036854775808)) = (zig n : Int) := by
  have e1 : ∀ x : Int, IntKind.u64.wrap x = x % 18446744073709551616 := fun x => by simp [IntKind.wrap, IntKind.bits, IntKind.signed]
  simp only [e1]
  rw [u64_xor _ _ (by omega) (by omega) (by omega) (by omega)]
  unfold zig
  split
  · rename_i h
    have e : (n / 9223372036854775808 % 18446744073709551616).toNat = 18446744073709551615 := by omega
    rw [e, u64_xor_all _ (by omega)]
    omega
  · rename_i h
    have e : (n / 9223372036854775808 % 18446744073709551616).toNat = 0 := by omega
    rw [e, Nat.xor_zero]
    omega
theorem zig_not {n : Int} (h0 : -9223372036854775808 ≤ n) (h : n < 0) :
    bits BinOp.xor IntKind.u64 IntKind.u64.max (IntKind.u64.wrap (IntKind.u64.wrap n * 2)) = (zig n : Int) := by
  have e1 : ∀ x : Int, IntKind.u64.wrap x = x % 18446744073709551616 := fun x => by simp [IntKind.wrap, IntKind.bits, IntKind.signed]
  have e2 : IntKind.u64.max = 18446744073709551615 := by decide +kernel
  simp only [e1, e2]
  rw [u64_xor _ _ (by omega) (by omega) (by omega) (by omega), Nat.xor_comm]
  unfold zig
  rw [if_pos h, show (18446744073709551615 : Int).toNat = 18446744073709551615 from rfl, u64_xor_all _ (by omega)]
  omega
theorem zig_pos {n : Int} (h : ¬ n < 0) : n * 2 = (zig n : Int) := by unfold zig; rw [if_neg h]; omega
theorem varint_pos (u : Nat) : 1 ≤ (varint u).length := by
  by_cases h : u < 128
  · rw [varint_lt h]; simp
  · rw [varint_ge (by omega)]; simp
theorem u8_or128' (u : Nat) : bits .or .u8 ((u : Int) % 256) 128 = ((UInt8.ofNat (u % 128 + 128)).toNat : Int) := by
  have e : ((u : Int) % 256) = ((u % 256 : Nat) : Int) := by omega
  rw [e]
  have h := u8_or_nat (u % 256) 128 (by omega) (by omega)
  rw [show ((128 : Nat) : Int) = 128 from rfl] at h
  rw [h]
  congr 1
  have h2 : ∀ a, a < 256 → a ||| 128 = a % 128 + 128 := by decide +kernel
  rw [h2 _ (by omega), UInt8.toNat_ofNat']
  omega

theorem ba_app (a b : List UInt8) : (⟨a.toArray⟩ : ByteArray) ++ (⟨b.toArray⟩ : ByteArray) = ⟨(a ++ b).toArray⟩ := by
  apply ByteArray.ext
  simp [ByteArray.data_append]
/-- What is read: the number, how many bytes it has, an error's number. -/
def getU : Nat → Nat → List UInt8 → Nat × Nat × Nat
  | _, _, [] => (0, 0, 14)
  | i, u, c :: cs => if i = 9 ∧ 1 < c.toNat then (0, 0, 2) else if 128 ≤ c.toNat then getU (i + 1) (u + c.toNat % 128 * 2 ^ (7 * i)) cs
    else if 0 < i ∧ c.toNat = 0 then (0, 0, 3) else (u + c.toNat % 128 * 2 ^ (7 * i), i + 1, 0)
def unzig (u : Nat) : Int := if u % 2 = 1 then -((u / 2 : Nat) : Int) - 1 else ((u / 2 : Nat) : Int)

theorem getU_step {k v b : Nat} (hk : k ≤ 9) (hv : v < 2 ^ (7 * k)) (h9 : k < 9 ∨ b ≤ 1) :
    IntKind.u64.wrap ((v : Int) + IntKind.u64.wrap ((b : Int) % 128 * 2 ^ (k * 7))) = ((v + b % 128 * 2 ^ (7 * k) : Nat) : Int) ∧ v + b % 128 * 2 ^ (7 * k) < 2 ^ (7 * (k + 1)) ∧ v + b % 128 * 2 ^ (7 * k) < 18446744073709551616 := by
  have e1 : ∀ x : Int, IntKind.u64.wrap x = x % 18446744073709551616 := fun x => by simp [IntKind.wrap, IntKind.bits, IntKind.signed]
  rw [e1, e1]
  have : k = 0 ∨ k = 1 ∨ k = 2 ∨ k = 3 ∨ k = 4 ∨ k = 5 ∨ k = 6 ∨ k = 7 ∨ k = 8 ∨ k = 9 := by omega
  rcases this with rfl | rfl | rfl | rfl | rfl | rfl | rfl | rfl | rfl | rfl <;> simp only [Nat.reduceMul, Nat.reduceAdd, Nat.reducePow, Int.reducePow] at * <;> omega

theorem getO_step {k v b : Nat} (hk : k ≤ 9) (hv : v < 2 ^ (7 * k)) (hb : b < 256) (h9 : k < 9 ∨ b ≤ 1) :
    bits BinOp.or IntKind.u64 (v : Int) (IntKind.u64.wrap (IntKind.u64.wrap (bits BinOp.and IntKind.u8 (b : Int) 127) * 2 ^ (7 * k))) = ((v + b % 128 * 2 ^ (7 * k) : Nat) : Int) := by
  have e1 : ∀ x : Int, IntKind.u64.wrap x = x % 18446744073709551616 := fun x => by simp [IntKind.wrap, IntKind.bits, IntKind.signed]
  have e2 : bits BinOp.and IntKind.u8 (b : Int) 127 = ((b % 128 : Nat) : Int) := by
    have := u8_and_nat b 127 hb (by omega)
    rw [nat_mask7] at this
    exact this
  rw [e2, e1, e1]
  have hp : ((b % 128 : Nat) : Int) % 18446744073709551616 * 2 ^ (7 * k) % 18446744073709551616 = ((b % 128 * 2 ^ (7 * k) : Nat) : Int) ∧ b % 128 * 2 ^ (7 * k) < 18446744073709551616 ∧ v < 18446744073709551616 := by
    have : k = 0 ∨ k = 1 ∨ k = 2 ∨ k = 3 ∨ k = 4 ∨ k = 5 ∨ k = 6 ∨ k = 7 ∨ k = 8 ∨ k = 9 := by omega
    rcases this with rfl | rfl | rfl | rfl | rfl | rfl | rfl | rfl | rfl | rfl <;> simp only [Nat.reduceMul, Nat.reduceAdd, Nat.reducePow, Int.reducePow] at * <;> omega
  rw [hp.1, u64_or_nat _ _ hp.2.2 hp.2.1, Nat.or_comm, nat_join (7 * k) _ _ (Nat.mul_mod_left _ _) hv]
  congr 1
  omega
theorem i64_xor_m1 {x : Int} (h0 : -9223372036854775808 ≤ x) (h1 : x ≤ 9223372036854775807) : bits BinOp.xor IntKind.i64 x (-1) = -x - 1 := by
  show IntKind.i64.wrap ((BitVec.ofInt 64 x ^^^ BitVec.ofInt 64 (-1)).toNat : Int) = _
  rw [show BitVec.ofInt 64 (-1) = BitVec.allOnes 64 from by decide, BitVec.xor_allOnes, BitVec.toNat_not, BitVec.toNat_ofInt, IntKind.wrap_i64]
  omega
theorem i64_xor_0 {x : Int} (h0 : -9223372036854775808 ≤ x) (h1 : x ≤ 9223372036854775807) : bits BinOp.xor IntKind.i64 x 0 = x := by
  show IntKind.i64.wrap ((BitVec.ofInt 64 x ^^^ BitVec.ofInt 64 0).toNat : Int) = _
  rw [show BitVec.ofInt 64 0 = 0#64 from by decide, BitVec.xor_zero, BitVec.toNat_ofInt, IntKind.wrap_i64]
  omega
theorem u64_and1 {q : Nat} (hq : q < 18446744073709551616) : bits BinOp.and IntKind.u64 (q : Int) 1 = ((q % 2 : Nat) : Int) := by
  have := u64_and_nat q 1 hq (by omega)
  rw [nat_mask1] at this
  exact this
theorem unzig_xor {q : Nat} (hq : q < 18446744073709551616) : bits BinOp.xor IntKind.i64 (wrap64 ((q : Int) / 2)) (-((q : Int) % 2)) = unzig q := by
  have e : wrap64 ((q : Int) / 2) = ((q / 2 : Nat) : Int) := by unfold wrap64; omega
  rw [e]
  unfold unzig
  by_cases h : q % 2 = 1
  · rw [if_pos h, show (-((q : Int) % 2)) = -1 by omega, i64_xor_m1 (by omega) (by omega)]
  · rw [if_neg h, show (-((q : Int) % 2)) = 0 by omega, i64_xor_0 (by omega) (by omega)]
/-- The checksum. -/
def fnvStep (h : Nat) (c : UInt8) : Nat := ((h ^^^ c.toNat) * 16777619) % 4294967296
def fnv (bs : List UInt8) : Nat := bs.foldl fnvStep 2166136261
theorem fnv32 (h : Nat) (c : UInt8) (hh : h < 4294967296) : bits .xor .u32 (h : Int) (c.toNat : Int) * 16777619 % 4294967296 = (fnvStep h c : Int) := by
  rw [u32_xor_nat h c.toNat hh (by have := c.toNat_lt; omega)]
  unfold fnvStep; omega
theorem fnv64 (h : Nat) (c : UInt8) (hh : h < 4294967296) : (IntKind.u64.wrap (bits .xor .u64 (h : Int) (c.toNat : Int) * 16777619)).tmod 4294967296 = (fnvStep h c : Int) := by
  have e1 : ∀ x : Int, IntKind.u64.wrap x = x % 18446744073709551616 := fun x => by simp [IntKind.wrap, IntKind.bits, IntKind.signed]
  rw [u64_xor_nat h c.toNat (by omega) (by have := c.toNat_lt; omega), e1, Int.tmod_eq_emod_of_nonneg (by omega)]
  unfold fnvStep; omega

theorem getU_varint : ∀ (u i v : Nat) (rest : List UInt8), u * 2 ^ (7 * i) < 18446744073709551616 → i ≤ 9 → (0 < i → 0 < u) → getU i v (varint u ++ rest) = (v + u * 2 ^ (7 * i), i + (varint u).length, 0) := by
  intro u
  induction u using Nat.strongRecOn with
  | _ u ih =>
    intro i v rest hu hi h0
    have h9 : i = 9 → u < 2 := by
      rintro rfl
      simp only [Nat.reduceMul, Nat.reducePow] at hu
      omega
    by_cases h : u < 128
    · have e1 : (UInt8.ofNat u).toNat = u := by rw [UInt8.toNat_ofNat']; omega
      rw [varint_lt h]
      simp only [List.cons_append, List.nil_append, getU, e1]
      rw [if_neg (by omega), if_neg (by omega), if_neg (by omega), Nat.mod_eq_of_lt h]
      rfl
    · have e1 : (UInt8.ofNat (u % 128 + 128)).toNat = u % 128 + 128 := by rw [UInt8.toNat_ofNat']; omega
      rw [varint_ge (by omega)]
      simp only [List.cons_append, getU, e1]
      have e2 : (u % 128 + 128) % 128 = u % 128 := by omega
      have e3 : 2 ^ (7 * (i + 1)) = 2 ^ (7 * i) * 128 := by rw [Nat.mul_add, Nat.pow_add]
      have e4 : u * 2 ^ (7 * i) = u % 128 * 2 ^ (7 * i) + u / 128 * (2 ^ (7 * i) * 128) := by
        have hq : u = u % 128 + u / 128 * 128 := by omega
        have hz : (u % 128 + u / 128 * 128) * 2 ^ (7 * i) = u % 128 * 2 ^ (7 * i) + u / 128 * (2 ^ (7 * i) * 128) := by
          rw [Nat.add_mul, Nat.mul_assoc, Nat.mul_comm 128]
        rw [← hz, ← hq]
      rw [if_neg (by omega), if_pos (by omega), e2, ih (u / 128) (by omega) (i + 1) _ rest (by rw [e3]; omega) (by omega) (by omega), e3, e4]
      simp only [List.length_cons]
      congr 1
      · omega
      · congr 1
        omega
theorem unzig_zig {n : Int} : unzig (zig n) = n := by
  unfold unzig zig
  split <;> split <;> omega
theorem get_varint {n : Int} (h0 : -9223372036854775808 ≤ n) (h1 : n ≤ 9223372036854775807) (rest : List UInt8) : getU 0 0 (varint (zig n) ++ rest) = (zig n, (varint (zig n)).length, 0) := by
  have := getU_varint (zig n) 0 0 rest (by have := zig_lt h0 h1; omega) (by omega) (by omega)
  simpa using this
def encAll (xs : List Int) : List UInt8 := xs.flatMap fun x => varint (zig x)
theorem encAll_len (xs : List Int) (h : ∀ x ∈ xs, -9223372036854775808 ≤ x ∧ x ≤ 9223372036854775807) : (encAll xs).length ≤ 10 * xs.length := by
  induction xs with
  | nil => simp [encAll]
  | cons x xs ih =>
    have h1 := ih fun y hy => h y (by simp [hy])
    have h2 := zig_len (h x (by simp)).1 (h x (by simp)).2
    simp only [encAll, List.flatMap_cons, List.length_append, List.length_cons] at *
    omega
end Go.Proofs.YtjgiibfejfkocaaGreatDoor

namespace Go.Proofs.YtjgiibfejfkocaaGreatDoor.I
open Go.RowKit
set_option linter.unusedVariables false
set_option linter.constructorNameAsVariable false
def vpre (u : Nat) : List UInt8 := if h : u < 128 then [] else UInt8.ofNat (u % 128 + 128) :: vpre (u / 128)
def vlast (u : Nat) : Nat := if h : u < 128 then u else vlast (u / 128)
theorem varint_split (u : Nat) : varint u = vpre u ++ [UInt8.ofNat (vlast u)] := by
  induction u using Nat.strongRecOn with
  | _ u ih =>
    by_cases h : u < 128
    · rw [varint_lt h, vpre, dif_pos h, vlast, dif_pos h]; rfl
    · rw [varint_ge (by omega), vpre, dif_neg h, vlast, dif_neg h, ih (u / 128) (by omega)]; rfl
theorem vlast_lt (u : Nat) : vlast u < 128 := by
  induction u using Nat.strongRecOn with
  | _ u ih =>
    rw [vlast]
    split
    · assumption
    · exact ih _ (by omega)
theorem loop_var {D O σ : Type} {step : D → Option (D ⊕ O)} (emb : Int → σ → D) (push : σ → UInt8 → σ) (ok : σ → Nat → Prop) (out : Int → σ → O)
    (hge : ∀ (m : Nat) s, 128 ≤ m → m < 18446744073709551616 → ok s m → step (emb m s) = some (.inl (emb ((m / 128 : Nat) : Int) (push s (UInt8.ofNat (m % 128 + 128))))) ∧ ok (push s (UInt8.ofNat (m % 128 + 128))) (m / 128))
    (hlt : ∀ (m : Nat) s, m < 128 → ok s m → step (emb m s) = some (.inr (out m s))) : ∀ (m : Nat) (s : σ), m < 18446744073709551616 → ok s m → loop step (emb m s) = some (out (vlast m : Int) ((vpre m).foldl push s)) := by
  intro m
  induction m using Nat.strongRecOn with
  | _ m ih =>
    intro s hm hok
    by_cases h : m < 128
    · rw [loop_eq, hlt m s h hok, vpre, dif_pos h, vlast, dif_pos h]; rfl
    · obtain ⟨h1, h2⟩ := hge m s (by omega) hm hok
      rw [loop_eq, h1, vpre, dif_neg h, vlast, dif_neg h]
      exact ih (m / 128) (by omega) _ (by omega) h2
theorem fold_list (l : List UInt8) (p : List Int) : l.foldl (fun (s : List Int) b => s ++ [(b.toNat : Int)]) p = p ++ toI l := by
  induction l generalizing p with
  | nil => simp [toI]
  | cons b l ih =>
    simp only [List.foldl_cons]
    rw [ih]
    simp [toI]
theorem wu8 (x : Int) : IntKind.wrap .u8 x = x % 256 := by simp [IntKind.wrap, IntKind.bits, IntKind.signed]
theorem mkStr1_size (x : Int) : (mkStr [x]).size = 1 := rfl
theorem wu64 (x : Int) : IntKind.wrap .u64 x = x % 18446744073709551616 := by simp [IntKind.wrap, IntKind.bits, IntKind.signed]
theorem byteA (m : Nat) : IntKind.wrap .u8 (IntKind.wrap .u64 (Int.tmod (m : Int) 128 + 128)) = ((UInt8.ofNat (m % 128 + 128)).toNat : Int) := by
  rw [wu8, wu64, Int.tmod_eq_emod_of_nonneg (by omega), UInt8.toNat_ofNat']
  omega
theorem divA (m : Nat) (h : m < 18446744073709551616) : IntKind.wrap .u64 (Int.tdiv (m : Int) 128) = ((m / 128 : Nat) : Int) := by
  rw [wu64, Int.tdiv_eq_ediv_of_nonneg (by omega)]
  omega
theorem byteL (m : Nat) (h : m < 128) : IntKind.wrap .u8 (m : Int) = ((UInt8.ofNat m).toNat : Int) := by
  rw [wu8, UInt8.toNat_ofNat']
  omega
theorem byteO (m : Nat) (h : m < 18446744073709551616) : IntKind.wrap .u8 (((BitVec.ofInt 8 (IntKind.wrap .u8 (m : Int)) ||| BitVec.ofInt 8 128).toNat : Nat) : Int) = ((UInt8.ofNat (m % 128 + 128)).toNat : Int) := by
  have := u8_or128' m
  rw [← wu8] at this
  exact this
theorem divF (m : Nat) : Int.fdiv (m : Int) 128 = ((m / 128 : Nat) : Int) := by
  rw [Int.fdiv_eq_ediv_of_nonneg _ (by omega)]
  omega
theorem str_push (p : List UInt8) (b : UInt8) : (ByteArray.mk p.toArray ++ mkStr [(b.toNat : Int)]) = ⟨(p ++ [b]).toArray⟩ := by
  rw [show mkStr [(b.toNat : Int)] = ⟨[b].toArray⟩ from mkStr_toI [b], ba_app]
set_option maxHeartbeats 1000000 in
/-- A number's bytes in the reference. -/
theorem r63_eq (n : Int) (h0 : -9223372036854775808 ≤ n) (h1 : n ≤ 9223372036854775807) : r14 (n, ()) = some (⟨(varint (zig n)).toArray⟩, ()) := by
  have hz := zig_lt h0 h1
  have hl := zig_len h0 h1
  unfold r14
  have hneg : n < 0 → IntKind.wrap IntKind.u64 ((((BitVec.ofInt 64 18446744073709551615) ^^^ (BitVec.ofInt 64 (IntKind.wrap IntKind.u64 (IntKind.wrap IntKind.u64 n * 2)))).toNat : Nat) : Int) = (zig n : Int) := fun h => by
    have := zig_not h0 h
    have e2 : IntKind.u64.max = 18446744073709551615 := by decide +kernel
    rw [e2] at this
    exact this
  have hpos : ¬ n < 0 → IntKind.wrap IntKind.u64 (IntKind.wrap IntKind.u64 n * 2) = (zig n : Int) := fun h => by
    rw [wu64, wu64]
    have := zig_pos h
    omega
  have H : ∀ (step : (ByteArray × Int × Unit) × Unit → Option (((ByteArray × Int × Unit) × Unit) ⊕ (((ByteArray × Int × Unit) × Unit) ⊕ Empty))) (fin : (((ByteArray × Int × Unit) × Unit) ⊕ Empty) → Option (ByteArray × Unit)),
      (∀ s (u : Int), step ((s, (u, ())), ()) = cond (decide (127 < u)) (cond (decide (9223372036854775807 < s.size + (mkStr [IntKind.wrap .u8 (IntKind.wrap .u64 (Int.tmod u 128 + 128))]).size)) none (some (Sum.inl ((s ++ mkStr [IntKind.wrap .u8 (IntKind.wrap .u64 (Int.tmod u 128 + 128))], (IntKind.wrap .u64 (Int.tdiv u 128), ())), ())))) (some (Sum.inr (Sum.inl ((s, (u, ())), ()))))) →
      (∀ s (u : Int), fin (Sum.inl ((s, (u, ())), ())) = cond (decide (9223372036854775807 < s.size + (mkStr [IntKind.wrap .u8 u]).size)) none (some (s ++ mkStr [IntKind.wrap .u8 u], ()))) →
      Option.bind (loop step ((ByteArray.mk (List.toArray []), ((zig n : Int), ())), ())) fin = some (⟨(varint (zig n)).toArray⟩, ()) := by
    intro step fin hs hf
    have hloop := loop_var (step := step) (fun i (s : List UInt8) => ((ByteArray.mk s.toArray, (i, ())), ())) (fun s b => s ++ [b]) (fun s m => s.length + (varint m).length ≤ 100) (fun i s => Sum.inl ((ByteArray.mk s.toArray, (i, ())), ())) (fun m s hm hm2 hok => ?_) (fun m s hm hok => ?_) (zig n) [] hz (by simp; omega)
    · have hloop' : loop step ((ByteArray.mk (List.toArray []), ((zig n : Int), ())), ()) = _ := hloop
      rw [hloop', Option.bind_some, hf]
      have hfold : ∀ (l p : List UInt8), l.foldl (fun (s : List UInt8) b => s ++ [b]) p = p ++ l := by
        intro l
        induction l with
        | nil => intro p; simp
        | cons b l ih => intro p; simp [List.foldl_cons, ih]
      rw [hfold, List.nil_append, byteL _ (vlast_lt _), str_push, ← varint_split]
      have hsz : decide (9223372036854775807 < (ByteArray.mk (vpre (zig n)).toArray).size + (mkStr [((UInt8.ofNat (vlast (zig n))).toNat : Int)]).size) = false := by
        rw [size_mk, mkStr1_size]
        have := congrArg List.length (varint_split (zig n))
        simp at this
        simp; omega
      rw [hsz]
      rfl
    · have hd : decide ((127 : Int) < (m : Int)) = true := by simp; omega
      have hv := varint_ge hm
      rw [hs, hd, byteA, divA m hm2, str_push]
      have hsz : decide (9223372036854775807 < (ByteArray.mk s.toArray).size + (mkStr [((UInt8.ofNat (m % 128 + 128)).toNat : Int)]).size) = false := by
        rw [size_mk, mkStr1_size]
        simp; omega
      rw [hsz]
      refine ⟨rfl, ?_⟩
      rw [hv] at hok
      simp at hok ⊢
      omega
    · have hd : decide ((127 : Int) < (m : Int)) = false := by simp; omega
      rw [hs, hd]
      rfl
  by_cases h : n < 0
  · simp only [decide_eq_true h, cond_true, hneg h]
    exact H _ _ (fun s u => rfl) (fun s u => rfl)
  · simp only [decide_eq_false h, cond_false, hpos h]
    exact H _ _ (fun s u => rfl) (fun s u => rfl)
def encI (ns : List Int) : List Int := toI (encAll ns)
def inRange (ns : List Int) : Prop := ∀ x ∈ ns, -9223372036854775808 ≤ x ∧ x ≤ 9223372036854775807
theorem enc_cons (n : Int) (ns : List Int) : encI (n :: ns) = toI (varint (zig n)) ++ encI ns := by
  unfold encI encAll
  rw [List.flatMap_cons, toI_app]
set_option maxHeartbeats 1000000 in
/-- Numbers written behind each other. -/
theorem r59_eq (ns d : List Int) (hr : inRange ns) (hlen : d.length + 10 * ns.length ≤ 140737488355328) : r32 (ns, ()) (d, ()) = some ((), (d ++ encI ns, ())) := by
  unfold r32
  have hnl : ns.length ≤ 9223372036854775807 := by omega
  have hfold : ∀ (ms : List Int) (b : List Int), ms.foldl (fun b n => b ++ toI (varint (zig n))) b = b ++ encI ms := by
    intro ms
    induction ms with
    | nil => intro b; simp [encI, encAll, toI]
    | cons n ms ih => intro b; rw [List.foldl_cons, ih, enc_cons, List.append_assoc]
  rw [(loop_fold (fun i (b : List Int) => ((i, (b, ())), ())) (fun b n => b ++ toI (varint (zig n))) (fun i b => b.length ≤ d.length + 10 * i) (fun b => Sum.inl ((b, ()), ())) ns (fun i n b h hI => ?_) (fun _ _ => ?_) d (by omega)).1]
  · rw [hfold]
    rfl
  · have hlt := lt_of_get h
    obtain ⟨g0, g1⟩ := hr n (List.mem_of_getElem? h)
    have hz := zig_lt g0 g1
    have hl := zig_len g0 g1
    have hzb : IntKind.wrap IntKind.u64 (((BitVec.ofInt 64 (IntKind.wrap IntKind.u64 (IntKind.wrap IntKind.u64 n * 2)) ^^^ BitVec.ofInt 64 (IntKind.wrap IntKind.u64 (Int.fdiv n 9223372036854775808))).toNat : Nat) : Int) = (zig n : Int) := by
      rw [Int.fdiv_eq_ediv_of_nonneg _ (by omega)]
      exact zig_bits g0 g1
    simp only [dec_lt hlt, inB_lt hlt, Int.toNat_natCast, h, cond_true, Option.bind_some, hzb]
    rw [wrapS hlt hnl]
    have hfit : ∀ k : Nat, k ≤ 140737488355328 → fits k 1 = true := fun k hk => by unfold fits; simp; omega
    have hsp := congrArg List.length (varint_split (zig n))
    rw [List.length_append, List.length_singleton] at hsp
    rw [loop_var (fun i (b : List Int) => ((i, (b, ())), ())) (fun b x => b ++ [(x.toNat : Int)]) (fun b m => b.length + (varint m).length ≤ 140737488355328) (fun i b => Sum.inl ((i, (b, ())), ())) (fun m b hm hm2 hok => ?_) (fun m b hm hok => ?_) (zig n) b hz (by omega)]
    · rw [fold_list]
      simp only [Option.bind_some, sumE, List.length_cons, List.length_nil, byteL _ (vlast_lt _)]
      rw [hfit _ (by rw [List.length_append, toI_len]; omega)]
      refine ⟨?_, ?_⟩
      · simp only [cond_true]
        rw [varint_split (zig n), toI_app, ← List.append_assoc]
        rfl
      · rw [List.length_append, toI_len]; omega
    · have hd : decide ((128 : Int) ≤ (m : Int)) = true := by simp; omega
      have hv := varint_ge hm
      rw [hv] at hok
      rw [List.length_cons] at hok
      simp only [hd, cond_true, byteO m hm2, divF, List.length_cons, List.length_nil]
      rw [hfit _ (by omega)]
      exact ⟨rfl, by rw [List.length_append]; simp; omega⟩
    · have hd : decide ((128 : Int) ≤ (m : Int)) = false := by simp; omega
      simp only [hd, cond_false]
  · simp only [dec_nlt, cond_false]
theorem encI_len (ns : List Int) (hr : inRange ns) : (encI ns).length ≤ 10 * ns.length := by
  unfold encI
  rw [toI_len]
  exact encAll_len ns hr
/-- A text written behind its length. -/
theorem r96_eq (s : ByteArray) (d : List Int) (hs : s.size ≤ 1000000) (hlen : d.length + 1000020 ≤ 140737488355328) : r41 (s, ()) (d, ()) = some ((), (d ++ encI [(s.size : Int)] ++ bytesOf s, ())) := by
  unfold r41
  have hin : inRange [(s.size : Int)] := fun x hx => by simp at hx; omega
  rw [r59_eq [(s.size : Int)] d hin (by simp; omega)]
  simp only [Option.bind_some]
  have hl := encI_len [(s.size : Int)] hin
  have hb : (bytesOf s).length = s.size := by unfold bytesOf; rw [List.length_map, ← bytes_len]
  have hf : fits ((d ++ encI [(s.size : Int)]).length + (bytesOf s).length) 1 = true := by
    unfold fits
    rw [List.length_append, hb]
    simp at hl ⊢; omega
  rw [hf]
  rfl
end Go.Proofs.YtjgiibfejfkocaaGreatDoor.I

namespace Go.Proofs.YtjgiibfejfkocaaGreatDoor.I
open Go.RowKit
set_option linter.unusedVariables false
set_option linter.constructorNameAsVariable false
theorem ring_len (p : List DPt) (hp : p.length ≤ 200) (h : r43 (p, ()) = some (0, ())) : 3 ≤ p.length := by
  rcases Nat.lt_or_ge p.length 3 with h3 | h3
  · exfalso
    unfold r43 at h
    have e1 : decide ((200 : Int) < (p.length : Int)) = false := decide_eq_false (by omega)
    have e2 : decide ((p.length : Int) < 3) = true := decide_eq_true (by omega)
    simp only [e1, e2, cond_false, cond_true] at h
    cases h
  · exact h3
theorem area_len (l : List (List DPt)) (hl : l.length ≤ 20) (hp : ∀ p ∈ l, p.length ≤ 200) (h : r36 (l, ()) = some (0, ())) : ∀ p ∈ l, 3 ≤ p.length := by
  unfold r36 at h
  have e1 : decide ((20 : Int) < (l.length : Int)) = false := decide_eq_false (by omega)
  simp only [e1, cond_false] at h
  obtain ⟨o, h1, h2⟩ := Option.bind_eq_some_iff.1 h
  have hP := loop_post embI l.length (fun i _ => ∀ p ∈ l.take i, 3 ≤ p.length) (fun o => (∃ e, o = Sum.inl ((e, ()), ()) ∧ e ≠ 0) ∨ (o = Sum.inr (Sum.inl ((), ())) ∧ ∀ p ∈ l, 3 ≤ p.length)) () h1 (fun i s hi hs => ?_) (fun s hs => ?_) (by simp)
  · rcases hP with ⟨e, rfl, he⟩ | ⟨rfl, hall⟩
    · simp only [sumE, Option.some.injEq, Prod.mk.injEq] at h2
      exact absurd h2.1 he
    · exact hall
  · obtain ⟨p, hq⟩ := get_lt hi
    have hpl := hp p (List.mem_of_getElem? hq)
    obtain ⟨⟨e, ⟨⟩⟩, he⟩ := t88 p (by omega)
    simp only [embI, dec_lt hi, inB_lt hi, Int.toNat_natCast, hq, cond_true, Option.bind_some, he]
    by_cases hz : e = 0
    · subst hz
      refine .inl ⟨(), ?_, ?_⟩
      · simp only [decide_true, Bool.not_true, cond_false]
        rw [wrapS hi (by omega)]
      · intro q hqm
        rw [take_succ hq] at hqm
        rcases List.mem_append.1 hqm with h5 | h5
        · exact hs q h5
        · rw [List.mem_singleton.1 h5]
          exact ring_len p hpl he
    · refine .inr ⟨_, ?_, .inl ⟨e, rfl, hz⟩⟩
      simp only [decide_eq_false hz, Bool.not_false, cond_true]
  · rw [List.take_length] at hs
    refine ⟨_, ?_, .inr ⟨rfl, hs⟩⟩
    simp only [embI, dec_nlt, cond_false]
/-- A valid feature's parts. -/
structure PartsOk (f : DFea) : Prop where
  kind : 1 ≤ f.2.1 ∧ f.2.1 ≤ 3
  parts : f.2.2.1.length ≤ 20
  pts : ∀ p ∈ f.2.2.1, p.length ≤ 200
  inp : ∀ p ∈ f.2.2.1, ∀ q ∈ p, (-1048576 ≤ q.1 ∧ q.1 ≤ 1048576) ∧ (-1048576 ≤ q.2.1 ∧ q.2.1 ≤ 1048576)
  one : ∀ p ∈ f.2.2.1, p ≠ []
  some : f.2.2.1 ≠ []
theorem findSome_none {α : Type} {F : α → Int} : ∀ {l : List α}, l.findSome? (fun p => if F p = 0 then none else some (F p)) = none → ∀ p ∈ l, F p = 0
  | [], _, p, hp => by cases hp
  | a :: l, h, p, hp => by
    simp only [List.findSome?_cons] at h
    by_cases hz : F a = 0
    · simp only [hz, if_true] at h
      rcases List.mem_cons.1 hp with rfl | hp
      · exact hz
      · exact findSome_none h p hp
    · simp [hz] at h
theorem findSome_ne {α : Type} {F : α → Int} {e : Int} : ∀ {l : List α}, l.findSome? (fun p => if F p = 0 then none else some (F p)) = some e → e ≠ 0
  | [], h => by cases h
  | a :: l, h => by
    simp only [List.findSome?_cons] at h
    by_cases hz : F a = 0
    · simp only [hz, if_true] at h
      exact findSome_ne h
    · simp [hz] at h
      omega
theorem far_in {q : DPt} (h : far q = false) : (-1048576 ≤ q.1 ∧ q.1 ≤ 1048576) ∧ (-1048576 ≤ q.2.1 ∧ q.2.1 ≤ 1048576) := by
  unfold far at h
  simp only [Bool.or_eq_false_iff, decide_eq_false_iff_not] at h
  omega
theorem partE_zero {kind : Int} {p : List DPt} (h : partE kind p = 0) : (∀ q ∈ p, (-1048576 ≤ q.1 ∧ q.1 ≤ 1048576) ∧ (-1048576 ≤ q.2.1 ∧ q.2.1 ≤ 1048576)) ∧ (kind ≤ 2 → 1 ≤ kind → p ≠ []) := by
  unfold partE at h
  split at h
  · cases h
  · rename_i hf
    refine ⟨fun q hq => far_in ?_, fun h1 h2 => ?_⟩
    · cases hfq : far q with
      | false => rfl
      | true => exact absurd (List.any_eq_true.2 ⟨q, hq, hfq⟩) hf
    · rintro rfl
      split at h
      · simp at h
      · split at h
        · simp at h
        · omega
theorem partsV_ok {f : DFea} (hs : small kFea f) (h : partsV f.2.1 f.2.2.1 = 0) : PartsOk f := by
  have h1 := parts_some (kind := f.2.1) (fea_small hs).1
  rw [h] at h1
  unfold partsE at h1
  split at h1
  · cases h1
  split at h1
  · cases h1
  split at h1
  · cases h1
  split at h1
  · cases h1
  split at h1
  · cases h1
  rename_i k1 k2 k3 k4 k5
  have hpts : ∀ p ∈ f.2.2.1, p.length ≤ 200 := fun p hp => by
    rcases Nat.lt_or_ge 200 p.length with h | h
    · exact absurd (List.any_eq_true.2 ⟨p, hp, by simp; omega⟩) k4
    · exact h
  split at h1
  · rename_i e he
    injection h1 with h1
    injection h1 with h1
    exact absurd h1 (findSome_ne he)
  · rename_i hn
    have hz := findSome_none hn
    refine ⟨⟨by omega, by omega⟩, by omega, hpts, fun p hp => (partE_zero (hz p hp)).1, fun p hp => ?_, fun he => k5 (by rw [he]; rfl)⟩
    split at h1
    · rename_i k6
      unfold areaO at h1
      obtain ⟨⟨e, ⟨⟩⟩, h2, h3⟩ := Option.bind_eq_some_iff.1 h1
      injection h3 with h3
      injection h3 with h3
      simp only at h3
      subst h3
      have := area_len f.2.2.1 (by omega) hpts h2 p hp
      rintro rfl
      simp at this
    · exact (partE_zero (hz p hp)).2 (by omega) (by omega)
theorem featV_ok {f : DFea} (hs : small kFea f) (h : featV f = 0) : PartsOk f ∧ 1 ≤ f.1 ∧ f.1 ≤ 1073741824 ∧ attrsE false f.2.2.2.1 = 0 ∧ 0 ≤ f.2.2.2.2.1 ∧ f.2.2.2.2.1 < f.2.2.2.2.2.1 ∧ f.2.2.2.2.2.1 ≤ 1073741824 := by
  unfold featV at h
  split at h
  · cases h
  split at h
  · cases h
  split at h
  · contradiction
  split at h
  · contradiction
  split at h
  · cases h
  split at h
  · cases h
  split at h
  · cases h
  rename_i k1 k2 k3 k4 k5 k6 k7
  have k3 : partsV f.2.1 f.2.2.1 = 0 := by simpa using k3
  have k4 : attrsE false f.2.2.2.1 = 0 := by simpa using k4
  exact ⟨partsV_ok hs k3, by omega, by omega, k4, by omega, by omega, by omega⟩
end Go.Proofs.YtjgiibfejfkocaaGreatDoor.I

namespace Go.Proofs.YtjgiibfejfkocaaGreatDoor.I
open Go.RowKit
set_option linter.unusedVariables false
set_option linter.constructorNameAsVariable false
/-- A loop along a list, told by a recursion. -/
theorem loop_rec {α D O σ : Type} {step : D → Option (D ⊕ O)} (emb : Nat → σ → D) (spec : Nat → σ → List α → O) (d : List α) (ok : Nat → σ → Prop)
    (hnil : ∀ i s, i = d.length → ok i s → step (emb i s) = some (.inr (spec i s [])))
    (hcons : ∀ i s c cs, d[i]? = some c → d.drop (i + 1) = cs → ok i s → (∃ s', step (emb i s) = some (.inl (emb (i + 1) s')) ∧ ok (i + 1) s' ∧ spec i s (c :: cs) = spec (i + 1) s' cs) ∨ step (emb i s) = some (.inr (spec i s (c :: cs)))) :
    ∀ s, ok 0 s → loop step (emb 0 s) = some (spec 0 s d) := by
  have key : ∀ (cs : List α) (i : Nat) (s : σ), i ≤ d.length → d.drop i = cs → ok i s → loop step (emb i s) = some (spec i s cs) := by
    intro cs
    induction cs with
    | nil =>
      intro i s hi hd ho
      have : i = d.length := by
        have := congrArg List.length hd
        simp at this; omega
      rw [loop_eq, hnil i s this ho]
    | cons c cs ih =>
      intro i s hi hd ho
      have hc : d[i]? = some c := by
        have := congrArg (fun l => l[0]?) hd
        simpa using this
      have hd2 : d.drop (i + 1) = cs := by rw [← List.drop_drop, hd]; rfl
      rcases hcons i s c cs hc hd2 ho with ⟨s', h1, h2, h3⟩ | h1
      · rw [loop_eq, h1, h3]
        exact ih (i + 1) s' (lt_of_get hc) hd2 h2
      · rw [loop_eq, h1]
  exact fun s hs => key d 0 s (Nat.zero_le _) rfl hs
theorem loop_recB {α D O σ R : Type} {step : D → Option (D ⊕ O)} {f : O → Option R} (emb : Nat → σ → D) (spec : Nat → σ → List α → O) (d : List α) (ok : Nat → σ → Prop)
    (hnil : ∀ i s, i = d.length → ok i s → step (emb i s) = some (.inr (spec i s [])))
    (hcons : ∀ i s c cs, d[i]? = some c → d.drop (i + 1) = cs → ok i s → (∃ s', step (emb i s) = some (.inl (emb (i + 1) s')) ∧ ok (i + 1) s' ∧ spec i s (c :: cs) = spec (i + 1) s' cs) ∨ step (emb i s) = some (.inr (spec i s (c :: cs)))) (s : σ) (h0 : ok 0 s) :
    Option.bind (loop step (emb 0 s)) f = f (spec 0 s d) := by
  rw [loop_rec emb spec d ok hnil hcons s h0]
  rfl
/-- The number at the beginning: its code, and how many bytes it has. -/
def numR : Nat → Nat → List UInt8 → Option (Nat × Nat)
  | _, _, [] => none
  | i, v, c :: cs => if i = 9 ∧ 1 < c.toNat then none else if c.toNat < 128 then some (v + c.toNat % 128 * 2 ^ (7 * i), i + 1) else numR (i + 1) (v + c.toNat % 128 * 2 ^ (7 * i)) cs
theorem numR_getU : ∀ (l : List UInt8) (i v u k : Nat), getU i v l = (u, k, 0) → numR i v l = some (u, k)
  | [], i, v, u, k, h => by simp [getU] at h
  | c :: cs, i, v, u, k, h => by
    rw [getU] at h
    rw [numR]
    by_cases h1 : i = 9 ∧ 1 < c.toNat
    · rw [if_pos h1] at h; simp at h
    · rw [if_neg h1] at h ⊢
      by_cases h2 : 128 ≤ c.toNat
      · rw [if_pos h2] at h
        rw [if_neg (by omega)]
        exact numR_getU cs (i + 1) _ u k h
      · rw [if_neg h2] at h
        rw [if_pos (by omega)]
        by_cases h3 : 0 < i ∧ c.toNat = 0
        · rw [if_pos h3] at h; simp at h
        · rw [if_neg h3] at h
          simp only [Prod.mk.injEq, and_true] at h
          rw [h.1, h.2]
theorem numR_bd : ∀ (l : List UInt8) (i v u k : Nat), i ≤ 9 → v < 2 ^ (7 * i) → numR i v l = some (u, k) → u < 18446744073709551616 ∧ i < k ∧ k ≤ i + l.length
  | [], i, v, u, k, _, _, h => by simp [numR] at h
  | c :: cs, i, v, u, k, hi, hv, h => by
    rw [numR] at h
    by_cases h1 : i = 9 ∧ 1 < c.toNat
    · rw [if_pos h1] at h; cases h
    · rw [if_neg h1] at h
      have h9 : i < 9 ∨ c.toNat ≤ 1 := by omega
      obtain ⟨_, s1, s2⟩ := getU_step (b := c.toNat) hi hv h9
      by_cases h2 : c.toNat < 128
      · rw [if_pos h2] at h
        injection h with h
        injection h with h3 h4
        subst h3 h4
        exact ⟨s2, by omega, by simp⟩
      · rw [if_neg h2] at h
        obtain ⟨a, b, e⟩ := numR_bd cs (i + 1) _ u k (by omega) s1 h
        exact ⟨a, by omega, by rw [List.length_cons]; omega⟩
theorem unzig_in {u : Nat} (h : u < 18446744073709551616) : -9223372036854775808 ≤ unzig u ∧ unzig u ≤ 9223372036854775807 := by
  unfold unzig
  split <;> omega
theorem toI_get {d : List UInt8} {i : Nat} {c : UInt8} (h : d[i]? = some c) : (toI d)[i]? = some (c.toNat : Int) := by
  unfold toI
  rw [List.getElem?_map, h]
  rfl
theorem toI_drop (d : List UInt8) (k : Nat) : (toI d).drop k = toI (d.drop k) := by
  unfold toI
  rw [List.map_drop]
theorem toI_take (d : List UInt8) (k : Nat) : (toI d).take k = toI (d.take k) := by
  unfold toI
  rw [List.map_take]
def specN (d : List UInt8) (bad : Bool) (i v : Nat) (cs : List UInt8) : ((Int × List Int × Bool × Unit) × Unit) ⊕ (Unit × Unit) ⊕ Empty := match numR i v cs with
  | some (u, k) => Sum.inl ((unzig u, (toI (d.drop k), (bad, ()))), ())
  | none => Sum.inr (Sum.inl ((), ()))
theorem orB (v : Nat) (c : UInt8) (i : Nat) (hi : i ≤ 9) (hv : v < 2 ^ (7 * i)) (h9 : i < 9 ∨ c.toNat ≤ 1) :
    IntKind.wrap .u64 (((BitVec.ofInt 64 (v : Int) ||| BitVec.ofInt 64 (IntKind.wrap .u64 (IntKind.wrap .u64 (IntKind.wrap .u8 (((BitVec.ofInt 8 ((c.toNat : Nat) : Int) &&& BitVec.ofInt 8 127).toNat : Nat) : Int)) * 2 ^ (7 * i)))).toNat : Nat) : Int) = ((v + c.toNat % 128 * 2 ^ (7 * i) : Nat) : Int) :=
  getO_step hi hv c.toNat_lt h9
theorem xorB (q : Nat) (hq : q < 18446744073709551616) : IntKind.wrap .i64 (((BitVec.ofInt 64 (IntKind.wrap .i64 (Int.fdiv (q : Int) 2)) ^^^ BitVec.ofInt 64 (IntKind.wrap .i64 (0 - IntKind.wrap .i64 (IntKind.wrap .u64 (((BitVec.ofInt 64 (q : Int) &&& BitVec.ofInt 64 1).toNat : Nat) : Int))))).toNat : Nat) : Int) = unzig q := by
  have e1 : IntKind.wrap .u64 (((BitVec.ofInt 64 (q : Int) &&& BitVec.ofInt 64 1).toNat : Nat) : Int) = ((q % 2 : Nat) : Int) := u64_and1 hq
  have e2 : Int.fdiv (q : Int) 2 = (q : Int) / 2 := Int.fdiv_eq_ediv_of_nonneg _ (by omega)
  have e3 : IntKind.wrap .i64 (((q % 2 : Nat) : Int)) = (q : Int) % 2 := by rw [wrap64 (by omega) (by omega)]; omega
  have e4 : IntKind.wrap .i64 (0 - (q : Int) % 2) = -((q : Int) % 2) := by rw [wrap64 (by omega) (by omega)]; omega
  have e5 : IntKind.wrap .i64 ((q : Int) / 2) = RowKit.wrap64 ((q : Int) / 2) := by rw [wrap64 (by omega) (by omega)]; unfold RowKit.wrap64; omega
  rw [e1, e2, e3, e4, e5]
  exact unzig_xor hq
theorem num_eq (d : List UInt8) (bad : Bool) (hl : d.length ≤ 1000000) : r29 () (toI d, (bad, ())) = match numR 0 0 d with
    | some (u, k) => some ((unzig u, ()), (toI (d.drop k), (bad, ())))
    | none => some (((0 : Int), ()), (toI d, (true, ()))) := by
  unfold r29
  refine (loop_recB (fun (i : Nat) (v : Nat) => ((((v : Int), ((i : Int), ())), ()) : (Int × Int × Unit) × Unit)) (specN d bad) d (fun i v => i ≤ 9 ∧ v < 2 ^ (7 * i)) (fun i v hi hv => ?_) (fun i v c cs hc hcs hv => ?_) 0 ⟨by omega, by simp⟩).trans ?_
  · subst hi
    simp only [toI_len, dec_nlt, cond_false]
    rfl
  · obtain ⟨hi9, hv⟩ := hv
    have hlt := lt_of_get hc
    have hlt' : i < (toI d).length := by rw [toI_len]; exact hlt
    have hu : upTo ((i : Int) + 1) ((toI d).length : Int) = true := by rw [toI_len]; unfold upTo; simp; omega
    have w1 : IntKind.wrap .i64 (7 * (i : Int)) = 7 * (i : Int) := wrap64 (by omega) (by omega)
    have w2 : IntKind.wrap .i64 ((i : Int) + 1) = (i : Int) + 1 := wrap64 (by omega) (by omega)
    have n1 : decide (7 * (i : Int) < 0) = false := decide_eq_false (by omega)
    have n2 : min (Int.toNat (7 * (i : Int))) 64 = 7 * i := by omega
    have n3 : Int.toNat ((i : Int) + 1) = i + 1 := by omega
    simp only [dec_lt hlt', inB_lt hlt', Int.toNat_natCast, toI_get hc, cond_true, Option.bind_some, w1, w2, n1, n2, n3, hu, cond_false]
    unfold specN
    rw [numR]
    by_cases h9 : i = 9 ∧ 1 < c.toNat
    · right
      rw [if_pos h9]
      have e1 : decide ((i : Int) = 9) = true := decide_eq_true (by omega)
      have e2 : decide (1 < ((c.toNat : Nat) : Int)) = true := decide_eq_true (by omega)
      simp only [e1, e2, cond_true]
    · rw [if_neg h9]
      have h9' : i < 9 ∨ c.toNat ≤ 1 := by omega
      have hor := orB v c i hi9 hv h9'
      obtain ⟨_, s1, s2⟩ := getU_step (b := c.toNat) hi9 hv h9'
      simp only [hor]
      have hx := xorB _ s2
      simp only [hx]
      by_cases h2 : c.toNat < 128
      · right
        rw [if_pos h2]
        have e3 : decide (((c.toNat : Nat) : Int) < 128) = true := decide_eq_true (by omega)
        simp only [e3, cond_true, toI_drop]
        by_cases h8 : i = 9
        · have e1 : decide ((i : Int) = 9) = true := decide_eq_true (by omega)
          have e2 : decide (1 < ((c.toNat : Nat) : Int)) = false := decide_eq_false (by omega)
          simp only [e1, e2, cond_true, cond_false]
        · have e1 : decide ((i : Int) = 9) = false := decide_eq_false (by omega)
          simp only [e1, cond_false]
      · left
        rw [if_neg h2]
        have e1 : decide ((i : Int) = 9) = false := decide_eq_false (by omega)
        have e3 : decide (((c.toNat : Nat) : Int) < 128) = false := decide_eq_false (by omega)
        refine ⟨v + c.toNat % 128 * 2 ^ (7 * i), ?_, ⟨by omega, s1⟩, rfl⟩
        simp only [e1, e3, cond_false]
        rfl
  · unfold specN
    cases numR 0 0 d with
    | none => rfl
    | some p => rfl
end Go.Proofs.YtjgiibfejfkocaaGreatDoor.I

namespace Go.Proofs.YtjgiibfejfkocaaGreatDoor.I
open Go.RowKit
set_option linter.unusedVariables false
set_option linter.constructorNameAsVariable false
theorem wu32 (x : Int) : IntKind.wrap .u32 x = x % 4294967296 := by simp [IntKind.wrap, IntKind.bits, IntKind.signed]
theorem r61_eq (l : List UInt8) (hl : l.length ≤ 9223372036854775807) : r18 (toI l, ()) = some ((fnv l : Int), ()) := by
  unfold r18
  have hlen := toI_len l
  have h := (loop_fold (step := fun (x0 : (Int × Int × Unit) × Unit) => (cond (Decidable.decide (LT.lt x0.1.2.1 (Nat.cast (List.length (toI l)) : Int))) (cond (inB x0.1.2.1 (List.length (toI l))) (Option.bind (GetElem?.getElem? (toI l) (Int.toNat x0.1.2.1)) (fun x1 => (Option.some (Sum.inl (((IntKind.wrap IntKind.u32 (HMul.hMul (IntKind.wrap IntKind.u32 (Nat.cast (BitVec.toNat (HXor.hXor (BitVec.ofInt 32 x0.1.1) (BitVec.ofInt 32 (IntKind.wrap IntKind.u32 x1)))) : Int)) (16777619 : Int))), ((IntKind.wrap IntKind.i64 (HAdd.hAdd x0.1.2.1 (1 : Int))), Unit.unit)), Unit.unit))))) (Option.none)) (Option.some (Sum.inr (Sum.inl ((x0.1.1, Unit.unit), Unit.unit) : ((Int × Unit) × Unit) ⊕ Empty)))))
    (fun i (h : Nat) => (((h : Int), (i, ())), ())) (fun h x => fnvStep h (UInt8.ofNat x.toNat)) (fun _ h => h < 4294967296) (fun h => Sum.inl (((h : Int), ()), ())) (toI l) (fun i x h hx hI => ?_) (fun _ _ => ?_) 2166136261 (by omega)).1
  · have hf : ∀ (m : List UInt8) (h : Nat), (toI m).foldl (fun h x => fnvStep h (UInt8.ofNat x.toNat)) h = m.foldl fnvStep h := by
      intro m
      induction m with
      | nil => intro h; rfl
      | cons c m ih =>
        intro h
        simp only [toI, List.map_cons, List.foldl_cons] at ih ⊢
        rw [show UInt8.ofNat ((c.toNat : Int)).toNat = c by simp]
        exact ih _
    rw [hf] at h
    refine (congrArg (fun z => Option.bind z _) h).trans ?_
    rfl
  · have hlt := lt_of_get hx
    obtain ⟨c, hc⟩ : ∃ c : UInt8, x = (c.toNat : Int) := by
      unfold toI at hx
      rw [List.getElem?_map] at hx
      obtain ⟨c, _, hc⟩ := Option.map_eq_some_iff.1 hx
      exact ⟨c, hc.symm⟩
    subst hc
    have hcl := c.toNat_lt
    have hw : IntKind.wrap .u32 ((c.toNat : Int)) = (c.toNat : Int) := by rw [wu32]; omega
    have hx32 := fnv32 h c hI
    dsimp only
    simp only [dec_lt hlt, inB_lt hlt, Int.toNat_natCast, hx, cond_true, Option.bind_some, hw]
    rw [wrapS hlt (by omega), wu32 (_ * _)]
    have e : IntKind.wrap IntKind.u32 ((((BitVec.ofInt 32 (h : Int)) ^^^ (BitVec.ofInt 32 (c.toNat : Int))).toNat : Nat) : Int) * 16777619 % 4294967296 = (fnvStep h c : Int) := hx32
    rw [e]
    refine ⟨?_, ?_⟩
    · rw [show UInt8.ofNat c.toNat = c by simp]
    · rw [show UInt8.ofNat c.toNat = c by simp]; unfold fnvStep; omega
  · dsimp only
    simp only [dec_nlt, cond_false]
theorem r65_eq (s : ByteArray) (hl : s.size ≤ 9223372036854775807) : r9 (s, ()) = some ((fnv s.data.toList : Int), ()) := by
  unfold r9
  have hlen : s.size = s.data.toList.length := bytes_len
  have h := (loop_fold (step := fun (x0 : (Int × Int × Unit) × Unit) => (cond (Decidable.decide (LT.lt x0.1.2.1 (Nat.cast (ByteArray.size s) : Int))) (Option.bind (strAt s x0.1.2.1) (fun x1 => (Option.some (Sum.inl (((Int.tmod (IntKind.wrap IntKind.u64 (HMul.hMul (IntKind.wrap IntKind.u64 (Nat.cast (BitVec.toNat (HXor.hXor (BitVec.ofInt 64 x0.1.1) (BitVec.ofInt 64 (IntKind.wrap IntKind.u64 (Nat.cast (UInt8.toNat x1) : Int))))) : Int)) (16777619 : Int))) (4294967296 : Int)), ((IntKind.wrap IntKind.i64 (HAdd.hAdd x0.1.2.1 (1 : Int))), Unit.unit)), Unit.unit))))) (Option.some (Sum.inr (Sum.inl ((x0.1.1, Unit.unit), Unit.unit) : ((Int × Unit) × Unit) ⊕ Empty)))))
    (fun i (h : Nat) => (((h : Int), (i, ())), ())) fnvStep (fun _ h => h < 4294967296) (fun h => Sum.inl (((h : Int), ()), ())) s.data.toList (fun i c h hx hI => ?_) (fun _ _ => ?_) 2166136261 (by omega))
  · refine (congrArg (fun z => Option.bind z _) h.1).trans ?_
    have hlt : fnv s.data.toList < 4294967296 := h.2
    simp only [Option.bind_some, sumE]
    rw [wu32]
    show some (((fnv s.data.toList : Int) % 4294967296), ()) = _
    rw [show (fnv s.data.toList : Int) % 4294967296 = (fnv s.data.toList : Int) by omega]
  · have hlt := lt_of_get hx
    have hcl := c.toNat_lt
    have hw : IntKind.wrap .u64 ((c.toNat : Int)) = (c.toNat : Int) := by rw [wu64]; omega
    have hx64 := fnv64 h c hI
    dsimp only
    simp only [hlen, dec_lt hlt, bytes_get, hx, cond_true, Option.bind_some, hw]
    rw [wrapS hlt (by omega)]
    have e : Int.tmod (IntKind.wrap IntKind.u64 (IntKind.wrap IntKind.u64 ((((BitVec.ofInt 64 (h : Int)) ^^^ (BitVec.ofInt 64 (c.toNat : Int))).toNat : Nat) : Int) * 16777619)) 4294967296 = (fnvStep h c : Int) := hx64
    rw [e]
    exact ⟨rfl, by unfold fnvStep; omega⟩
  · dsimp only
    simp only [hlen, dec_nlt, cond_false]
theorem r62_eq (s : ByteArray) (d : List Int) (h : d.length + s.size ≤ 140737488355328) : r13 (s, ()) ((), (d, ())) = some (((s.size : Int), (false, ())), ((), (d ++ bytesOf s, ()))) := by
  unfold r13
  simp only [bytesOf_len, fitsB h, cond_true]
theorem r67_eq (x : Int) (d : List Int) (h : d.length + 1 ≤ 140737488355328) : r17 (x, ()) ((), (d, ())) = some ((false, ()), ((), (d ++ [x], ()))) := by
  unfold r17
  simp only [List.length_cons, List.length_nil, fitsB h, cond_true]
theorem r66_eq (d : List Int) (h : d.length ≤ 140737488355328) : r16 () ((), (d, ())) = some ((mkStr d, ()), ((), (d, ()))) := by
  unfold r16
  cases d with
  | nil => rfl
  | cons a d =>
    have hl : ((a :: d).length : Int) ≤ 140737488355328 := by omega
    have hp : (0 : Int) < ((a :: d).length : Int) := by rw [List.length_cons]; omega
    show cond (decide (((a :: d).length : Int) = ((a :: d).length : Int) ∧ 0 < ((a :: d).length : Int) ∧ ((a :: d).length : Int) ≤ 9223372036854775807)) _ _ = _
    rw [decide_eq_true ⟨rfl, hp, by omega⟩]
    rfl
theorem r64_eq (ns d : List Int) (hr : inRange ns) (hlen : d.length + 10 * ns.length ≤ 140737488355328) : r15 (ns, ()) ((), (d, ())) = some ((), ((), (d ++ encI ns, ()))) := by
  unfold r15
  have hnl : ns.length ≤ 9223372036854775807 := by omega
  have hfold : ∀ (ms : List Int) (b : List Int), ms.foldl (fun b n => b ++ toI (varint (zig n))) b = b ++ encI ms := by
    intro ms
    induction ms with
    | nil => intro b; simp [encI, encAll, toI]
    | cons n ms ih => intro b; rw [List.foldl_cons, ih, enc_cons, List.append_assoc]
  rw [(loop_fold (fun i (b : List Int) => ((i, ((), (b, ()))), ())) (fun b n => b ++ toI (varint (zig n))) (fun i b => b.length ≤ d.length + 10 * i) (fun b => Sum.inl (((), (b, ())), ())) ns (fun i n b h hI => ?_) (fun _ _ => ?_) d (by omega)).1]
  · rw [hfold]
    rfl
  · have hlt := lt_of_get h
    obtain ⟨g0, g1⟩ := hr n (List.mem_of_getElem? h)
    have hl := zig_len g0 g1
    simp only [dec_lt hlt, inB_lt hlt, Int.toNat_natCast, h, cond_true, Option.bind_some, r63_eq n g0 g1]
    rw [r62_eq _ b (by rw [size_mk]; omega), wrapS hlt hnl]
    simp only [Option.bind_some, bytesOf_mk]
    exact ⟨trivial, by rw [List.length_append, toI_len]; omega⟩
  · simp only [dec_nlt, cond_false]
end Go.Proofs.YtjgiibfejfkocaaGreatDoor.I

namespace Go.Proofs.YtjgiibfejfkocaaGreatDoor.I
open Go.RowKit
set_option linter.unusedVariables false
set_option linter.constructorNameAsVariable false
theorem n59 (ns : List Int) (d : List UInt8) (hr : inRange ns) (hlen : d.length + 10 * ns.length ≤ 140737488355328) : r32 (ns, ()) (toI d, ()) = some ((), (toI (d ++ encAll ns), ())) := by
  rw [r59_eq ns (toI d) hr (by rw [toI_len]; exact hlen), toI_app]
  rfl
theorem n64 (ns : List Int) (d : List UInt8) (hr : inRange ns) (hlen : d.length + 10 * ns.length ≤ 140737488355328) : r15 (ns, ()) ((), (toI d, ())) = some ((), ((), (toI (d ++ encAll ns), ()))) := by
  rw [r64_eq ns (toI d) hr (by rw [toI_len]; exact hlen), toI_app]
  rfl
theorem n96 (s : ByteArray) (d : List UInt8) (hs : s.size ≤ 1000000) (hlen : d.length + 1000020 ≤ 140737488355328) : r41 (s, ()) (toI d, ()) = some ((), (toI (d ++ (encAll [(s.size : Int)] ++ ofS s)), ())) := by
  rw [r96_eq s (toI d) hs (by rw [toI_len]; exact hlen), toI_app, toI_app, ← List.append_assoc]
  rfl
theorem n62 (s : ByteArray) (d : List UInt8) (h : d.length + s.size ≤ 140737488355328) : r13 (s, ()) ((), (toI d, ())) = some (((s.size : Int), (false, ())), ((), (toI (d ++ ofS s), ()))) := by
  rw [r62_eq s (toI d) (by rw [toI_len]; exact h), toI_app]
  rfl
theorem wrap64_in (x : Int) : -9223372036854775808 ≤ IntKind.wrap .i64 x ∧ IntKind.wrap .i64 x ≤ 9223372036854775807 := by
  unfold IntKind.wrap
  simp [IntKind.signed, IntKind.bits]
  split <;> omega
theorem in_nil : inRange [] := fun x hx => by cases hx
theorem in_cons {x : Int} {l : List Int} (h : -9223372036854775808 ≤ x ∧ x ≤ 9223372036854775807) (k : inRange l) : inRange (x :: l) := fun y hy => by
  rcases List.mem_cons.1 hy with rfl | hy
  · exact h
  · exact k y hy
abbrev PtS := Int × Int × List UInt8
def ptF (s : PtS) (q : DPt) : PtS := (q.1, q.2.1, s.2.2 ++ encAll [IntKind.wrap .i64 (q.1 - s.1), IntKind.wrap .i64 (q.2.1 - s.2.1)])
theorem pt_in (s : PtS) (q : DPt) : inRange [IntKind.wrap .i64 (q.1 - s.1), IntKind.wrap .i64 (q.2.1 - s.2.1)] := in_cons (wrap64_in _) (in_cons (wrap64_in _) in_nil)
theorem ptF_len (s : PtS) (q : DPt) : (ptF s q).2.2.length ≤ s.2.2.length + 20 := by
  unfold ptF
  have := encAll_len _ (pt_in s q)
  simp only [List.length_append, List.length_cons, List.length_nil] at this ⊢
  omega
theorem fold_len {α S : Type} (f : S → α → S) (g : S → Nat) (k : Nat) : ∀ (l : List α) (s : S), (∀ s a, a ∈ l → g (f s a) ≤ g s + k) → g (l.foldl f s) ≤ g s + k * l.length
  | [], s, _ => by simp
  | a :: l, s, h => by
    have h1 := h s a (by simp)
    have h2 := fold_len f g k l (f s a) (fun s b hb => h s b (by simp [hb]))
    rw [List.foldl_cons, List.length_cons, Nat.mul_succ]
    omega
def partF (s : PtS) (p : List DPt) : PtS := p.foldl ptF (s.1, s.2.1, s.2.2 ++ encAll [(p.length : Int)])
theorem len_in {α : Type} {l : List α} (h : l.length ≤ 200) : inRange [(l.length : Int)] := in_cons (by omega) in_nil
theorem partF_len (s : PtS) (p : List DPt) (h : p.length ≤ 200) : (partF s p).2.2.length ≤ s.2.2.length + 4010 := by
  unfold partF
  have h1 := fold_len ptF (fun s => s.2.2.length) 20 p (s.1, s.2.1, s.2.2 ++ encAll [(p.length : Int)]) (fun s q _ => ptF_len s q)
  have h2 := encAll_len _ (len_in h)
  simp only [List.length_append, List.length_cons, List.length_nil] at h1 h2 ⊢
  omega
def battB (d : List UInt8) (a : DAtt) : List UInt8 :=
  d ++ (encAll [(a.1.size : Int)] ++ ofS a.1) ++ encAll [a.2.1.1] ++ (if a.2.1.1 = 1 then encAll [a.2.1.2.1] else if a.2.1.1 = 2 then encAll [(a.2.1.2.2.1.size : Int)] ++ ofS a.2.1.2.2.1 else if a.2.1.1 = 3 then [if a.2.1.2.2.2.1 then 2 else 0] else [])
structure AttOk (a : DAtt) : Prop where
  key : a.1.size ≤ 12
  text : a.2.1.2.2.1.size ≤ 40
  kind : -9223372036854775808 ≤ a.2.1.1 ∧ a.2.1.1 ≤ 9223372036854775807
  num : -9223372036854775808 ≤ a.2.1.2.1 ∧ a.2.1.2.1 ≤ 9223372036854775807
theorem attB_len {d : List UInt8} {a : DAtt} (h : AttOk a) : (battB d a).length ≤ d.length + 82 := by
  obtain ⟨h1, h2, h3, h4⟩ := h
  have e1 := encAll_len [(a.1.size : Int)] (in_cons (by omega) in_nil)
  have e2 := encAll_len [a.2.1.1] (in_cons h3 in_nil)
  have e3 := encAll_len [a.2.1.2.1] (in_cons h4 in_nil)
  have e4 := encAll_len [(a.2.1.2.2.1.size : Int)] (in_cons (by omega) in_nil)
  unfold battB
  simp only [List.length_append, List.length_cons, List.length_nil, ofS_len] at *
  split
  · omega
  · split
    · simp only [List.length_append, ofS_len]; omega
    · split
      · simp; omega
      · simp; omega
structure FeaOk (f : DFea) : Prop where
  parts : f.2.2.1.length ≤ 20
  pts : ∀ p ∈ f.2.2.1, p.length ≤ 200
  atts : f.2.2.2.1.length ≤ 8
  att : ∀ a ∈ f.2.2.2.1, AttOk a
  kind : -9223372036854775808 ≤ f.2.1 ∧ f.2.1 ≤ 9223372036854775807
  fr : -9223372036854775808 ≤ f.2.2.2.2.1 ∧ f.2.2.2.2.1 ≤ 9223372036854775807
def heads (last : Int) (f : DFea) : List Int := [IntKind.wrap .i64 (f.1 - last), f.2.1, f.2.2.2.2.1, IntKind.wrap .i64 (f.2.2.2.2.2.1 - f.2.2.2.2.1), (f.2.2.1.length : Int)]
theorem heads_in {last : Int} {f : DFea} (h : FeaOk f) : inRange (heads last f) := in_cons (wrap64_in _) (in_cons h.kind (in_cons h.fr (in_cons (wrap64_in _) (in_cons (by have := h.parts; omega) in_nil))))
def partsB (d : List UInt8) (f : DFea) (last : Int) : PtS := f.2.2.1.foldl partF (0, 0, d ++ encAll (heads last f))
def attsB (d : List UInt8) (f : DFea) (last : Int) : List UInt8 := (partsB d f last).2.2 ++ encAll [(f.2.2.2.1.length : Int)]
def feaB (d : List UInt8) (f : DFea) (last : Int) : List UInt8 := f.2.2.2.1.foldl battB (attsB d f last)
theorem partsB_len {d : List UInt8} {f : DFea} {last : Int} (h : FeaOk f) : (partsB d f last).2.2.length ≤ d.length + 80250 := by
  unfold partsB
  have h1 := fold_len partF (fun s => s.2.2.length) 4010 f.2.2.1 (0, 0, d ++ encAll (heads last f)) (fun s p hp => partF_len s p (h.pts p hp))
  have h2 := encAll_len _ (heads_in (last := last) h)
  have h3 := h.parts
  have h4 : (heads last f).length = 5 := rfl
  simp only [List.length_append] at h1
  have h5 : 4010 * f.2.2.1.length ≤ 80200 := by omega
  omega
theorem attsB_len {d : List UInt8} {f : DFea} {last : Int} (h : FeaOk f) : (attsB d f last).length ≤ d.length + 80260 := by
  unfold attsB
  have h1 := partsB_len (d := d) (last := last) h
  have h2 := encAll_len [(f.2.2.2.1.length : Int)] (in_cons (by have := h.atts; omega) in_nil)
  rw [List.length_append]
  simp at h2
  omega
theorem feaB_len {d : List UInt8} {f : DFea} {last : Int} (h : FeaOk f) : (feaB d f last).length ≤ d.length + 90000 := by
  unfold feaB
  have h1 := fold_len battB List.length 82 f.2.2.2.1 (attsB d f last) (fun d a ha => attB_len (h.att a ha))
  have h2 := attsB_len (d := d) (last := last) h
  have h3 := h.atts
  omega
end Go.Proofs.YtjgiibfejfkocaaGreatDoor.I

namespace Go.Proofs.YtjgiibfejfkocaaGreatDoor.I
open Go.RowKit
set_option linter.unusedVariables false
set_option linter.constructorNameAsVariable false
abbrev W64 (x : Int) : Int := IntKind.wrap .i64 x
theorem wrap_back (x q : Int) (h : -9223372036854775808 ≤ q ∧ q ≤ 9223372036854775807) : IntKind.wrap .i64 (x + IntKind.wrap .i64 (q - x)) = q := by
  unfold IntKind.wrap
  simp only [IntKind.signed, IntKind.bits]
  simp
  omega
def encPts (x y : Int) : List DPt → List UInt8
  | [] => []
  | q :: l => encAll [W64 (q.1 - x), W64 (q.2.1 - y)] ++ encPts q.1 q.2.1 l
def endPt (x y : Int) : List DPt → Int × Int
  | [] => (x, y)
  | q :: l => endPt q.1 q.2.1 l
def encParts (x y : Int) : List (List DPt) → List UInt8
  | [] => []
  | p :: l => encAll [(p.length : Int)] ++ encPts x y p ++ encParts (endPt x y p).1 (endPt x y p).2 l
def endParts (x y : Int) : List (List DPt) → Int × Int
  | [] => (x, y)
  | p :: l => endParts (endPt x y p).1 (endPt x y p).2 l
def encVal (v : DVal) : List UInt8 := if v.1 = 1 then encAll [v.2.1] else if v.1 = 2 then encAll [(v.2.2.1.size : Int)] ++ ofS v.2.2.1 else if v.1 = 3 then [if v.2.2.2.1 then 2 else 0] else []
def encAtt (a : DAtt) : List UInt8 := (encAll [(a.1.size : Int)] ++ ofS a.1) ++ encAll [a.2.1.1] ++ encVal a.2.1
def encFea (last : Int) (f : DFea) : List UInt8 := encAll (heads last f) ++ encParts 0 0 f.2.2.1 ++ encAll [(f.2.2.2.1.length : Int)] ++ f.2.2.2.1.flatMap encAtt
def encFs (last : Int) : List DFea → List UInt8
  | [] => []
  | f :: l => encFea last f ++ encFs f.1 l
theorem fold_pts : ∀ (p : List DPt) (x y : Int) (d : List UInt8), p.foldl ptF (x, y, d) = ((endPt x y p).1, (endPt x y p).2, d ++ encPts x y p)
  | [], x, y, d => by simp [endPt, encPts]
  | q :: l, x, y, d => by
    rw [List.foldl_cons]
    show l.foldl ptF (q.1, q.2.1, d ++ encAll [W64 (q.1 - x), W64 (q.2.1 - y)]) = _
    rw [fold_pts l]
    simp [endPt, encPts]
theorem fold_parts : ∀ (l : List (List DPt)) (x y : Int) (d : List UInt8), l.foldl partF (x, y, d) = ((endParts x y l).1, (endParts x y l).2, d ++ encParts x y l)
  | [], x, y, d => by simp [endParts, encParts]
  | p :: l, x, y, d => by
    rw [List.foldl_cons]
    have e : partF (x, y, d) p = ((endPt x y p).1, (endPt x y p).2, (d ++ encAll [(p.length : Int)]) ++ encPts x y p) := fold_pts p x y _
    rw [e, fold_parts l]
    simp [endParts, encParts]
theorem batt_eq (d : List UInt8) (a : DAtt) : battB d a = d ++ encAtt a := by
  unfold battB encAtt encVal
  simp
theorem fold_atts : ∀ (l : List DAtt) (d : List UInt8), l.foldl battB d = d ++ l.flatMap encAtt
  | [], d => by simp
  | a :: l, d => by rw [List.foldl_cons, batt_eq, fold_atts l]; simp
theorem fea_enc (d : List UInt8) (f : DFea) (last : Int) : feaB d f last = d ++ encFea last f := by
  unfold feaB attsB partsB
  rw [fold_parts, fold_atts]
  unfold encFea
  simp
theorem enc_one (n : Int) : encAll [n] = varint (zig n) := by unfold encAll; simp
theorem enc_cons' (n : Int) (ns : List Int) : encAll (n :: ns) = varint (zig n) ++ encAll ns := by unfold encAll; simp
theorem enc_nil : encAll [] = [] := rfl
theorem num_enc (n : Int) (rest : List UInt8) (h : -9223372036854775808 ≤ n ∧ n ≤ 9223372036854775807) (hl : (varint (zig n) ++ rest).length ≤ 1000000) : r29 () (toI (varint (zig n) ++ rest), (false, ())) = some ((n, ()), (toI rest, (false, ()))) := by
  rw [num_eq _ _ hl, numR_getU _ _ _ _ _ (get_varint h.1 h.2 rest)]
  simp only [unzig_zig, List.drop_left]
theorem count_enc (n : Nat) (most : Int) (rest : List UInt8) (h : (n : Int) ≤ most) (hn : n ≤ 1000000) (hl : (varint (zig n) ++ rest).length ≤ 1000000) : r19 (most, ()) (toI (varint (zig n) ++ rest), (false, ())) = some (((n : Int), ()), (toI rest, (false, ()))) := by
  unfold r19
  have e := num_enc (n : Int) rest (by omega) hl
  have e1 : decide ((n : Int) < 0) = false := decide_eq_false (by omega)
  have e2 : decide (most < (n : Int)) = false := decide_eq_false (by omega)
  simp only [e, Option.bind_some, e1, e2, cond_false]
theorem text_enc (s : ByteArray) (rest : List UInt8) (hs : s.size ≤ 1000000) (hl : (varint (zig (s.size : Int)) ++ (ofS s ++ rest)).length ≤ 1000000) : r30 () (toI (varint (zig (s.size : Int)) ++ (ofS s ++ rest)), (false, ())) = some ((s, ()), (toI rest, (false, ()))) := by
  unfold r30
  have hlen : (varint (zig (s.size : Int)) ++ (ofS s ++ rest)).length = (varint (zig (s.size : Int))).length + s.size + rest.length := by
    rw [List.length_append, List.length_append, ofS_len]; omega
  have e := count_enc s.size ((toI (varint (zig (s.size : Int)) ++ (ofS s ++ rest))).length : Int) (ofS s ++ rest) (by rw [toI_len, hlen]; omega) hs hl
  have hl2 : (toI (ofS s ++ rest)).length = s.size + rest.length := by rw [toI_len, List.length_append, ofS_len]
  have e1 : decide (((toI (ofS s ++ rest)).length : Int) < (s.size : Int)) = false := decide_eq_false (by rw [hl2]; omega)
  have e2 : upTo (s.size : Int) ((toI (ofS s ++ rest)).length : Int) = true := by rw [hl2]; unfold upTo; simp; omega
  have e3 : (ofS s ++ rest).take s.size = ofS s := by rw [← ofS_len, List.take_left]
  have e4 : (ofS s ++ rest).drop s.size = rest := by rw [← ofS_len, List.drop_left]
  simp only [e, Option.bind_some, e1, e2, cond_false, cond_true, Int.toNat_natCast, toI_take, toI_drop, e3, e4, mkStr_toI, mk_ofS]
theorem endPt_snoc : ∀ (l : List DPt) (x y : Int) (q : DPt), endPt x y (l ++ [q]) = (q.1, q.2.1)
  | [], _, _, _ => rfl
  | a :: l, x, y, q => by
    simp only [List.cons_append, endPt]
    exact endPt_snoc l _ _ q
theorem drop_cons {α : Type} {l : List α} {i : Nat} {a : α} (h : l[i]? = some a) : l.drop i = a :: l.drop (i + 1) := by
  rw [List.drop_eq_getElem_cons (lt_of_get h)]
  rw [List.getElem?_eq_getElem (lt_of_get h)] at h
  injection h with h
  rw [h]
def InR (q : DPt) : Prop := (-9223372036854775808 ≤ q.1 ∧ q.1 ≤ 9223372036854775807) ∧ (-9223372036854775808 ≤ q.2.1 ∧ q.2.1 ≤ 9223372036854775807)
abbrev StP := List DPt × Int × Int × List UInt8
def stP (x y : Int) (p : List DPt) (rest : List UInt8) (j : Nat) : StP := (p.take j, (endPt x y (p.take j)).1, (endPt x y (p.take j)).2, encPts (endPt x y (p.take j)).1 (endPt x y (p.take j)).2 (p.drop j) ++ rest)
@[reducible] def embRp (j : Int) (s : StP) : (List DPt × Int × Int × Int × List Int × Bool × Unit) × Unit := ((s.1, (j, (s.2.1, (s.2.2.1, (toI s.2.2.2, (false, ())))))), ())
theorem pts_step (x y : Int) (p : List DPt) (rest : List UInt8) (hp : ∀ q ∈ p, InR q) (hl : (encPts x y p ++ rest).length ≤ 1000000) (j : Nat) (hj : j < p.length) :
    ∃ q, p[j]? = some q ∧ (stP x y p rest j).2.2.2 = varint (zig (W64 (q.1 - (stP x y p rest j).2.1))) ++ (varint (zig (W64 (q.2.1 - (stP x y p rest j).2.2.1))) ++ (stP x y p rest (j + 1)).2.2.2) ∧
      stP x y p rest (j + 1) = ((stP x y p rest j).1 ++ [q], q.1, q.2.1, (stP x y p rest (j + 1)).2.2.2) := by
  obtain ⟨q, hq⟩ := get_lt hj
  refine ⟨q, hq, ?_, ?_⟩
  · unfold stP
    simp only
    rw [drop_cons hq, take_succ hq, endPt_snoc]
    simp only [encPts, enc_cons', enc_nil, List.append_assoc, List.nil_append]
  · unfold stP
    simp only [take_succ hq, endPt_snoc]
theorem stP_len (x y : Int) (p : List DPt) (rest : List UInt8) (hp : ∀ q ∈ p, InR q) (hl : (encPts x y p ++ rest).length ≤ 1000000) : ∀ j, j ≤ p.length → (stP x y p rest j).2.2.2.length ≤ 1000000
  | 0, _ => by unfold stP; simpa [endPt] using hl
  | j + 1, h => by
    obtain ⟨q, _, h2, _⟩ := pts_step x y p rest hp hl j (by omega)
    have := stP_len x y p rest hp hl j (by omega)
    rw [h2] at this
    simp only [List.length_append] at this
    omega
def stQ (x y : Int) (l : List (List DPt)) (rest : List UInt8) (i : Nat) : List (List DPt) × Int × Int × List UInt8 := (l.take i, (endParts x y (l.take i)).1, (endParts x y (l.take i)).2, encParts (endParts x y (l.take i)).1 (endParts x y (l.take i)).2 (l.drop i) ++ rest)
theorem endParts_snoc : ∀ (l : List (List DPt)) (x y : Int) (p : List DPt), endParts x y (l ++ [p]) = endPt (endParts x y l).1 (endParts x y l).2 p
  | [], _, _, _ => rfl
  | a :: l, x, y, p => by
    simp only [List.cons_append, endParts]
    exact endParts_snoc l _ _ p
theorem parts_step (x y : Int) (l : List (List DPt)) (rest : List UInt8) (i : Nat) (hi : i < l.length) :
    ∃ p, l[i]? = some p ∧ (stQ x y l rest i).2.2.2 = varint (zig (p.length : Int)) ++ (encPts (stQ x y l rest i).2.1 (stQ x y l rest i).2.2.1 p ++ (stQ x y l rest (i + 1)).2.2.2) ∧
      stQ x y l rest (i + 1) = ((stQ x y l rest i).1 ++ [p], (endPt (stQ x y l rest i).2.1 (stQ x y l rest i).2.2.1 p).1, (endPt (stQ x y l rest i).2.1 (stQ x y l rest i).2.2.1 p).2, (stQ x y l rest (i + 1)).2.2.2) := by
  obtain ⟨p, hq⟩ := get_lt hi
  refine ⟨p, hq, ?_, ?_⟩
  · unfold stQ
    simp only
    rw [drop_cons hq, take_succ hq, endParts_snoc]
    simp only [encParts, enc_one, List.append_assoc]
  · unfold stQ
    simp only [take_succ hq, endParts_snoc]
theorem stQ_len (x y : Int) (l : List (List DPt)) (rest : List UInt8) (hl : (encParts x y l ++ rest).length ≤ 1000000) : ∀ i, i ≤ l.length → (stQ x y l rest i).2.2.2.length ≤ 1000000
  | 0, _ => by unfold stQ; simpa [endParts] using hl
  | i + 1, h => by
    obtain ⟨p, _, h2, _⟩ := parts_step x y l rest i (by omega)
    have := stQ_len x y l rest hl i (by omega)
    rw [h2] at this
    simp only [List.length_append] at this
    omega
end Go.Proofs.YtjgiibfejfkocaaGreatDoor.I

namespace Go.Proofs.YtjgiibfejfkocaaGreatDoor.I
open Go.RowKit
set_option linter.unusedVariables false
set_option linter.constructorNameAsVariable false
@[reducible] def embP (i : Int) (s : PtS) : (Int × Int × Int × List Int × Unit) × Unit := ((i, (s.1, (s.2.1, (toI s.2.2, ())))), ())
@[reducible] def outP (s : PtS) : ((Int × Int × List Int × Unit) × Unit) ⊕ Empty := Sum.inl ((s.1, (s.2.1, (toI s.2.2, ()))), ())
set_option maxHeartbeats 4000000 in
set_option maxRecDepth 100000 in
theorem r60_eq (f : DFea) (last : Int) (d : List UInt8) (h : FeaOk f) (hd : d.length ≤ 100000000) : r33 (f, (last, ())) (toI d, ()) = some ((), (toI (feaB d f last), ())) := by
  have hb1 := partsB_len (d := d) (last := last) h
  have hb2 := attsB_len (d := d) (last := last) h
  unfold r33
  have h1 := n59 (heads last f) d (heads_in h) (by show d.length + 10 * 5 ≤ _; omega)
  have h1' : r32 ((List.cons (IntKind.wrap IntKind.i64 (HSub.hSub f.1 last)) (List.cons f.2.1 (List.cons f.2.2.2.2.1 (List.cons (IntKind.wrap IntKind.i64 (HSub.hSub f.2.2.2.2.2.1 f.2.2.2.2.1)) (List.cons (Nat.cast (List.length f.2.2.1) : Int) (List.nil)))))), ()) (toI d, ()) = some ((), (toI (d ++ encAll (heads last f)), ())) := h1
  simp only [h1', Option.bind_some]
  have hd0 : (d ++ encAll (heads last f)).length ≤ d.length + 50 := by
    have := encAll_len _ (heads_in (last := last) h)
    rw [List.length_append]
    have h4 : (heads last f).length = 5 := rfl
    omega
  rw [(loop_fold embP partF (fun i s => s.2.2.length ≤ d.length + 50 + 4010 * i) outP f.2.2.1 (fun i p s hp hI => ?_) (fun s _ => ?_) (0, 0, d ++ encAll (heads last f)) (by omega)).1]
  · rw [show f.2.2.1.foldl partF (0, 0, d ++ encAll (heads last f)) = partsB d f last from rfl]
    simp only [Option.bind_some, sumE]
    rw [n59 [(f.2.2.2.1.length : Int)] (partsB d f last).2.2 (in_cons (by have := h.atts; omega) in_nil) (by simp; omega)]
    simp only [Option.bind_some]
    rw [show (partsB d f last).2.2 ++ encAll [(f.2.2.2.1.length : Int)] = attsB d f last from rfl]
    rw [(loop_fold (fun i (b : List UInt8) => ((i, (toI b, ())), ())) battB (fun i b => b.length ≤ (attsB d f last).length + 82 * i) (fun b => Sum.inl ((toI b, ()), ())) f.2.2.2.1 (fun i a b ha hI => ?_) (fun b _ => ?_) (attsB d f last) (by omega)).1]
    · rfl
    · have hlt := lt_of_get ha
      have hal := h.atts
      have hok := h.att a (List.mem_of_getElem? ha)
      have hal2 := attB_len (d := b) hok
      obtain ⟨k1, k2, k3, k4⟩ := hok
      have e1 := encAll_len [(a.1.size : Int)] (in_cons (by omega) in_nil)
      have e2 := encAll_len [a.2.1.1] (in_cons k3 in_nil)
      simp only [List.length_cons, List.length_nil] at e1 e2
      simp only [dec_lt hlt, inB_lt hlt, Int.toNat_natCast, ha, cond_true, Option.bind_some]
      rw [wrapS hlt (by omega), n96 a.1 b (by omega) (by omega)]
      simp only [Option.bind_some]
      rw [n59 [a.2.1.1] _ (in_cons k3 in_nil) (by simp only [List.length_append, ofS_len, List.length_cons, List.length_nil]; omega)]
      simp only [Option.bind_some]
      refine ⟨?_, by omega⟩
      have hlen2 : (b ++ (encAll [(a.1.size : Int)] ++ ofS a.1) ++ encAll [a.2.1.1]).length ≤ 100100000 := by simp only [List.length_append, ofS_len]; omega
      by_cases c1 : a.2.1.1 = 1
      · simp only [c1, decide_true, cond_true] at hlen2 ⊢
        rw [n59 [a.2.1.2.1] _ (in_cons k4 in_nil) (by simp only [List.length_cons, List.length_nil]; omega)]
        simp only [Option.bind_some, battB, c1, if_true]
      · by_cases c2 : a.2.1.1 = 2
        · have c1' : ¬ (2 : Int) = 1 := by decide
          simp only [c2, c1', decide_true, decide_false, cond_true, cond_false] at hlen2 ⊢
          rw [n96 a.2.1.2.2.1 _ (by omega) (by omega)]
          simp only [Option.bind_some, battB, c2, c1', if_true, if_false]
        · by_cases c3 : a.2.1.1 = 3
          · have c1' : ¬ (3 : Int) = 1 := by decide
            have c2' : ¬ (3 : Int) = 2 := by decide
            simp only [c3, c1', c2', decide_true, decide_false, cond_true, cond_false] at hlen2 ⊢
            have z1 : encAll [1] = [2] := by
              unfold encAll
              simp only [List.flatMap_cons, List.flatMap_nil, List.append_nil]
              rw [show zig 1 = 2 from rfl, varint_lt (by omega)]
              rfl
            have z0 : encAll [0] = [0] := by
              unfold encAll
              simp only [List.flatMap_cons, List.flatMap_nil, List.append_nil]
              rw [show zig 0 = 0 from rfl, varint_lt (by omega)]
              rfl
            cases hbv : a.2.1.2.2.2.1 with
            | true =>
              simp only [cond_true]
              rw [n59 [1] _ (in_cons (by omega) in_nil) (by simp only [List.length_cons, List.length_nil]; omega), z1]
              simp only [Option.bind_some, battB, c3, c1', c2', if_true, if_false, hbv]
            | false =>
              simp only [cond_false]
              rw [n59 [0] _ (in_cons (by omega) in_nil) (by simp only [List.length_cons, List.length_nil]; omega), z0]
              simp only [Option.bind_some, battB, c3, c1', c2', if_true, if_false, hbv]
              simp
          · simp only [c1, c2, c3, decide_false, cond_false, battB, if_false, List.append_nil]
    · simp only [dec_nlt, cond_false]
  · have hlt := lt_of_get hp
    have hpl := h.pts p (List.mem_of_getElem? hp)
    have hparts := h.parts
    have hpf := partF_len s p hpl
    dsimp only [embP]
    simp only [dec_lt hlt, inB_lt hlt, Int.toNat_natCast, hp, cond_true, Option.bind_some]
    have he := encAll_len _ (len_in hpl)
    simp only [List.length_cons, List.length_nil] at he
    rw [wrapS hlt (by omega), n59 [(p.length : Int)] s.2.2 (len_in hpl) (by simp only [List.length_cons, List.length_nil]; omega)]
    simp only [Option.bind_some]
    have hs0 : (s.2.2 ++ encAll [(p.length : Int)]).length ≤ s.2.2.length + 10 := by rw [List.length_append]; omega
    rw [(loop_fold embP ptF (fun i t => t.2.2.length ≤ s.2.2.length + 10 + 20 * i) outP p (fun j q t hq hJ => ?_) (fun t _ => ?_) (s.1, s.2.1, s.2.2 ++ encAll [(p.length : Int)]) (by omega)).1]
    · exact ⟨rfl, by omega⟩
    · have hqt := lt_of_get hq
      have hqf := ptF_len t q
      dsimp only [embP]
      simp only [dec_lt hqt, inB_lt hqt, Int.toNat_natCast, hq, cond_true, Option.bind_some]
      rw [wrapS hqt (by omega), n59 [IntKind.wrap .i64 (q.1 - t.1), IntKind.wrap .i64 (q.2.1 - t.2.1)] t.2.2 (pt_in t q) (by simp only [List.length_cons, List.length_nil]; omega)]
      exact ⟨rfl, by omega⟩
    · dsimp only [embP]
      simp only [dec_nlt, cond_false]
  · dsimp only [embP]
    simp only [dec_nlt, cond_false]
end Go.Proofs.YtjgiibfejfkocaaGreatDoor.I

namespace Go.Proofs.YtjgiibfejfkocaaGreatDoor.I
open Go.RowKit
set_option linter.unusedVariables false
set_option linter.constructorNameAsVariable false
theorem ofS_app (a b : ByteArray) : ofS (a ++ b) = ofS a ++ ofS b := by
  unfold ofS
  rw [ByteArray.data_append, Array.toList_append]
theorem enc1 (n : Int) : encAll [n] = varint (zig n) := by unfold encAll; simp
theorem size_app (a b : ByteArray) : (a ++ b).size = a.size + b.size := by
  rw [bytes_len, bytes_len, bytes_len, ← List.length_append]
  exact congrArg List.length (ofS_app a b)
def sumB (n : Nat) : List UInt8 := [UInt8.ofNat (n % 256), UInt8.ofNat (n / 256 % 256), UInt8.ofNat (n / 65536 % 256), UInt8.ofNat (n / 16777216 % 256)]
def surF (s : Int × List UInt8) (f : DFea) : Int × List UInt8 := (f.1, feaB s.2 f s.1)
def surB (l : List DFea) : List UInt8 := (l.foldl surF (0, [84, 49] ++ encAll [(l.length : Int)])).2
def total (l : List DFea) : List UInt8 := surB l ++ sumB (fnv (surB l))
theorem surB_len {l : List DFea} (h : ∀ f ∈ l, FeaOk f) (hl : l.length ≤ 200) : (surB l).length ≤ 20000000 := by
  unfold surB
  have h1 := fold_len surF (fun s => s.2.length) 90000 l (0, [84, 49] ++ encAll [(l.length : Int)]) (fun s f hf => feaB_len (h f hf))
  have h2 := encAll_len _ (len_in hl)
  simp only [List.length_append, List.length_cons, List.length_nil] at h1 h2
  have : 90000 * l.length ≤ 18000000 := by omega
  omega
theorem byte0 (n : Nat) : IntKind.wrap .u8 (n : Int) = ((UInt8.ofNat (n % 256)).toNat : Int) := by
  rw [wu8, UInt8.toNat_ofNat']; omega
theorem byte1 (n k : Nat) : IntKind.wrap .u8 (Int.fdiv (n : Int) (k : Int)) = ((UInt8.ofNat (n / k % 256)).toNat : Int) := by
  rw [wu8, Int.fdiv_eq_ediv_of_nonneg _ (by omega), UInt8.toNat_ofNat', ← Int.natCast_ediv]
  omega
set_option maxRecDepth 100000 in
set_option maxHeartbeats 1000000 in
theorem r33_eq (l : List DFea) (hs : small (.slice kFea) l) (h : ∀ f ∈ l, FeaOk f) (hl : l.length ≤ 200) (h0 : survV l = 0) :
    r21 (l, ()) = some (if 65536 < (total l).length then ([], (2, ())) else (toI (total l), (0, ()))) := by
  unfold r21
  have hb := surB_len h hl
  have e16 : r31 (l, ()) = some (survV l, ()) := r16_eq l hs
  simp only [e16, Option.bind_some, h0]
  have e2 : r32 ([(l.length : Int)], ()) ((List.cons (84 : Int) (List.cons (49 : Int) (List.nil))), ()) = some ((), (toI ([84, 49] ++ encAll [(l.length : Int)]), ())) := n59 [(l.length : Int)] [84, 49] (len_in hl) (by simp)
  simp only [e2, Option.bind_some]
  rw [(loop_fold (fun i (s : Int × List UInt8) => ((s.1, (i, (toI s.2, ()))), ())) surF (fun i s => s.2.length ≤ 20 + 90000 * i) (fun s => Sum.inl ((toI s.2, ()), ())) l (fun i f s hf hI => ?_) (fun s _ => ?_) (0, [84, 49] ++ encAll [(l.length : Int)]) (by have := encAll_len _ (len_in hl); simp at this ⊢; omega)).1]
  · rw [show (l.foldl surF (0, [84, 49] ++ encAll [(l.length : Int)])).2 = surB l from rfl]
    simp only [Option.bind_some, sumE]
    rw [r61_eq (surB l) (by omega)]
    have hsum : (List.cons (IntKind.wrap IntKind.u8 (fnv (surB l) : Int)) (List.cons (IntKind.wrap IntKind.u8 (Int.fdiv (fnv (surB l) : Int) (256 : Int))) (List.cons (IntKind.wrap IntKind.u8 (Int.fdiv (fnv (surB l) : Int) (65536 : Int))) (List.cons (IntKind.wrap IntKind.u8 (Int.fdiv (fnv (surB l) : Int) (16777216 : Int))) (List.nil))))) = toI (sumB (fnv (surB l))) := by
      generalize fnv (surB l) = n
      have b1 : IntKind.wrap IntKind.u8 (Int.fdiv (n : Int) (256 : Int)) = ((UInt8.ofNat (n / 256 % 256)).toNat : Int) := byte1 n 256
      have b2 : IntKind.wrap IntKind.u8 (Int.fdiv (n : Int) (65536 : Int)) = ((UInt8.ofNat (n / 65536 % 256)).toNat : Int) := byte1 n 65536
      have b3 : IntKind.wrap IntKind.u8 (Int.fdiv (n : Int) (16777216 : Int)) = ((UInt8.ofNat (n / 16777216 % 256)).toNat : Int) := byte1 n 16777216
      have b0 := byte0 n
      rw [b0, b1, b2, b3]
      rfl
    simp only [Option.bind_some, hsum, ← toI_app]
    rw [show surB l ++ sumB (fnv (surB l)) = total l from rfl]
    have ht : (total l).length = (surB l).length + 4 := by unfold total; rw [List.length_append]; rfl
    have hfit : fits ((toI (surB l)).length + (toI (sumB (fnv (surB l)))).length) 1 = true := fitsB (by rw [toI_len, toI_len]; show _ + 4 ≤ _; omega)
    rw [hfit, toI_len]
    by_cases hc : 65536 < (total l).length
    · have : decide ((65536 : Int) < ((total l).length : Int)) = true := by simp; omega
      simp [this, hc]
    · have : decide ((65536 : Int) < ((total l).length : Int)) = false := by simp; omega
      simp [this, hc]
  · have hlt := lt_of_get hf
    have hok := h f (List.mem_of_getElem? hf)
    have hfl := feaB_len (d := s.2) (last := s.1) hok
    have hI' : s.2.length ≤ 20 + 90000 * i := hI
    have hsl : s.2.length ≤ 100000000 := by clear hI hs; omega
    have e60 := r60_eq f s.1 s.2 hok hsl
    obtain ⟨id, kind, ps, ats, fr, tt, ⟨⟩⟩ := f
    simp only [dec_lt hlt, inB_lt hlt, Int.toNat_natCast, hf, cond_true, Option.bind_some]
    rw [e60, wrapS hlt (by omega)]
    refine ⟨rfl, ?_⟩
    refine Nat.le_trans hfl ?_
    clear hfl e60 hI hs
    omega
  · simp only [dec_nlt, cond_false]
end Go.Proofs.YtjgiibfejfkocaaGreatDoor.I

namespace Go.Proofs.YtjgiibfejfkocaaGreatDoor.I
open Go.RowKit
set_option linter.unusedVariables false
set_option linter.constructorNameAsVariable false
abbrev noB : ByteArray := ⟨List.toArray []⟩
/-- A value without what its kind does not use. -/
def ValV (v : DVal) : Prop := v = (0, (0, (noB, (false, ())))) ∨ (∃ n : Int, (-9223372036854775808 ≤ n ∧ n ≤ 9223372036854775807) ∧ v = (1, (n, (noB, (false, ()))))) ∨ (∃ s : ByteArray, s.size ≤ 40 ∧ v = (2, (0, (s, (false, ()))))) ∨ (∃ b : Bool, v = (3, (0, (noB, (b, ())))))
theorem valV_of {v : DVal} (h : checkV v = 0) : ValV v := by
  obtain ⟨k, n, s, b, ⟨⟩⟩ := v
  unfold checkV at h
  simp only at h
  split at h
  · cases h
  split at h
  · cases h
  split at h
  · cases h
  split at h
  · cases h
  split at h
  · cases h
  split at h
  · cases h
  split at h
  · cases h
  split at h
  · cases h
  rename_i k1 k2 k3 k4 k5 k6 k7 k8
  have hk : k = 0 ∨ k = 1 ∨ k = 2 ∨ k = 3 := by omega
  rcases hk with rfl | rfl | rfl | rfl
  · left
    have e1 : n = 0 := by
      by_cases hn : n = 0
      · exact hn
      · exact absurd ⟨by omega, hn⟩ k3
    have e2 : s = noB := by
      by_cases hn : s = noB
      · exact hn
      · exact absurd ⟨by omega, hn⟩ k4
    have e3 : b = false := by
      cases b
      · rfl
      · exact absurd ⟨by omega, rfl⟩ k5
    rw [e1, e2, e3]
  · right; left
    have e2 : s = noB := by
      by_cases hn : s = noB
      · exact hn
      · exact absurd ⟨by omega, hn⟩ k4
    have e3 : b = false := by
      cases b
      · rfl
      · exact absurd ⟨by omega, rfl⟩ k5
    exact ⟨n, by omega, by rw [e2, e3]⟩
  · right; right; left
    have e1 : n = 0 := by
      by_cases hn : n = 0
      · exact hn
      · exact absurd ⟨by omega, hn⟩ k3
    have e3 : b = false := by
      cases b
      · rfl
      · exact absurd ⟨by omega, rfl⟩ k5
    exact ⟨s, by omega, by rw [e1, e3]⟩
  · right; right; right
    have e1 : n = 0 := by
      by_cases hn : n = 0
      · exact hn
      · exact absurd ⟨by omega, hn⟩ k3
    have e2 : s = noB := by
      by_cases hn : s = noB
      · exact hn
      · exact absurd ⟨by omega, hn⟩ k4
    exact ⟨b, by rw [e1, e2]⟩
structure FeaV (f : DFea) : Prop where
  ok : FeaOk f
  id : -9223372036854775808 ≤ f.1 ∧ f.1 ≤ 9223372036854775807
  upto : -9223372036854775808 ≤ f.2.2.2.2.2.1 ∧ f.2.2.2.2.2.1 ≤ 9223372036854775807
  pts : ∀ p ∈ f.2.2.1, ∀ q ∈ p, InR q
  att : ∀ a ∈ f.2.2.2.1, ValV a.2.1
theorem in_wrap (x : Int) : -9223372036854775808 ≤ W64 x ∧ W64 x ≤ 9223372036854775807 := wrap64_in x
theorem zig1 : varint (zig 1) = [2] := by rw [show zig 1 = 2 by rfl, varint_lt (by omega)]; rfl
theorem zig0 : varint (zig 0) = [0] := by rw [show zig 0 = 0 by rfl, varint_lt (by omega)]; rfl
@[reducible] def embPa (f : DFea) (i : Int) (s : List (List DPt) × Int × Int × List UInt8) : (Int × Int × Int × List (List DPt) × Unit × Int × Int × Int × Int × List Int × Bool × Unit) × Unit :=
  ((i, (f.1, (f.2.1, (s.1, ((), (f.2.2.2.2.1, (f.2.2.2.2.2.1, (s.2.1, (s.2.2.1, (toI s.2.2.2, (false, ()))))))))))), ())
@[reducible] def embAt (f : DFea) (i : Int) (s : List DAtt × List UInt8) : (Int × Int × Int × List (List DPt) × List DAtt × Int × Int × List Int × Bool × Unit) × Unit :=
  ((i, (f.1, (f.2.1, (f.2.2.1, (s.1, (f.2.2.2.2.1, (f.2.2.2.2.2.1, (toI s.2, (false, ()))))))))), ())
def stA (l : List DAtt) (rest : List UInt8) (i : Nat) : List DAtt × List UInt8 := (l.take i, (l.drop i).flatMap encAtt ++ rest)
theorem fits56 {k : Nat} (h : k ≤ 100000) : fits k 56 = true := by unfold fits; simp; omega
theorem fits16' {k : Nat} (h : k ≤ 100000) : fits k 16 = true := by unfold fits; simp; omega
theorem fits24' {k : Nat} (h : k ≤ 100000) : fits k 24 = true := by unfold fits; simp; omega
theorem fits80' {k : Nat} (h : k ≤ 100000) : fits k 80 = true := by unfold fits; simp; omega
theorem stA_len (l : List DAtt) (rest : List UInt8) (hl : (l.flatMap encAtt ++ rest).length ≤ 1000000) : ∀ i, i ≤ l.length → (stA l rest i).2.length ≤ 1000000
  | 0, _ => by unfold stA; simpa using hl
  | i + 1, h => by
    have := stA_len l rest hl i (by omega)
    obtain ⟨a, ha⟩ := get_lt (show i < l.length by omega)
    unfold stA at this ⊢
    simp only at this ⊢
    rw [drop_cons ha, List.flatMap_cons] at this
    simp only [List.length_append] at this ⊢
    omega
set_option maxHeartbeats 4000000 in
set_option maxRecDepth 100000 in
theorem fea_read (last : Int) (f : DFea) (rest : List UInt8) (h : FeaV f) (hl : (encFea last f ++ rest).length ≤ 1000000) :
    r20 (last, ()) (toI (encFea last f ++ rest), (false, ())) = some ((f, ()), (toI rest, (false, ()))) := by
  unfold r20
  have hpl := h.ok.parts
  have hal := h.ok.atts
  obtain ⟨B3, hB3⟩ : ∃ B3, B3 = f.2.2.2.1.flatMap encAtt ++ rest := ⟨_, rfl⟩
  obtain ⟨B2, hB2⟩ : ∃ B2, B2 = varint (zig (f.2.2.2.1.length : Int)) ++ B3 := ⟨_, rfl⟩
  obtain ⟨B1, hB1⟩ : ∃ B1, B1 = encParts 0 0 f.2.2.1 ++ B2 := ⟨_, rfl⟩
  have e0 : encFea last f ++ rest = varint (zig (W64 (f.1 - last))) ++ (varint (zig f.2.1) ++ (varint (zig f.2.2.2.2.1) ++ (varint (zig (W64 (f.2.2.2.2.2.1 - f.2.2.2.2.1))) ++ (varint (zig (f.2.2.1.length : Int)) ++ B1)))) := by
    rw [hB1, hB2, hB3]
    unfold encFea heads
    simp only [enc_cons', enc_nil, List.append_assoc, List.nil_append]
  rw [e0] at hl ⊢
  have k1 := hl
  simp only [List.length_append] at k1
  have s1 := num_enc (W64 (f.1 - last)) _ (in_wrap _) hl
  have s2 := num_enc f.2.1 (varint (zig f.2.2.2.2.1) ++ (varint (zig (W64 (f.2.2.2.2.2.1 - f.2.2.2.2.1))) ++ (varint (zig (f.2.2.1.length : Int)) ++ B1))) h.ok.kind (by simp only [List.length_append]; omega)
  have s3 := num_enc f.2.2.2.2.1 (varint (zig (W64 (f.2.2.2.2.2.1 - f.2.2.2.2.1))) ++ (varint (zig (f.2.2.1.length : Int)) ++ B1)) h.ok.fr (by simp only [List.length_append]; omega)
  have s4 := num_enc (W64 (f.2.2.2.2.2.1 - f.2.2.2.2.1)) (varint (zig (f.2.2.1.length : Int)) ++ B1) (in_wrap _) (by simp only [List.length_append]; omega)
  have s5 := count_enc f.2.2.1.length 20 B1 (by omega) (by omega) (by simp only [List.length_append]; omega)
  have w1 : IntKind.wrap .i64 (last + W64 (f.1 - last)) = f.1 := wrap_back last f.1 h.id
  have w2 : IntKind.wrap .i64 (f.2.2.2.2.1 + W64 (f.2.2.2.2.2.1 - f.2.2.2.2.1)) = f.2.2.2.2.2.1 := wrap_back _ _ h.upto
  simp only [s1, s2, s3, s4, s5, Option.bind_some, w1, w2]
  have hl1 : (encParts 0 0 f.2.2.1 ++ B2).length ≤ 1000000 := by rw [← hB1]; omega
  refine loop_is (embPa f) f.2.2.1.length (stQ 0 0 f.2.2.1 B2) (fun s => Sum.inl ((f.1, (f.2.1, (s.1, ((), (f.2.2.2.2.1, (f.2.2.2.2.2.1, (s.2.1, (s.2.2.1, (toI s.2.2.2, (false, ())))))))))), ())) (fun i hi => ?_) ?_ ?_ ([], 0, 0, B1) (by unfold stQ; simp only [List.take_zero, List.drop_zero, endParts, ← hB1])
  · obtain ⟨p, hp, p1, p2⟩ := parts_step 0 0 f.2.2.1 B2 i hi
    have hlen := stQ_len 0 0 f.2.2.1 B2 hl1 i (by omega)
    have hpm := List.mem_of_getElem? hp
    have hp2 := h.ok.pts p hpm
    rw [p1] at hlen
    have t1 := count_enc p.length 200 _ (by omega) (by omega) hlen
    simp only [embPa, dec_lt hi, cond_true, p1, t1, Option.bind_some]
    generalize (stQ 0 0 f.2.2.1 B2 i).2.1 = x at p2 hlen ⊢
    generalize (stQ 0 0 f.2.2.1 B2 i).2.2.1 = y at p2 hlen ⊢
    have hfit : fits ((stQ 0 0 f.2.2.1 B2 i).1.length + [p].length) 24 = true := fits24' (by unfold stQ; simp only [List.length_take, List.length_cons, List.length_nil]; omega)
    have hlen2 : (encPts x y p ++ (stQ 0 0 f.2.2.1 B2 (i + 1)).2.2.2).length ≤ 1000000 := by
      simp only [List.length_append] at hlen ⊢; omega
    generalize (stQ 0 0 f.2.2.1 B2 i).1 = acc at p2 hfit ⊢
    rw [p2]
    generalize (stQ 0 0 f.2.2.1 B2 (i + 1)).2.2.2 = R at hlen2 ⊢
    refine loop_is embRp p.length (stP x y p R) (fun s => Sum.inl ((s.1, (s.2.1, (s.2.2.1, (toI s.2.2.2, (false, ()))))), ())) (fun j hj => ?_) ?_ ?_ ([], x, y, encPts x y p ++ R) (by unfold stP; simp only [List.take_zero, List.drop_zero, endPt])
    · obtain ⟨q, hq, q1, q2⟩ := pts_step x y p R (h.pts p hpm) hlen2 j hj
      have hl4 := stP_len x y p R (h.pts p hpm) hlen2 j (by omega)
      have hqr := h.pts p hpm q (List.mem_of_getElem? hq)
      rw [q1] at hl4
      have hl5 := hl4
      simp only [List.length_append] at hl5
      have u1 := num_enc _ _ (in_wrap _) hl4
      have u2 := num_enc (W64 (q.2.1 - (stP x y p R j).2.2.1)) (stP x y p R (j + 1)).2.2.2 (in_wrap _) (by simp only [List.length_append]; omega)
      have u3 : IntKind.wrap .i64 ((stP x y p R j).2.1 + W64 (q.1 - (stP x y p R j).2.1)) = q.1 := wrap_back _ _ hqr.1
      have u4 : IntKind.wrap .i64 ((stP x y p R j).2.2.1 + W64 (q.2.1 - (stP x y p R j).2.2.1)) = q.2.1 := wrap_back _ _ hqr.2
      have hf2 : fits ((stP x y p R j).1.length + [(q.1, (q.2.1, ()))].length) 16 = true := fits16' (by unfold stP; simp only [List.length_take, List.length_cons, List.length_nil]; omega)
      simp only [embRp, dec_lt hj, cond_true, q1, u1, u2, Option.bind_some, u3, u4, hf2]
      rw [wrapS hj (by omega), q2]
    · simp only [embRp, dec_nlt, cond_false]
    · simp only [sumE]
      have z1 : (stP x y p R p.length).1 = p := by unfold stP; simp
      have z2 : (stP x y p R p.length).2.1 = (endPt x y p).1 := by unfold stP; simp
      have z3 : (stP x y p R p.length).2.2.1 = (endPt x y p).2 := by unfold stP; simp
      have z4 : (stP x y p R p.length).2.2.2 = R := by unfold stP; simp [encPts]
      rw [z1, z2, z3, z4, hfit, wrapS hi (by omega)]
      rfl
  · simp only [embPa, dec_nlt, cond_false]
  · have z1 : (stQ 0 0 f.2.2.1 B2 f.2.2.1.length).1 = f.2.2.1 := by unfold stQ; simp
    have z4 : (stQ 0 0 f.2.2.1 B2 f.2.2.1.length).2.2.2 = B2 := by unfold stQ; simp [encParts]
    simp only [sumE, z1, z4]
    have hl6 : B2.length ≤ 1000000 := by simp only [List.length_append] at hl1; omega
    rw [hB2] at hl6 ⊢
    have t1 := count_enc f.2.2.2.1.length 8 B3 (by omega) (by omega) hl6
    simp only [t1, Option.bind_some]
    have hl7 : (f.2.2.2.1.flatMap encAtt ++ rest).length ≤ 1000000 := by rw [← hB3]; simp only [List.length_append] at hl6; omega
    refine loop_is (embAt f) f.2.2.2.1.length (stA f.2.2.2.1 rest) (fun s => Sum.inl ((f.1, (f.2.1, (f.2.2.1, (s.1, (f.2.2.2.2.1, (f.2.2.2.2.2.1, (toI s.2, (false, ())))))))), ())) (fun i hi => ?_) ?_ ?_ ([], B3) (by unfold stA; simp only [List.take_zero, List.drop_zero, ← hB3])
    · obtain ⟨a, ha⟩ := get_lt hi
      have ham := List.mem_of_getElem? ha
      have hao := h.ok.att a ham
      have hlA := stA_len f.2.2.2.1 rest hl7 i (by omega)
      have hn : (stA f.2.2.2.1 rest (i + 1)).1 = (stA f.2.2.2.1 rest i).1 ++ [a] := by unfold stA; exact take_succ ha
      have hb : (stA f.2.2.2.1 rest i).2 = varint (zig (a.1.size : Int)) ++ (ofS a.1 ++ (varint (zig a.2.1.1) ++ (encVal a.2.1 ++ (stA f.2.2.2.1 rest (i + 1)).2))) := by
        unfold stA
        simp only
        rw [drop_cons ha, List.flatMap_cons]
        unfold encAtt
        simp only [enc_one, List.append_assoc]
      have hf3 : ∀ z : DAtt, fits ((stA f.2.2.2.1 rest i).1.length + [z].length) 56 = true := fun z => fits56 (by unfold stA; simp only [List.length_take, List.length_cons, List.length_nil]; omega)
      have e2 : stA f.2.2.2.1 rest (i + 1) = ((stA f.2.2.2.1 rest i).1 ++ [a], (stA f.2.2.2.1 rest (i + 1)).2) := by rw [← hn]
      rw [hb] at hlA
      have hl8 := hlA
      simp only [List.length_append] at hl8
      have t2 := text_enc a.1 (varint (zig a.2.1.1) ++ (encVal a.2.1 ++ (stA f.2.2.2.1 rest (i + 1)).2)) (by have := hao.key; omega) hlA
      have t3 := num_enc a.2.1.1 (encVal a.2.1 ++ (stA f.2.2.2.1 rest (i + 1)).2) hao.kind (by simp only [List.length_append]; omega)
      simp only [embAt, dec_lt hi, cond_true, hb, t2, t3, Option.bind_some]
      rw [wrapS hi (by omega), e2]
      obtain ⟨key, v, ⟨⟩⟩ := a
      simp only at t3 hl8 hf3 ⊢
      generalize (stA f.2.2.2.1 rest (i + 1)).2 = R at hl8 ⊢
      generalize (stA f.2.2.2.1 rest i).1 = acc at hf3 ⊢
      rcases h.att _ ham with hv | ⟨n, hn1, hv⟩ | ⟨s, hs1, hv⟩ | ⟨b, hv⟩
      · have hv : v = (0, (0, (noB, (false, ())))) := hv
        subst hv
        have e3 : encVal ((0 : Int), ((0 : Int), (noB, (false, ())))) = [] := rfl
        have d1 : decide ((0 : Int) = 1) = false := rfl
        have d2 : decide ((0 : Int) = 2) = false := rfl
        have d3 : decide ((0 : Int) = 3) = false := rfl
        have hf4 := hf3 (key, (((0 : Int), ((0 : Int), (noB, (false, ())))), ()))
        simp only [d1, d2, d3, cond_false, e3, List.nil_append, hf4, cond_true]
      · have hv : v = (1, (n, (noB, (false, ())))) := hv
        subst hv
        have e3 : encVal ((1 : Int), (n, (noB, (false, ())))) = varint (zig n) := by
          rw [← enc_one]; rfl
        rw [e3] at hl8 ⊢
        have hf4 := hf3 (key, (((1 : Int), (n, (noB, (false, ())))), ()))
        have t4 := num_enc n R hn1 (by simp only [List.length_append]; omega)
        simp only [decide_true, t4, Option.bind_some, hf4, cond_true]
      · have hv : v = (2, (0, (s, (false, ())))) := hv
        subst hv
        have e3 : encVal ((2 : Int), ((0 : Int), (s, (false, ())))) = varint (zig (s.size : Int)) ++ ofS s := by
          rw [← enc_one]; rfl
        rw [e3] at hl8 ⊢
        rw [List.append_assoc]
        simp only [List.length_append] at hl8
        have d1 : decide ((2 : Int) = 1) = false := rfl
        have hf4 := hf3 (key, (((2 : Int), ((0 : Int), (s, (false, ())))), ()))
        have t4 := text_enc s R (by omega) (by simp only [List.length_append]; omega)
        simp only [d1, decide_true, t4, Option.bind_some, hf4, cond_true, cond_false]
      · have hv : v = (3, (0, (noB, (b, ())))) := hv
        subst hv
        have e3 : encVal ((3 : Int), ((0 : Int), (noB, (b, ())))) = varint (zig (if b then 1 else 0)) := by
          cases b
          · exact zig0.symm
          · exact zig1.symm
        rw [e3] at hl8 ⊢
        have d1 : decide ((3 : Int) = 1) = false := rfl
        have d2 : decide ((3 : Int) = 2) = false := rfl
        have hf4 := hf3 (key, (((3 : Int), ((0 : Int), (noB, (b, ())))), ()))
        have t4 := num_enc (if b then 1 else 0) R (by cases b <;> simp) (by simp only [List.length_append]; omega)
        have d4 : decide ((if b then (1 : Int) else 0) = 1) = b := by cases b <;> rfl
        simp only [d1, d2, decide_true, t4, Option.bind_some, d4, hf4, cond_true, cond_false]
    · simp only [embAt, dec_nlt, cond_false]
    · have z5 : (stA f.2.2.2.1 rest f.2.2.2.1.length) = (f.2.2.2.1, rest) := by unfold stA; simp
      rw [z5]
      rfl
end Go.Proofs.YtjgiibfejfkocaaGreatDoor.I

namespace Go.Proofs.YtjgiibfejfkocaaGreatDoor.I
open Go.RowKit
set_option linter.unusedVariables false
set_option linter.constructorNameAsVariable false
theorem fold_surv : ∀ (l : List DFea) (last : Int) (d : List UInt8), (l.foldl surF (last, d)).2 = d ++ encFs last l
  | [], _, d => by simp [encFs]
  | f :: l, last, d => by
    rw [List.foldl_cons]
    show (l.foldl surF (f.1, feaB d f last)).2 = _
    rw [fold_surv l, fea_enc]
    simp [encFs]
theorem surB_eq (l : List DFea) : surB l = [84, 49] ++ (varint (zig (l.length : Int)) ++ encFs 0 l) := by
  unfold surB
  rw [fold_surv, enc_one]
  simp
theorem total_len (l : List DFea) : (total l).length = (surB l).length + 4 := by unfold total; rw [List.length_append]; rfl
theorem surB_min (l : List DFea) : 3 ≤ (surB l).length := by
  rw [surB_eq]
  have := varint_pos (zig (l.length : Int))
  simp only [List.length_append, List.length_cons, List.length_nil]
  omega
theorem mkI_inj {a b : List UInt8} (h : mkStr (toI a) = mkStr (toI b)) : a = b := by
  rw [mkStr_toI, mkStr_toI] at h
  have := congrArg ofS h
  exact this
theorem dec_mk (a b : List UInt8) : decide (mkStr (toI a) = mkStr (toI b)) = decide (a = b) := by
  by_cases h : a = b
  · subst h; simp
  · rw [decide_eq_false h, decide_eq_false (fun he => h (mkI_inj he))]
theorem sum_list (n : Nat) : (List.cons (IntKind.wrap IntKind.u8 (n : Int)) (List.cons (IntKind.wrap IntKind.u8 (Int.fdiv (n : Int) (HPow.hPow (2 : Int) (Min.min (Int.toNat (8 : Int)) (IntKind.bits IntKind.u32))))) (List.cons (IntKind.wrap IntKind.u8 (Int.fdiv (n : Int) (HPow.hPow (2 : Int) (Min.min (Int.toNat (16 : Int)) (IntKind.bits IntKind.u32))))) (List.cons (IntKind.wrap IntKind.u8 (Int.fdiv (n : Int) (HPow.hPow (2 : Int) (Min.min (Int.toNat (24 : Int)) (IntKind.bits IntKind.u32))))) (List.nil))))) = toI (sumB n) := by
  have p8 : (HPow.hPow (2 : Int) (Min.min (Int.toNat (8 : Int)) (IntKind.bits IntKind.u32)) : Int) = 256 := rfl
  have p16 : (HPow.hPow (2 : Int) (Min.min (Int.toNat (16 : Int)) (IntKind.bits IntKind.u32)) : Int) = 65536 := rfl
  have p24 : (HPow.hPow (2 : Int) (Min.min (Int.toNat (24 : Int)) (IntKind.bits IntKind.u32)) : Int) = 16777216 := rfl
  rw [p8, p16, p24]
  have b1 : IntKind.wrap IntKind.u8 (Int.fdiv (n : Int) (256 : Int)) = ((UInt8.ofNat (n / 256 % 256)).toNat : Int) := byte1 n 256
  have b2 : IntKind.wrap IntKind.u8 (Int.fdiv (n : Int) (65536 : Int)) = ((UInt8.ofNat (n / 65536 % 256)).toNat : Int) := byte1 n 65536
  have b3 : IntKind.wrap IntKind.u8 (Int.fdiv (n : Int) (16777216 : Int)) = ((UInt8.ofNat (n / 16777216 % 256)).toNat : Int) := byte1 n 16777216
  have b0 := byte0 n
  rw [b0, b1, b2, b3]
  rfl
/-- The first checks of what is read. -/
def headR (d : List UInt8) : Option Int := if 65536 < d.length then some 2 else if d.length < 6 then some 14 else if d.take 2 ≠ [84, 49] then some 3 else if d.drop (d.length - 4) ≠ sumB (fnv (d.take (d.length - 4))) then some 13 else none
theorem read_bad (d : List UInt8) (e : Int) (h : headR d = some e) : r7 (toI d, ()) = some ([], (e, ())) := by
  unfold headR at h
  unfold r7
  by_cases h1 : 65536 < d.length
  · rw [if_pos h1] at h
    injection h with h
    subst h
    have e1 : decide ((65536 : Int) < ((toI d).length : Int)) = true := decide_eq_true (by rw [toI_len]; omega)
    simp only [e1, cond_true]
  · rw [if_neg h1] at h
    have e1 : decide ((65536 : Int) < ((toI d).length : Int)) = false := decide_eq_false (by rw [toI_len]; omega)
    by_cases h2 : d.length < 6
    · rw [if_pos h2] at h
      injection h with h
      subst h
      have e2 : decide (((toI d).length : Int) < 6) = true := decide_eq_true (by rw [toI_len]; omega)
      simp only [e1, e2, cond_true, cond_false]
    · rw [if_neg h2] at h
      have e2 : decide (((toI d).length : Int) < 6) = false := decide_eq_false (by rw [toI_len]; omega)
      have e3 : upTo (2 : Int) ((toI d).length : Int) = true := by rw [toI_len]; unfold upTo; simp; omega
      have e4 : (toI d).take (Int.toNat (2 : Int)) = toI (d.take 2) := toI_take d 2
      have e5 : (ByteArray.mk (List.toArray (List.cons (84 : UInt8) (List.cons (49 : UInt8) (List.nil))))) = mkStr (toI [84, 49]) := (mkStr_toI _).symm
      have w4 : IntKind.wrap .i64 (((toI d).length : Int) - 4) = ((d.length - 4 : Nat) : Int) := by rw [toI_len, wrap64 (by omega) (by omega)]; omega
      have e6 : upTo (((d.length - 4 : Nat)) : Int) ((toI d).length : Int) = true := by rw [toI_len]; unfold upTo; exact decide_eq_true ⟨by omega, by omega⟩
      simp only [e1, e2, e3, e4, e5, dec_mk, cond_true, cond_false]
      by_cases h3 : d.take 2 ≠ [84, 49]
      · rw [if_pos h3] at h
        injection h with h
        subst h
        rw [decide_eq_false h3]
        simp only [Bool.not_false, cond_true]
      · rw [if_neg h3] at h
        have h3 : d.take 2 = [84, 49] := by simpa using h3
        rw [decide_eq_true h3]
        by_cases h4 : d.drop (d.length - 4) ≠ sumB (fnv (d.take (d.length - 4)))
        · rw [if_pos h4] at h
          injection h with h
          subst h
          simp only [Bool.not_true, cond_false, w4, e6, cond_true, Int.toNat_natCast, toI_take, toI_drop, r61_eq (d.take (d.length - 4)) (by rw [List.length_take]; omega), Option.bind_some, sum_list, dec_mk, decide_eq_false h4, Bool.not_false]
        · rw [if_neg h4] at h
          cases h
theorem eqBytes_same (a : List UInt8) (hl : a.length ≤ 1000000) : r10 (toI a, (toI a, ())) = some (true, ()) := by
  unfold r10
  simp only [decide_true, Bool.not_true, cond_false]
  refine loop_is (fun (i : Int) (_ : Unit) => ((i, ()), ())) (toI a).length (fun i => ()) (fun _ => Sum.inr (Sum.inl ((), ()))) (fun i hi => ?_) ?_ rfl () rfl
  · have hi2 : i < a.length := by rw [toI_len] at hi; exact hi
    obtain ⟨c, hc⟩ := get_lt hi2
    simp only [dec_lt hi, inB_lt hi, Int.toNat_natCast, toI_get hc, cond_true, Option.bind_some, decide_true, Bool.not_true, cond_false]
    rw [wrapS hi (by rw [toI_len]; omega)]
  · simp only [dec_nlt, cond_false]
@[reducible] def embRd (i : Int) (s : List DFea × Int × List UInt8) : (List DFea × Int × Int × List Int × Bool × Unit) × Unit := ((s.1, (s.2.1, (i, (toI s.2.2, (false, ()))))), ())
def lastId (p : Int) : List DFea → Int
  | [] => p
  | f :: l => lastId f.1 l
theorem lastId_snoc : ∀ (l : List DFea) (p : Int) (f : DFea), lastId p (l ++ [f]) = f.1
  | [], _, _ => rfl
  | g :: l, p, f => by simp only [List.cons_append, lastId]; exact lastId_snoc l _ f
def stF (l : List DFea) (i : Nat) : List DFea × Int × List UInt8 := (l.take i, lastId 0 (l.take i), encFs (lastId 0 (l.take i)) (l.drop i))
theorem fs_step (l : List DFea) (i : Nat) (hi : i < l.length) : ∃ f, l[i]? = some f ∧ (stF l i).2.2 = encFea (stF l i).2.1 f ++ (stF l (i + 1)).2.2 ∧ stF l (i + 1) = ((stF l i).1 ++ [f], f.1, (stF l (i + 1)).2.2) := by
  obtain ⟨f, hf⟩ := get_lt hi
  refine ⟨f, hf, ?_, ?_⟩
  · unfold stF
    simp only
    rw [drop_cons hf, take_succ hf, lastId_snoc]
    rfl
  · unfold stF
    simp only [take_succ hf, lastId_snoc]
theorem stF_len (l : List DFea) (hl : (encFs 0 l).length ≤ 1000000) : ∀ i, i ≤ l.length → (stF l i).2.2.length ≤ 1000000
  | 0, _ => by unfold stF; simpa [lastId] using hl
  | i + 1, h => by
    obtain ⟨f, _, h2, _⟩ := fs_step l i (by omega)
    have := stF_len l hl i (by omega)
    rw [h2] at this
    simp only [List.length_append] at this
    omega
set_option maxHeartbeats 2000000 in
set_option maxRecDepth 100000 in
theorem read_total (l : List DFea) (hs : small (.slice kFea) l) (hv : ∀ f ∈ l, FeaV f) (hl : l.length ≤ 200) (h0 : survV l = 0) (h : (total l).length ≤ 65536) : r7 (toI (total l), ()) = some (l, (0, ())) := by
  have hm := surB_min l
  have ht := total_len l
  have d1 : (total l).length - 4 = (surB l).length := by omega
  have d2 : (total l).take (surB l).length = surB l := by unfold total; rw [List.take_left]
  have d3 : (total l).drop (surB l).length = sumB (fnv (surB l)) := by unfold total; rw [List.drop_left]
  have d4 : (total l).take 2 = [84, 49] := by unfold total; rw [surB_eq]; rfl
  have d5 : (surB l).drop 2 = varint (zig (l.length : Int)) ++ encFs 0 l := by rw [surB_eq]; rfl
  unfold r7
  have e1 : decide ((65536 : Int) < ((toI (total l)).length : Int)) = false := decide_eq_false (by rw [toI_len]; omega)
  have e2 : decide (((toI (total l)).length : Int) < 6) = false := decide_eq_false (by rw [toI_len]; omega)
  have e3 : upTo (2 : Int) ((toI (total l)).length : Int) = true := by rw [toI_len]; unfold upTo; simp; omega
  have e4 : (toI (total l)).take (Int.toNat (2 : Int)) = toI [84, 49] := by rw [← d4]; exact toI_take _ 2
  have e5 : (ByteArray.mk (List.toArray (List.cons (84 : UInt8) (List.cons (49 : UInt8) (List.nil))))) = mkStr (toI [84, 49]) := (mkStr_toI _).symm
  have w4 : IntKind.wrap .i64 (((toI (total l)).length : Int) - 4) = (((surB l).length : Nat) : Int) := by rw [toI_len, wrap64 (by omega) (by omega)]; omega
  have e6 : upTo (((surB l).length : Nat) : Int) ((toI (total l)).length : Int) = true := by rw [toI_len]; unfold upTo; simp; omega
  have e7 : upTo (2 : Int) ((toI (surB l)).length : Int) = true := by rw [toI_len]; unfold upTo; simp; omega
  have e8 : (toI (surB l)).drop 2 = toI (varint (zig (l.length : Int)) ++ encFs 0 l) := by rw [← d5]; exact toI_drop _ 2
  have hlen : (varint (zig (l.length : Int)) ++ encFs 0 l).length ≤ 1000000 := by rw [← d5, List.length_drop]; omega
  have e9 := count_enc l.length 200 (encFs 0 l) (by omega) (by omega) hlen
  simp only [e1, e2, e3, e4, e5, decide_true, Bool.not_true, cond_true, cond_false, w4, e6, Int.toNat_natCast, toI_take, toI_drop, d2, d3, r61_eq (surB l) (by omega), Option.bind_some, sum_list, e7, d5, e9]
  have hfl : (encFs 0 l).length ≤ 1000000 := by rw [List.length_append] at hlen; omega
  refine loop_is embRd l.length (stF l) (fun s => Sum.inr (Sum.inl ((s.1, (toI s.2.2, (false, ()))), ()))) (fun i hi => ?_) ?_ ?_ ([], 0, encFs 0 l) (by unfold stF; simp only [List.take_zero, List.drop_zero, lastId])
  · obtain ⟨f, hf, f1, f2⟩ := fs_step l i hi
    have hlen2 := stF_len l hfl i (by omega)
    rw [f1] at hlen2
    have r1 := fea_read (stF l i).2.1 f (stF l (i + 1)).2.2 (hv f (List.mem_of_getElem? hf)) hlen2
    have hfit : fits ((stF l i).1.length + [(f.1, (f.2.1, (f.2.2.1, (f.2.2.2.1, (f.2.2.2.2.1, (f.2.2.2.2.2.1, ()))))))].length) 80 = true := fits80' (by unfold stF; simp only [List.length_take, List.length_cons, List.length_nil]; omega)
    simp only [embRd, dec_lt hi, cond_true, f1, r1, Option.bind_some, cond_false, hfit]
    rw [wrapS hi (by omega), f2]
  · simp only [embRd, dec_nlt, cond_false]
  · have z1 : (stF l l.length).1 = l := by unfold stF; simp
    have r2 := r33_eq l hs (fun f hf => (hv f hf).ok) hl h0
    rw [if_neg (by omega)] at r2
    simp only [sumE, z1, r2, Option.bind_some, decide_true, Bool.not_true, cond_false, eqBytes_same (total l) (by omega)]
end Go.Proofs.YtjgiibfejfkocaaGreatDoor.I

namespace Go.Proofs.YtjgiibfejfkocaaGreatDoor.I
open Go.RowKit
set_option linter.unusedVariables false
set_option linter.constructorNameAsVariable false
@[reducible] def embR (i : Int) (s : PtS) : (Int × Int × Int × Unit × List Int × Unit) × Unit := ((s.1, (s.2.1, (i, ((), (toI s.2.2, ()))))), ())
@[reducible] def outR (s : PtS) : ((Int × Int × Unit × List Int × Unit) × Unit) ⊕ Empty := Sum.inl ((s.1, (s.2.1, ((), (toI s.2.2, ())))), ())
@[reducible] def outQ (s : PtS) : ((Unit × List Int × Unit) × Unit) ⊕ Empty := Sum.inl (((), (toI s.2.2, ())), ())
theorem r63_size {n : Int} (h0 : -9223372036854775808 ≤ n) (h1 : n ≤ 9223372036854775807) : (ByteArray.mk (varint (zig n)).toArray).size ≤ 10 := by
  rw [size_mk]; exact zig_len h0 h1
/-- The four bytes of the sum. -/
def sumF (s : Nat × List UInt8) (_ : Unit) : Nat × List UInt8 := (s.1 / 256, s.2 ++ [UInt8.ofNat (s.1 % 256)])
theorem sumF_eq (n : Nat) (b : List UInt8) : ([(), (), (), ()].foldl sumF (n, b)).2 = b ++ sumB n := by
  simp only [List.foldl_cons, List.foldl_nil, sumF, sumB, List.append_assoc, List.cons_append, List.nil_append]
  rw [Nat.div_div_eq_div_mul, Nat.div_div_eq_div_mul]
set_option maxRecDepth 100000 in
set_option maxHeartbeats 4000000 in
theorem r34_eq (l : List DFea) (h : ∀ f ∈ l, FeaOk f) (hl : l.length ≤ 200) : r6 (l, ()) = some (⟨(total l).toArray⟩, ()) := by
  unfold r6
  have hb := surB_len h hl
  have hin := len_in hl
  have hz := r63_size (n := (l.length : Int)) (by omega) (by omega)
  have hhead : ofS (ByteArray.mk (List.toArray (List.cons (84 : UInt8) (List.cons (49 : UInt8) (List.nil))))) = [84, 49] := rfl
  have hsz2 : (ByteArray.mk (List.toArray (List.cons (84 : UInt8) (List.cons (49 : UInt8) (List.nil))))).size = 2 := rfl
  simp only [r63_eq (l.length : Int) (by omega) (by omega), Option.bind_some, hsz2, big (show 2 + (ByteArray.mk (varint (zig (l.length : Int))).toArray).size ≤ 1000000000 by omega), cond_false]
  have e62' : r13 (((ByteArray.mk (List.toArray (List.cons (84 : UInt8) (List.cons (49 : UInt8) (List.nil))))) ++ (ByteArray.mk (varint (zig (l.length : Int))).toArray)), ()) ((), (List.nil, ())) = some ((((((ByteArray.mk (List.toArray (List.cons (84 : UInt8) (List.cons (49 : UInt8) (List.nil))))) ++ (ByteArray.mk (varint (zig (l.length : Int))).toArray)).size : Nat) : Int), (false, ())), ((), (toI ([84, 49] ++ encAll [(l.length : Int)]), ()))) := by
    have e62 := n62 ((ByteArray.mk (List.toArray (List.cons (84 : UInt8) (List.cons (49 : UInt8) (List.nil))))) ++ (ByteArray.mk (varint (zig (l.length : Int))).toArray)) [] (by rw [size_app, hsz2]; simp; omega)
    rw [List.nil_append, ofS_app, hhead, ofS_mk] at e62
    rw [enc1]
    exact e62
  simp only [e62', Option.bind_some]
  rw [(loop_fold (fun i (s : Int × List UInt8) => ((s.1, (i, ((), (toI s.2, ())))), ())) surF (fun i s => s.2.length ≤ 20 + 90000 * i) (fun s => Sum.inl (((), (toI s.2, ())), ())) l (fun i f s hf hI => ?_) (fun s _ => ?_) (0, [84, 49] ++ encAll [(l.length : Int)]) (by have := encAll_len _ hin; simp at this ⊢; omega)).1]
  · rw [show (l.foldl surF (0, [84, 49] ++ encAll [(l.length : Int)])).2 = surB l from rfl]
    simp only [Option.bind_some, sumE]
    rw [r66_eq (toI (surB l)) (by rw [toI_len]; omega)]
    simp only [Option.bind_some, mkStr_toI]
    rw [r65_eq ⟨(surB l).toArray⟩ (by rw [size_mk]; omega)]
    simp only [Option.bind_some]
    rw [(loop_fold (fun i (s : Nat × List UInt8) => (((s.1 : Int), (i, ((), (toI s.2, ())))), ())) sumF (fun i s => s.2.length ≤ 20000000 + i) (fun s => Sum.inl (((), (toI s.2, ())), ())) [(), (), (), ()] (fun i f s hf hI => ?_) (fun s _ => ?_) (fnv (surB l), surB l) (by omega)).1]
    · have ht : (total l).length = (surB l).length + 4 := by unfold total; rw [List.length_append]; rfl
      simp only [Option.bind_some, sumE]
      rw [sumF_eq, show surB l ++ sumB (fnv (surB l)) = total l from rfl, r66_eq (toI (total l)) (by rw [toI_len]; omega)]
      simp only [Option.bind_some, mkStr_toI]
    · have hlt := lt_of_get hf
      have hlt4 : i < 4 := hlt
      have hd : decide ((i : Int) < 4) = true := by simp; omega
      have hI' : s.2.length ≤ 20000000 + i := hI
      simp only [hd, cond_true]
      rw [r67_eq _ (toI s.2) (by rw [toI_len]; omega), wrapS hlt (by decide), byte0, show Int.fdiv (s.1 : Int) 256 = ((s.1 / 256 : Nat) : Int) by rw [Int.fdiv_eq_ediv_of_nonneg _ (by omega)]; omega]
      simp only [Option.bind_some]
      refine ⟨?_, ?_⟩
      · show some _ = some _
        simp only [sumF, toI_app]
        rfl
      · show (s.2 ++ [_]).length ≤ _
        rw [List.length_append]
        simp
        omega
    · have hd : decide (((([(), (), (), ()] : List Unit).length : Nat) : Int) < 4) = false := by decide
      simp only [hd, cond_false]
  · have hlt := lt_of_get hf
    have hok := h f (List.mem_of_getElem? hf)
    have hI' : s.2.length ≤ 20 + 90000 * i := hI
    have hsl : s.2.length ≤ 100000000 := by clear hI; omega
    have hfl := feaB_len (d := s.2) (last := s.1) hok
    have hb1 := partsB_len (d := s.2) (last := s.1) hok
    have hb2 := attsB_len (d := s.2) (last := s.1) hok
    clear hI
    simp only [dec_lt hlt, inB_lt hlt, Int.toNat_natCast, hf, cond_true, Option.bind_some]
    rw [wrapS hlt (by omega)]
    have h1 := n64 (heads s.1 f) s.2 (heads_in hok) (by show s.2.length + 10 * 5 ≤ _; omega)
    have h1' : r15 ((List.cons (IntKind.wrap IntKind.i64 (HSub.hSub f.1 s.1)) (List.cons f.2.1 (List.cons f.2.2.2.2.1 (List.cons (IntKind.wrap IntKind.i64 (HSub.hSub f.2.2.2.2.2.1 f.2.2.2.2.1)) (List.cons (Nat.cast (List.length f.2.2.1) : Int) (List.nil)))))), ()) ((), (toI s.2, ())) = some ((), ((), (toI (s.2 ++ encAll (heads s.1 f)), ()))) := h1
    simp only [h1', Option.bind_some]
    have hd0 : (s.2 ++ encAll (heads s.1 f)).length ≤ s.2.length + 50 := by
      have := encAll_len _ (heads_in (last := s.1) hok)
      rw [List.length_append]
      have h4 : (heads s.1 f).length = 5 := rfl
      omega
    rw [(loop_fold embR partF (fun i t => t.2.2.length ≤ s.2.length + 50 + 4010 * i) outQ f.2.2.1 (fun j p t hp hJ => ?_) (fun t _ => ?_) (0, 0, s.2 ++ encAll (heads s.1 f)) (by omega)).1]
    · rw [show f.2.2.1.foldl partF (0, 0, s.2 ++ encAll (heads s.1 f)) = partsB s.2 f s.1 from rfl]
      simp only [Option.bind_some, sumE]
      rw [n64 [(f.2.2.2.1.length : Int)] (partsB s.2 f s.1).2.2 (in_cons (by have := hok.atts; omega) in_nil) (by simp; omega)]
      simp only [Option.bind_some]
      rw [show (partsB s.2 f s.1).2.2 ++ encAll [(f.2.2.2.1.length : Int)] = attsB s.2 f s.1 from rfl]
      rw [(loop_fold (fun i (b : List UInt8) => ((i, ((), (toI b, ()))), ())) battB (fun i b => b.length ≤ (attsB s.2 f s.1).length + 82 * i) (fun b => Sum.inl (((), (toI b, ())), ())) f.2.2.2.1 (fun j a b ha hJ => ?_) (fun b _ => ?_) (attsB s.2 f s.1) (by omega)).1]
      · refine ⟨rfl, ?_⟩
        refine Nat.le_trans hfl ?_
        clear hfl h1 h1' e62'
        omega
      · have hjt := lt_of_get ha
        have hal := hok.atts
        have hka := hok.att a (List.mem_of_getElem? ha)
        have hal2 := attB_len (d := b) hka
        obtain ⟨k1, k2, k3, k4⟩ := hka
        have hJ' : b.length ≤ (attsB s.2 f s.1).length + 82 * j := hJ
        have hbl : b.length ≤ 200000000 := by clear hJ h1 h1' e62'; omega
        have e1 := r63_size (n := (a.1.size : Int)) (by omega) (by omega)
        have e2 := r63_size (n := a.2.1.1) k3.1 k3.2
        simp only [dec_lt hjt, inB_lt hjt, Int.toNat_natCast, ha, cond_true, Option.bind_some, r63_eq (a.1.size : Int) (by omega) (by omega), r63_eq a.2.1.1 k3.1 k3.2]
        rw [wrapS hjt (by omega), big (show (ByteArray.mk (varint (zig (a.1.size : Int))).toArray).size + a.1.size ≤ 1000000000 by omega), big (show (ByteArray.mk (varint (zig (a.1.size : Int))).toArray ++ a.1).size + (ByteArray.mk (varint (zig a.2.1.1)).toArray).size ≤ 1000000000 by rw [size_app]; omega)]
        simp only [cond_false]
        have e4 := encAll_len [(a.1.size : Int)] (in_cons (by omega) in_nil)
        have e5 := encAll_len [a.2.1.1] (in_cons k3 in_nil)
        simp only [List.length_cons, List.length_nil] at e4 e5
        have hlen2 : (b ++ (encAll [(a.1.size : Int)] ++ ofS a.1) ++ encAll [a.2.1.1]).length ≤ 200001000 := by simp only [List.length_append, ofS_len]; omega
        rw [n62 ((ByteArray.mk (varint (zig (a.1.size : Int))).toArray ++ a.1) ++ ByteArray.mk (varint (zig a.2.1.1)).toArray) b (by rw [size_app, size_app]; omega)]
        simp only [Option.bind_some]
        rw [ofS_app, ofS_app, ofS_mk (varint (zig (a.1.size : Int))), ofS_mk (varint (zig a.2.1.1)), ← enc1 (a.1.size : Int), ← enc1 a.2.1.1, ← List.append_assoc b (encAll [(a.1.size : Int)] ++ ofS a.1) (encAll [a.2.1.1])]
        refine ⟨?_, by omega⟩
        by_cases c1 : a.2.1.1 = 1
        · simp only [c1, decide_true, cond_true] at hlen2 ⊢
          rw [n64 [a.2.1.2.1] _ (in_cons k4 in_nil) (by simp only [List.length_cons, List.length_nil]; omega)]
          simp only [Option.bind_some, battB, c1, if_true]
        · by_cases c2 : a.2.1.1 = 2
          · have c1' : ¬ (2 : Int) = 1 := by decide
            have e6 := r63_size (n := (a.2.1.2.2.1.size : Int)) (by omega) (by omega)
            simp only [c2, c1', decide_true, decide_false, cond_true, cond_false, r63_eq (a.2.1.2.2.1.size : Int) (by omega) (by omega), Option.bind_some] at hlen2 ⊢
            rw [big (show (ByteArray.mk (varint (zig (a.2.1.2.2.1.size : Int))).toArray).size + a.2.1.2.2.1.size ≤ 1000000000 by omega)]
            simp only [cond_false]
            rw [n62 (ByteArray.mk (varint (zig (a.2.1.2.2.1.size : Int))).toArray ++ a.2.1.2.2.1) _ (by rw [size_app]; omega), ofS_app, ofS_mk (varint (zig (a.2.1.2.2.1.size : Int))), ← enc1 (a.2.1.2.2.1.size : Int)]
            simp only [Option.bind_some, battB, c2, c1', if_true, if_false]
          · by_cases c3 : a.2.1.1 = 3
            · have c1' : ¬ (3 : Int) = 1 := by decide
              have c2' : ¬ (3 : Int) = 2 := by decide
              simp only [c3, c1', c2', decide_true, decide_false, cond_true, cond_false] at hlen2 ⊢
              cases hbv : a.2.1.2.2.2.1 with
              | true =>
                simp only [show (true == false) = false from rfl, show (true == true) = true from rfl, cond_true, cond_false]
                rw [n62 (ByteArray.mk (List.toArray (List.cons (2 : UInt8) List.nil))) _ (Nat.le_trans (Nat.add_le_add_right hlen2 1) (by decide)), ofS_mk [2]]
                simp only [Option.bind_some, battB, c3, c1', c2', if_true, if_false, hbv]
              | false =>
                simp only [show (false == false) = true from rfl, cond_true]
                rw [n62 (ByteArray.mk (List.toArray (List.cons (0 : UInt8) List.nil))) _ (Nat.le_trans (Nat.add_le_add_right hlen2 1) (by decide)), ofS_mk [0]]
                simp only [Option.bind_some, battB, c3, c1', c2', if_true, if_false, hbv]
                simp
            · simp only [c1, c2, c3, decide_false, cond_false, battB, if_false, List.append_nil]
      · simp only [dec_nlt, cond_false]
    · have hjt := lt_of_get hp
      have hpl := hok.pts p (List.mem_of_getElem? hp)
      have hparts := hok.parts
      have hpf := partF_len t p hpl
      have hJ' : t.2.2.length ≤ s.2.length + 50 + 4010 * j := hJ
      have htl : t.2.2.length ≤ 200000000 := by clear hJ h1 h1' e62'; omega
      dsimp only [embR]
      simp only [dec_lt hjt, inB_lt hjt, Int.toNat_natCast, hp, cond_true, Option.bind_some]
      have he := encAll_len _ (len_in hpl)
      simp only [List.length_cons, List.length_nil] at he
      rw [wrapS hjt (by omega), n64 [(p.length : Int)] t.2.2 (len_in hpl) (by simp only [List.length_cons, List.length_nil]; omega)]
      simp only [Option.bind_some]
      have hs0 : (t.2.2 ++ encAll [(p.length : Int)]).length ≤ t.2.2.length + 10 := by rw [List.length_append]; omega
      rw [(loop_fold embR ptF (fun i u => u.2.2.length ≤ t.2.2.length + 10 + 20 * i) outR p (fun k q u hq hK => ?_) (fun u _ => ?_) (t.1, t.2.1, t.2.2 ++ encAll [(p.length : Int)]) (by omega)).1]
      · exact ⟨rfl, by clear hJ h1 h1' e62'; omega⟩
      · have hqt := lt_of_get hq
        have hqf := ptF_len u q
        have hK' : u.2.2.length ≤ t.2.2.length + 10 + 20 * k := hK
        dsimp only [embR]
        simp only [dec_lt hqt, inB_lt hqt, Int.toNat_natCast, hq, cond_true, Option.bind_some]
        rw [wrapS hqt (by omega), n64 [IntKind.wrap .i64 (q.1 - u.1), IntKind.wrap .i64 (q.2.1 - u.2.1)] u.2.2 (pt_in u q) (by simp only [List.length_cons, List.length_nil]; omega)]
        exact ⟨rfl, by omega⟩
      · dsimp only [embR]
        simp only [dec_nlt, cond_false]
    · dsimp only [embR]
      simp only [dec_nlt, cond_false]
  · simp only [dec_nlt, cond_false]
end Go.Proofs.YtjgiibfejfkocaaGreatDoor.I

namespace Go.Proofs.YtjgiibfejfkocaaGreatDoor.I
open Go.RowKit
set_option linter.unusedVariables false
set_option linter.constructorNameAsVariable false
theorem scan_zero (l : List DFea) (p : Int) (h : scan survF (fun f => f.1) 0 p l = 0) : ∀ f ∈ l, featV f = 0 := by
  induction l generalizing p with
  | nil => intro f hf; cases hf
  | cons a l ih =>
    simp only [scan] at h
    by_cases hz : featV a = 0
    · by_cases hc : a.1 ≤ p
      · simp [survF, hz, hc] at h
      · simp only [survF, hz, hc, ne_eq, not_true, if_false] at h
        intro f hf
        rcases List.mem_cons.1 hf with rfl | hf
        · exact hz
        · exact ih _ h f hf
    · simp [survF, hz] at h
theorem surv_zero {l : List DFea} (h : survV l = 0) : l.length ≤ 200 ∧ ∀ f ∈ l, featV f = 0 := by
  unfold survV at h
  by_cases h8 : 200 < l.length
  · simp [h8] at h
  · rw [if_neg h8] at h
    exact ⟨by omega, scan_zero l 0 h⟩
theorem feat_zero {f : DFea} (h : featV f = 0) : partsV f.2.1 f.2.2.1 = 0 ∧ attrsE false f.2.2.2.1 = 0 := by
  unfold featV at h
  by_cases k1 : f.1 < 1
  · simp [k1] at h
  by_cases k2 : 1073741824 < f.1
  · simp [k1, k2] at h
  by_cases k3 : partsV f.2.1 f.2.2.1 = 0
  · by_cases k4 : attrsE false f.2.2.2.1 = 0
    · exact ⟨k3, k4⟩
    · simp [k1, k2, k3, k4] at h
  · simp [k1, k2, k3] at h
theorem parts_zero {kind : Int} {l : List (List DPt)} (h : partsV kind l = 0) : l.length ≤ 20 ∧ ∀ p ∈ l, p.length ≤ 200 := by
  unfold partsV partsE at h
  by_cases k1 : kind < 1
  · simp [k1] at h
  by_cases k2 : 3 < kind
  · simp [k1, k2] at h
  by_cases k3 : 20 < l.length
  · simp [k1, k2, k3] at h
  by_cases k4 : l.any (fun p => decide ((200 : Int) < (p.length : Int))) = true
  · simp only [k1, k2, k3, k4, if_true, if_false] at h
    simp at h
  · refine ⟨by omega, fun p hp => ?_⟩
    rcases Nat.lt_or_ge 200 p.length with hl | hl
    · exact absurd (List.any_eq_true.2 ⟨p, hp, by simp; omega⟩) k4
    · exact hl
theorem name_size {s : ByteArray} (h : nameOk s = true) : s.size ≤ 12 := by
  unfold nameOk at h
  simp at h
  omega
theorem check_size {v : DVal} (h : checkV v = 0) : v.2.2.1.size ≤ 40 := by
  unfold checkV at h
  rcases Nat.lt_or_ge 40 v.2.2.1.size with hl | hl
  · have hl' : (40 : Int) < (v.2.2.1.size : Int) := by omega
    simp only [hl', if_true] at h
    split at h
    · cases h
    split at h
    · cases h
    split at h
    · cases h
    split at h
    · cases h
    split at h
    · cases h
    split at h
    · cases h
    split at h <;> cases h
  · exact hl
theorem attr_scan (l : List DAtt) (p : ByteArray) (h : scan (attF false) (fun a => a.1) 0 p l = 0) : ∀ a ∈ l, nameOk a.1 = true ∧ checkV a.2.1 = 0 := by
  induction l generalizing p with
  | nil => intro f hf; cases hf
  | cons a l ih =>
    simp only [scan] at h
    cases hno : nameOk a.1 with
    | false => simp [attF, hno] at h
    | true =>
      cases hless : strLt p a.1 with
      | false => simp [attF, hno, hless] at h
      | true =>
        by_cases hc : checkV a.2.1 = 0
        · by_cases hk : a.2.1.1 = 0
          · simp [attF, hno, hless, hc, hk] at h
          · simp only [attF, hno, hless, hc, hk, ne_eq, not_true, if_false, and_false, Bool.true_eq_false, reduceCtorEq] at h
            intro b hb
            rcases List.mem_cons.1 hb with rfl | hb
            · exact ⟨hno, hc⟩
            · exact ih _ h b hb
        · simp [attF, hno, hless, hc] at h
theorem attr_zero {l : List DAtt} (h : attrsE false l = 0) : l.length ≤ 8 ∧ ∀ a ∈ l, nameOk a.1 = true ∧ checkV a.2.1 = 0 := by
  unfold attrsE at h
  by_cases h8 : 8 < l.length
  · simp [h8] at h
  · rw [if_neg h8] at h
    exact ⟨by omega, attr_scan l _ h⟩
theorem fea_ok {f : DFea} (hs : small kFea f) (h : featV f = 0) : FeaOk f := by
  obtain ⟨h1, h2⟩ := feat_zero h
  obtain ⟨p1, p2⟩ := parts_zero h1
  obtain ⟨a1, a2⟩ := attr_zero h2
  have hs2 : small (.slice kAtt) f.2.2.2.1 := (fea_small hs).2
  refine ⟨p1, p2, a1, fun a ha => ?_, wf_in hs.2.1, wf_in hs.2.2.2.2.1⟩
  obtain ⟨n1, n2⟩ := a2 a ha
  have hsa : small kAtt a := hs2.2 a ha
  exact ⟨name_size n1, check_size n2, wf_in hsa.2.1.1, wf_in hsa.2.1.2.1⟩
end Go.Proofs.YtjgiibfejfkocaaGreatDoor.I

namespace Go.Proofs.YtjgiibfejfkocaaGreatDoor.I
open Go.RowKit
set_option linter.unusedVariables false
set_option linter.constructorNameAsVariable false
theorem wf_any {n : Int} (h : -9223372036854775808 ≤ n ∧ n ≤ 9223372036854775807) : small (.int .i64) n := by
  show (Lit.int .i64 n).wf = true
  unfold Lit.wf
  first
    | (have e := wrap64 h.1 h.2; rw [e]; simp; done)
    | (have e := wrap64 h.1 h.2; simp [e]; done)
    | (simp [IntKind.min, IntKind.max, IntKind.signed, IntKind.bits]; omega)
theorem wf_wrap (x : Int) : small (.int .i64) (IntKind.wrap .i64 x) := wf_any (wrap64_in x)
abbrev RdQ (d : List UInt8) (P : Int → Prop) : (Int × Unit) × List Int × Bool × Unit → Prop := fun y => ∃ (v : Int) (d' : List UInt8) (b : Bool), y = ((v, ()), (toI d', (b, ()))) ∧ P v ∧ d'.length ≤ d.length
theorem num_any (d : List UInt8) (b : Bool) (hl : d.length ≤ 1000000) : Yl (r29 () (toI d, (b, ()))) (RdQ d (fun v => -9223372036854775808 ≤ v ∧ v ≤ 9223372036854775807)) := by
  rw [num_eq d b hl]
  cases h : numR 0 0 d with
  | none => exact yl_some ⟨0, d, true, rfl, by omega, Nat.le_refl _⟩
  | some p =>
    obtain ⟨u, k⟩ := p
    have := numR_bd d 0 0 u k (by omega) (by simp) h
    exact yl_some ⟨unzig u, d.drop k, b, rfl, unzig_in this.1, by rw [List.length_drop]; omega⟩
theorem count_any (most : Int) (d : List UInt8) (b : Bool) (hm : 0 ≤ most) (hl : d.length ≤ 1000000) : Yl (r19 (most, ()) (toI d, (b, ()))) (RdQ d (fun v => 0 ≤ v ∧ v ≤ most)) := by
  unfold r19
  refine yl_bind (num_any d b hl) (fun y hy => ?_)
  obtain ⟨v, d', b', rfl, hv, hd⟩ := hy
  refine yl_cond (fun h => yl_some ⟨0, d', true, rfl, by omega, hd⟩) (fun h => yl_cond (fun h2 => yl_some ⟨0, d', true, rfl, by omega, hd⟩) (fun h2 => ?_))
  have h : ¬ (v < 0) := of_decide_eq_false h
  have h2 : ¬ (most < v) := of_decide_eq_false h2
  exact yl_some ⟨v, d', b', rfl, by omega, hd⟩
theorem text_any (d : List UInt8) (b : Bool) (hl : d.length ≤ 1000000) : Yl (r30 () (toI d, (b, ()))) (fun y => ∃ (s : ByteArray) (d' : List UInt8) (b' : Bool), y = ((s, ()), (toI d', (b', ()))) ∧ s.size ≤ 1000000 ∧ d'.length ≤ d.length) := by
  unfold r30
  refine yl_bind (count_any ((toI d).length : Int) d b (by omega) hl) (fun y hy => ?_)
  obtain ⟨v, d', b', rfl, hv, hd⟩ := hy
  have none_ok : (ByteArray.mk (List.toArray ([] : List UInt8))).size ≤ 1000000 := by show 0 ≤ 1000000; omega
  refine yl_cond (fun h => yl_some ⟨_, d', true, rfl, none_ok, hd⟩) (fun h => yl_cond (fun h2 => yl_some ⟨_, d', true, rfl, none_ok, hd⟩) (fun h2 => ?_))
  have h2 : ¬ (((toI d').length : Int) < v) := of_decide_eq_false h2
  rw [toI_len] at h2
  obtain ⟨n, rfl⟩ : ∃ n : Nat, v = n := ⟨v.toNat, by omega⟩
  have hu : upTo (n : Int) ((toI d').length : Int) = true := by rw [toI_len]; unfold upTo; exact decide_eq_true ⟨by omega, by omega⟩
  simp only [hu, cond_true, Int.toNat_natCast, toI_take, toI_drop, mkStr_toI]
  exact yl_some ⟨_, d'.drop n, b', rfl, by rw [size_mk, List.length_take]; omega, by rw [List.length_drop]; omega⟩
abbrev SP := List (List DPt) × Int × Int × List UInt8 × Bool
@[reducible] def embP2 (a b c e : Int) (i : Int) (s : SP) : (Int × Int × Int × List (List DPt) × Unit × Int × Int × Int × Int × List Int × Bool × Unit) × Unit :=
  ((i, (a, (b, (s.1, ((), (c, (e, (s.2.1, (s.2.2.1, (toI s.2.2.2.1, (s.2.2.2.2, ()))))))))))), ())
abbrev SQ := List DPt × Int × Int × List UInt8 × Bool
@[reducible] def embQ2 (j : Int) (s : SQ) : (List DPt × Int × Int × Int × List Int × Bool × Unit) × Unit := ((s.1, (j, (s.2.1, (s.2.2.1, (toI s.2.2.2.1, (s.2.2.2.2, ())))))), ())
abbrev SA := List DAtt × List UInt8 × Bool
@[reducible] def embA2 (a b c e : Int) (ps : List (List DPt)) (i : Int) (s : SA) : (Int × Int × Int × List (List DPt) × List DAtt × Int × Int × List Int × Bool × Unit) × Unit :=
  ((i, (a, (b, (ps, (s.1, (c, (e, (toI s.2.1, (s.2.2, ()))))))))), ())
theorem sm_len {n : Nat} (h : n ≤ 1000000) : n ≤ maxLen := by unfold maxLen; omega
theorem sm_att {key : ByteArray} {k n : Int} {s : ByteArray} {b : Bool} (h1 : key.size ≤ 1000000) (h2 : small (.int .i64) k) (h3 : small (.int .i64) n) (h4 : s.size ≤ 1000000) : small kAtt (key, ((k, (n, (s, (b, ())))), ())) :=
  ⟨sm_len h1, ⟨h2, h3, sm_len h4, trivial, trivial⟩, trivial⟩
theorem mem_snoc {α : Type} {P : α → Prop} {l : List α} {x : α} (h : ∀ y ∈ l, P y) (hx : P x) : ∀ y ∈ l ++ [x], P y := fun y hy => by
  rcases List.mem_append.1 hy with h1 | h1
  · exact h y h1
  · rw [List.mem_singleton.1 h1]; exact hx
set_option maxHeartbeats 4000000 in
set_option maxRecDepth 100000 in
theorem fea_any (last : Int) (d : List UInt8) (b : Bool) (hl : d.length ≤ 1000000) :
    Yl (r20 (last, ()) (toI d, (b, ()))) (fun y => ∃ (f : DFea) (d' : List UInt8) (b' : Bool), y = ((f, ()), (toI d', (b', ()))) ∧ small kFea f ∧ d'.length ≤ d.length) := by
  unfold r20
  refine yl_bind (num_any d b hl) (fun y hy => ?_)
  obtain ⟨x0, d0, b0, rfl, i0, l0⟩ := hy
  refine yl_bind (num_any d0 b0 (by omega)) (fun y hy => ?_)
  obtain ⟨x1, d1, b1, rfl, i1, l1⟩ := hy
  refine yl_bind (num_any d1 b1 (by omega)) (fun y hy => ?_)
  obtain ⟨x2, d2, b2, rfl, i2, l2⟩ := hy
  refine yl_bind (num_any d2 b2 (by omega)) (fun y hy => ?_)
  obtain ⟨x3, d3, b3, rfl, i3, l3⟩ := hy
  refine yl_bind (count_any 20 d3 b3 (by omega) (by omega)) (fun y hy => ?_)
  obtain ⟨x4, d4, b4, rfl, i4, l4⟩ := hy
  obtain ⟨n, rfl⟩ : ∃ n : Nat, x4 = n := ⟨x4.toNat, by omega⟩
  refine yl_bind (P := fun o => ∃ s : SP, o = Sum.inl ((IntKind.wrap .i64 (last + x0), (x1, (s.1, ((), (x2, (IntKind.wrap .i64 (x2 + x3), (s.2.1, (s.2.2.1, (toI s.2.2.2.1, (s.2.2.2.2, ())))))))))), ()) ∧ s.1.length ≤ 20 ∧ (∀ p ∈ s.1, small (.slice kPt) p) ∧ s.2.2.2.1.length ≤ d.length)
    (loop_upY (embP2 (IntKind.wrap .i64 (last + x0)) x1 x2 (IntKind.wrap .i64 (x2 + x3))) n (fun i s => s.1.length = i ∧ (∀ p ∈ s.1, small (.slice kPt) p) ∧ s.2.2.2.1.length ≤ d.length) _ (fun i s hi hI => ?_) (fun s hI => ?_) 0 ([], 0, 0, d4, b4) (Nat.zero_le _) ⟨rfl, (fun p hp => by cases hp), by simp only; omega⟩) (fun o ho => ?_)
  · obtain ⟨ps, x, y, e, bb⟩ := s
    obtain ⟨h1, h2, h3⟩ := hI
    simp only at h1 h2 h3
    refine yl_true (dec_lt hi) (yl_bind (count_any 200 e bb (by omega) (by omega)) (fun z hz => ?_))
    obtain ⟨v, e1, bb1, rfl, hv, he1⟩ := hz
    obtain ⟨m, rfl⟩ : ∃ m : Nat, v = m := ⟨v.toNat, by omega⟩
    refine yl_bind (P := fun o => ∃ s : SQ, o = Sum.inl ((s.1, (s.2.1, (s.2.2.1, (toI s.2.2.2.1, (s.2.2.2.2, ()))))), ()) ∧ s.1.length ≤ 200 ∧ (∀ q ∈ s.1, small kPt q) ∧ s.2.2.2.1.length ≤ d.length)
      (loop_upY embQ2 m (fun j s => s.1.length = j ∧ (∀ q ∈ s.1, small kPt q) ∧ s.2.2.2.1.length ≤ d.length) _ (fun j s hj hJ => ?_) (fun s hJ => ?_) 0 ([], x, y, e1, bb1) (Nat.zero_le _) ⟨rfl, (fun p hp => by cases hp), by simp only; omega⟩) (fun o ho => ?_)
    · obtain ⟨qs, x', y', e', bb'⟩ := s
      obtain ⟨k1, k2, k3⟩ := hJ
      simp only at k1 k2 k3
      refine yl_true (dec_lt hj) (yl_bind (num_any e' bb' (by omega)) (fun z hz => ?_))
      obtain ⟨v1, e2, bb2, rfl, hv1, he2⟩ := hz
      refine yl_bind (num_any e2 bb2 (by omega)) (fun z hz => ?_)
      obtain ⟨v2, e3, bb3, rfl, hv2, he3⟩ := hz
      have hf : fits (qs.length + [((IntKind.wrap .i64 (x' + v1)), ((IntKind.wrap .i64 (y' + v2)), ()))].length) 16 = true := fits16' (by simp only [List.length_cons, List.length_nil]; omega)
      refine yl_true hf (yl_some (.inl ⟨(qs ++ [((IntKind.wrap .i64 (x' + v1)), ((IntKind.wrap .i64 (y' + v2)), ()))], IntKind.wrap .i64 (x' + v1), IntKind.wrap .i64 (y' + v2), e3, bb3), ?_, ?_, mem_snoc k2 ⟨wf_wrap _, wf_wrap _, trivial⟩, by simp only; omega⟩))
      · simp only [embQ2]
        rw [wrapS hj (by omega)]
      · simp only [List.length_append, List.length_cons, List.length_nil]; omega
    · obtain ⟨k1, k2, k3⟩ := hJ
      exact yl_false dec_nlt (yl_some ⟨_, rfl, s, rfl, by omega, k2, k3⟩)
    · obtain ⟨⟨p, x', y', e', bb'⟩, rfl, k1, k2, k3⟩ := ho
      simp only at k1 k2 k3
      have hf : fits (ps.length + [p].length) 24 = true := fits24' (by simp only [List.length_cons, List.length_nil]; omega)
      refine yl_true hf (yl_some (.inl ⟨(ps ++ [p], x', y', e', bb'), ?_, ?_, mem_snoc h2 ⟨sm_len (by omega), k2⟩, k3⟩))
      · simp only [embP2]
        rw [wrapS hi (by omega)]
      · simp only [List.length_append, List.length_cons, List.length_nil]; omega
  · obtain ⟨h1, h2, h3⟩ := hI
    exact yl_false dec_nlt (yl_some ⟨_, rfl, s, rfl, by omega, h2, h3⟩)
  · obtain ⟨⟨ps, x, y, e, bb⟩, rfl, p1, p2, p3⟩ := ho
    simp only at p1 p2 p3
    simp only [sumE]
    refine yl_bind (count_any 8 e bb (by omega) (by omega)) (fun y hy => ?_)
    obtain ⟨x6, d6, b6, rfl, i6, l6⟩ := hy
    obtain ⟨m, rfl⟩ : ∃ m : Nat, x6 = m := ⟨x6.toNat, by omega⟩
    refine yl_bind (P := fun o => ∃ s : SA, o = Sum.inl ((IntKind.wrap .i64 (last + x0), (x1, (ps, (s.1, (x2, (IntKind.wrap .i64 (x2 + x3), (toI s.2.1, (s.2.2, ())))))))), ()) ∧ s.1.length ≤ 8 ∧ (∀ p ∈ s.1, small kAtt p) ∧ s.2.1.length ≤ d.length)
      (loop_up (embA2 (IntKind.wrap .i64 (last + x0)) x1 x2 (IntKind.wrap .i64 (x2 + x3)) ps) m (fun i s => s.1.length = i ∧ (∀ p ∈ s.1, small kAtt p) ∧ s.2.1.length ≤ d.length) _ (fun i s hi hI => ?_) (fun s hI => ?_) 0 ([], d6, b6) (Nat.zero_le _) ⟨rfl, (fun p hp => by cases hp), by simp only; omega⟩) (fun o ho => ?_)
    · left
      obtain ⟨as', e1, bb1⟩ := s
      obtain ⟨h1, h2, h3⟩ := hI
      simp only at h1 h2 h3
      obtain ⟨z, hz1, key, e2, bb2, hz2, hkey, he2⟩ := text_any e1 bb1 (by omega)
      subst hz2
      obtain ⟨z, hz3, k, e3, bb3, hz4, hk, he3⟩ := num_any e2 bb2 (by omega)
      subst hz4
      have hf : ∀ a : DAtt, fits (as'.length + [a].length) 56 = true := fun a => fits56 (by simp only [List.length_cons, List.length_nil]; omega)
      have none_ok : (ByteArray.mk (List.toArray ([] : List UInt8))).size ≤ 1000000 := by show 0 ≤ 1000000; omega
      have w0 : small (.int .i64) (0 : Int) := wf_any (by omega)
      have hlen : ∀ a : DAtt, (as' ++ [a]).length = i + 1 := fun a => by simp only [List.length_append, List.length_cons, List.length_nil]; omega
      simp only [embA2, dec_lt hi, cond_true, hz1, hz3, Option.bind_some, wrapS hi (show m ≤ 9223372036854775807 by omega)]
      by_cases c1 : k = 1
      · obtain ⟨z, hz5, v, e4, bb4, hz6, hv, he4⟩ := num_any e3 bb3 (by omega)
        subst hz6
        subst c1
        have hf1 := hf (key, (((1 : Int), (v, ((ByteArray.mk (List.toArray [])), (false, ())))), ()))
        refine ⟨(as' ++ [(key, (((1 : Int), (v, ((ByteArray.mk (List.toArray [])), (false, ())))), ()))], e4, bb4), ?_, hlen _, mem_snoc h2 (sm_att hkey (wf_any hk) (wf_any hv) none_ok), by simp only; omega⟩
        simp only [decide_true, cond_true, hz5, Option.bind_some, hf1]
      · have d1 : decide (k = 1) = false := decide_eq_false c1
        by_cases c2 : k = 2
        · obtain ⟨z, hz5, v, e4, bb4, hz6, hv, he4⟩ := text_any e3 bb3 (by omega)
          subst hz6
          subst c2
          have hf1 := hf (key, (((2 : Int), ((0 : Int), (v, (false, ())))), ()))
          refine ⟨(as' ++ [(key, (((2 : Int), ((0 : Int), (v, (false, ())))), ()))], e4, bb4), ?_, hlen _, mem_snoc h2 (sm_att hkey (wf_any hk) w0 hv), by simp only; omega⟩
          simp only [d1, decide_true, cond_true, cond_false, hz5, Option.bind_some, hf1]
        · have d2 : decide (k = 2) = false := decide_eq_false c2
          by_cases c3 : k = 3
          · obtain ⟨z, hz5, v, e4, bb4, hz6, hv, he4⟩ := num_any e3 bb3 (by omega)
            subst hz6
            subst c3
            have hf1 := hf (key, (((3 : Int), ((0 : Int), ((ByteArray.mk (List.toArray [])), (decide (v = 1), ())))), ()))
            refine ⟨(as' ++ [(key, (((3 : Int), ((0 : Int), ((ByteArray.mk (List.toArray [])), (decide (v = 1), ())))), ()))], e4, bb4), ?_, hlen _, mem_snoc h2 (sm_att hkey (wf_any hk) w0 none_ok), by simp only; omega⟩
            simp only [d1, d2, decide_true, cond_true, cond_false, hz5, Option.bind_some, hf1]
          · have d3 : decide (k = 3) = false := decide_eq_false c3
            have hf1 := hf (key, ((k, ((0 : Int), ((ByteArray.mk (List.toArray [])), (false, ())))), ()))
            refine ⟨(as' ++ [(key, ((k, ((0 : Int), ((ByteArray.mk (List.toArray [])), (false, ())))), ()))], e3, bb3), ?_, hlen _, mem_snoc h2 (sm_att hkey (wf_any hk) w0 none_ok), by simp only; omega⟩
            simp only [d1, d2, d3, cond_false, hf1, cond_true]
    · obtain ⟨h1, h2, h3⟩ := hI
      exact ⟨_, by simp only [embA2, dec_nlt, cond_false], s, rfl, by omega, h2, h3⟩
    · obtain ⟨⟨as', e1, bb1⟩, rfl, a1, a2, a3⟩ := ho
      simp only at a1 a2 a3
      exact yl_some ⟨_, e1, bb1, rfl, ⟨wf_wrap _, wf_any i1, ⟨sm_len (show ps.length ≤ 1000000 by omega), p2⟩, ⟨sm_len (show as'.length ≤ 1000000 by omega), a2⟩, wf_any i2, wf_wrap _, trivial⟩, a3⟩
theorem eqBytes_any (a b : List UInt8) (hl : a.length ≤ 1000000) : r10 (toI a, (toI b, ())) = some (decide (a = b), ()) := by
  by_cases hq : a.length = b.length
  · unfold r10
    have hq2 : decide (((toI a).length : Int) = ((toI b).length : Int)) = true := decide_eq_true (by rw [toI_len, toI_len]; omega)
    simp only [hq2, Bool.not_true, cond_false]
    refine bind_loop (loop_up (fun (i : Int) (_ : Unit) => ((i, ()), ())) (toI a).length (fun i _ => a.take i = b.take i) (fun o => (o = Sum.inl ((false, ()), ()) ∧ a ≠ b) ∨ (o = Sum.inr (Sum.inl ((), ())) ∧ a = b)) (fun i s hi hI => ?_) (fun s hI => ?_) 0 () (Nat.zero_le _) rfl) ?_
    · have hi2 : i < a.length := by rw [toI_len] at hi; exact hi
      obtain ⟨x, hx⟩ := get_lt hi2
      obtain ⟨y, hy⟩ := get_lt (show i < b.length by omega)
      have hib : i < (toI b).length := by rw [toI_len]; omega
      simp only [dec_lt hi, inB_lt hi, inB_lt hib, Int.toNat_natCast, toI_get hx, toI_get hy, cond_true, Option.bind_some]
      by_cases hxy : x = y
      · subst hxy
        refine .inl ⟨(), ?_, ?_⟩
        · simp only [decide_true, Bool.not_true, cond_false]
          rw [wrapS hi (by rw [toI_len]; omega)]
        · rw [take_succ hx, take_succ hy, hI]
      · have : decide (((x.toNat : Nat) : Int) = ((y.toNat : Nat) : Int)) = false := decide_eq_false (fun h => hxy (UInt8.toNat_inj.1 (by omega)))
        refine .inr ⟨_, by simp only [this, Bool.not_false, cond_true], .inl ⟨rfl, fun h => hxy ?_⟩⟩
        subst h
        rw [hx] at hy
        injection hy
    · rw [toI_len, List.take_length, hq, List.take_length] at hI
      exact ⟨_, by simp only [dec_nlt, cond_false], .inr ⟨rfl, hI⟩⟩
    · rintro o (⟨rfl, h⟩ | ⟨rfl, h⟩)
      · rw [decide_eq_false h]; rfl
      · rw [decide_eq_true h]; rfl
  · unfold r10
    have hq2 : decide (((toI a).length : Int) = ((toI b).length : Int)) = false := decide_eq_false (by rw [toI_len, toI_len]; omega)
    simp only [hq2, Bool.not_false, cond_true]
    rw [decide_eq_false (fun h => hq (by rw [h]))]
theorem write_bad (l : List DFea) (hs : small (.slice kFea) l) (h0 : survV l ≠ 0) : r21 (l, ()) = some ([], (survV l, ())) := by
  unfold r21
  have e16 : r31 (l, ()) = some (survV l, ()) := r16_eq l hs
  simp only [e16, Option.bind_some, decide_eq_false h0, Bool.not_false, cond_true]
abbrev SR := List DFea × Int × List UInt8 × Bool
@[reducible] def embS2 (i : Int) (s : SR) : (List DFea × Int × Int × List Int × Bool × Unit) × Unit := ((s.1, (s.2.1, (i, (toI s.2.2.1, (s.2.2.2, ()))))), ())
set_option maxHeartbeats 2000000 in
set_option maxRecDepth 100000 in
/-- What passes the first checks is read as a survey of which these are the bytes, or it is of no valid form. -/
theorem read_any (d : List UInt8) (h : headR d = none) : Yl (r7 (toI d, ())) (fun y => y = ([], (3, ())) ∨ ∃ l : List DFea, y = (l, (0, ())) ∧ small (.slice kFea) l ∧ survV l = 0 ∧ total l = d) := by
  unfold headR at h
  split at h
  · cases h
  split at h
  · cases h
  split at h
  · cases h
  split at h
  · cases h
  rename_i k1 k2 k3 k4
  have k3 : d.take 2 = [84, 49] := by simpa using k3
  have k4 : d.drop (d.length - 4) = sumB (fnv (d.take (d.length - 4))) := by simpa using k4
  unfold r7
  have e1 : decide ((65536 : Int) < ((toI d).length : Int)) = false := decide_eq_false (by rw [toI_len]; omega)
  have e2 : decide (((toI d).length : Int) < 6) = false := decide_eq_false (by rw [toI_len]; omega)
  have e3 : upTo (2 : Int) ((toI d).length : Int) = true := by rw [toI_len]; unfold upTo; exact decide_eq_true ⟨by omega, by omega⟩
  have e4 : (toI d).take (Int.toNat (2 : Int)) = toI [84, 49] := by rw [← k3]; exact toI_take _ 2
  have e5 : (ByteArray.mk (List.toArray (List.cons (84 : UInt8) (List.cons (49 : UInt8) (List.nil))))) = mkStr (toI [84, 49]) := (mkStr_toI _).symm
  have w4 : IntKind.wrap .i64 (((toI d).length : Int) - 4) = ((d.length - 4 : Nat) : Int) := by rw [toI_len, wrap64 (by omega) (by omega)]; omega
  have e6 : upTo (((d.length - 4 : Nat)) : Int) ((toI d).length : Int) = true := by rw [toI_len]; unfold upTo; exact decide_eq_true ⟨by omega, by omega⟩
  have e7 : upTo (2 : Int) ((toI (d.take (d.length - 4))).length : Int) = true := by rw [toI_len, List.length_take]; unfold upTo; exact decide_eq_true ⟨by omega, by omega⟩
  simp only [e1, e2, e3, e4, e5, decide_true, Bool.not_true, cond_true, cond_false, w4, e6, Int.toNat_natCast, toI_take, toI_drop, k4, r61_eq (d.take (d.length - 4)) (by rw [List.length_take]; omega), Option.bind_some, sum_list, e7]
  have hdl : ((d.take (d.length - 4)).drop 2).length ≤ 65536 := by rw [List.length_drop, List.length_take]; omega
  refine yl_bind (count_any 200 ((d.take (d.length - 4)).drop 2) false (by omega) (by omega)) (fun y hy => ?_)
  obtain ⟨x1, d1, b1, rfl, i1, l1⟩ := hy
  obtain ⟨n, rfl⟩ : ∃ n : Nat, x1 = n := ⟨x1.toNat, by omega⟩
  refine yl_bind (P := fun o => (∃ (z : List Int) (bb : Bool), o = Sum.inl (([], (3, (z, (bb, ())))), ())) ∨ ∃ s : SR, o = Sum.inr (Sum.inl ((s.1, (toI s.2.2.1, (s.2.2.2, ()))), ())) ∧ s.1.length ≤ 200 ∧ ∀ f ∈ s.1, small kFea f)
    (loop_up embS2 n (fun i s => s.1.length = i ∧ (∀ f ∈ s.1, small kFea f) ∧ s.2.2.1.length ≤ 65536) _ (fun i s hi hI => ?_) (fun s hI => ?_) 0 ([], 0, d1, b1) (Nat.zero_le _) ⟨rfl, (fun p hp => by cases hp), by simp only; omega⟩) (fun o ho => ?_)
  · obtain ⟨fs, last, e, bb⟩ := s
    obtain ⟨h1, h2, h3⟩ := hI
    simp only at h1 h2 h3
    obtain ⟨z, hz1, f, e', bb', hz2, hf, he'⟩ := fea_any last e bb (by omega)
    subst hz2
    simp only [embS2, dec_lt hi, cond_true, hz1, Option.bind_some]
    cases bb' with
    | true => exact .inr ⟨_, rfl, .inl ⟨_, _, rfl⟩⟩
    | false =>
      have hfit : fits (fs.length + [(f.1, (f.2.1, (f.2.2.1, (f.2.2.2.1, (f.2.2.2.2.1, (f.2.2.2.2.2.1, ()))))))].length) 80 = true := fits80' (by simp only [List.length_cons, List.length_nil]; omega)
      refine .inl ⟨(fs ++ [f], f.1, e', false), ?_, ?_, mem_snoc h2 hf, by simp only; omega⟩
      · simp only [cond_false, hfit, cond_true]
        rw [wrapS hi (by omega)]
      · simp only [List.length_append, List.length_cons, List.length_nil]; omega
  · obtain ⟨h1, h2, h3⟩ := hI
    exact ⟨_, by simp only [embS2, dec_nlt, cond_false], .inr ⟨s, rfl, by omega, h2⟩⟩
  · rcases ho with ⟨z, bb, rfl⟩ | ⟨⟨l, last, e, bb⟩, rfl, hl, hsm⟩
    · exact yl_some (.inl rfl)
    · simp only at hl hsm
      have hs : small (.slice kFea) l := ⟨sm_len (by omega), hsm⟩
      simp only [sumE]
      by_cases h0 : survV l = 0
      · have r2 := r33_eq l hs (fun f hf => fea_ok (hsm f hf) ((surv_zero h0).2 f hf)) hl h0
        by_cases hb : 65536 < (total l).length
        · rw [if_pos hb] at r2
          refine yl_bind (yl_eq r2) (fun x hx => ?_)
          subst hx
          exact yl_true rfl (yl_some (.inl rfl))
        · rw [if_neg hb] at r2
          refine yl_bind (yl_eq r2) (fun x hx => ?_)
          subst hx
          refine yl_false rfl (yl_bind (yl_eq (eqBytes_any (total l) d (by omega))) (fun x hx => ?_))
          subst hx
          refine yl_cond (fun hc => yl_some (.inl rfl)) (fun hc => yl_some (.inr ⟨l, rfl, hs, h0, ?_⟩))
          simp only [Bool.not_eq_false', decide_eq_true_eq] at hc
          exact hc
      · refine yl_bind (yl_eq (write_bad l hs h0)) (fun x hx => ?_)
        subst hx
        refine yl_true (by rw [decide_eq_false h0]; rfl) (yl_some (.inl rfl))
end Go.Proofs.YtjgiibfejfkocaaGreatDoor.I

namespace Go.Proofs.YtjgiibfejfkocaaGreatDoor.I
open Go.RowKit
set_option linter.unusedVariables false
set_option linter.constructorNameAsVariable false
theorem itoa_eq {n : Int} (h : -9223372036854775808 ≤ n ∧ n ≤ 9223372036854775807) : r23 (n, ()) = some (⟨(Lib.itoa n).toArray⟩, ()) := by
  unfold r23 i64B
  rw [decide_eq_true h]
  rfl
theorem itoa_len {n : Int} (h : -9223372036854775808 ≤ n ∧ n ≤ 9223372036854775807) : (Lib.itoa n).length ≤ 21 := Lib.itoa_length_le n h.1 h.2
theorem wstr (s d : List UInt8) (h : d.length + s.length ≤ 140737488355328) : r13 (⟨s.toArray⟩, ()) ((), (toI d, ())) = some (((s.length : Int), (false, ())), ((), (toI (d ++ s), ()))) := by
  unfold r13
  simp only [bytesOf_mk, toI_len, fitsB h, cond_true, size_mk, toI_app]
theorem bstr (d : List UInt8) (h : d.length ≤ 140737488355328) : r16 () ((), (toI d, ())) = some ((⟨d.toArray⟩, ()), ((), (toI d, ()))) := by
  rw [← mkStr_toI]
  rw [← toI_len] at h
  generalize toI d = d at h
  unfold r16
  cases d with
  | nil => rfl
  | cons a d =>
    have hl : ((a :: d).length : Int) ≤ 140737488355328 := by omega
    have hp : (0 : Int) < ((a :: d).length : Int) := by rw [List.length_cons]; omega
    show cond (decide (((a :: d).length : Int) = ((a :: d).length : Int) ∧ 0 < ((a :: d).length : Int) ∧ ((a :: d).length : Int) ≤ 9223372036854775807)) _ _ = _
    rw [decide_eq_true ⟨rfl, hp, by omega⟩]
    rfl
end Go.Proofs.YtjgiibfejfkocaaGreatDoor.I

namespace Go.Proofs.YtjgiibfejfkocaaGreatDoor.I
open Go.RowKit
set_option linter.unusedVariables false
set_option linter.constructorNameAsVariable false
def numT (n : Int) : List UInt8 := Lib.itoa n ++ [32]
def numsT (ns : List Int) : List UInt8 := ns.flatMap numT
def pT (p : List DPt) : List UInt8 := numsT [(p.length : Int)] ++ p.flatMap (fun q => numsT [q.1, q.2.1])
def aT (a : DAtt) : List UInt8 := numsT [(a.1.size : Int), a.2.1.1, a.2.1.2.1, (a.2.1.2.2.1.size : Int)] ++ (ofS a.1 ++ ofS a.2.1.2.2.1 ++ Lib.formatBool a.2.1.2.2.2.1)
def fT (f : DFea) : List UInt8 := numsT [f.1, f.2.1, f.2.2.2.2.1, f.2.2.2.2.2.1, (f.2.2.1.length : Int), (f.2.2.2.1.length : Int)] ++ f.2.2.1.flatMap pT ++ f.2.2.2.1.flatMap aT
def whoseT (l : List DFea) : List UInt8 := numsT [(l.length : Int)] ++ l.flatMap fT
def In64s (ns : List Int) : Prop := ∀ n ∈ ns, In64 n
theorem numT_len {n : Int} (h : In64 n) : (numT n).length ≤ 22 := by
  unfold numT
  have := itoa_len h
  simp only [List.length_append, List.length_cons, List.length_nil]
  omega
theorem numsT_len {ns : List Int} (h : In64s ns) : (numsT ns).length ≤ 22 * ns.length := flat_len numT 22 ns (fun n hn => numT_len (h n hn))
/-- A list's texts are no longer than its bulk allows. -/
theorem flat_bulk {α β : Type} (g : α → List β) (m : α → Nat) (k : Nat) : ∀ (l : List α), (∀ a ∈ l, (g a).length ≤ k * m a) → (l.flatMap g).length ≤ k * (l.map m).sum
  | [], _ => by simp
  | a :: l, h => by
    have h1 := h a (by simp)
    have h2 := flat_bulk g m k l (fun b hb => h b (by simp [hb]))
    rw [List.flatMap_cons, List.length_append, List.map_cons, List.sum_cons, Nat.mul_add]
    omega
theorem bulk_len {α : Type} (m : α → Nat) (k : Nat) (hk : ∀ a, k ≤ m a) : ∀ (l : List α), k * l.length ≤ (l.map m).sum
  | [] => by simp
  | a :: l => by
    have h1 := hk a
    have h2 := bulk_len m k hk l
    rw [List.map_cons, List.sum_cons, List.length_cons, Nat.mul_add]
    omega
theorem bulk_mem {α : Type} (m : α → Nat) : ∀ (l : List α) (a : α), a ∈ l → m a ≤ (l.map m).sum
  | b :: l, a, h => by
    rw [List.map_cons, List.sum_cons]
    rcases List.mem_cons.1 h with rfl | h
    · omega
    · have := bulk_mem m l a h; omega
abbrev bPts (p : List DPt) : Nat := (p.map (bulkK kPt)).sum + 1
abbrev bParts (l : List (List DPt)) : Nat := (l.map (bulkK (.slice kPt))).sum + 1
abbrev bAtts (l : List DAtt) : Nat := (l.map (bulkK kAtt)).sum + 1
theorem bulk_pt (q : DPt) : bulkK kPt q = 2 := rfl
theorem bulk_att (a : DAtt) : bulkK kAtt a = a.1.size + a.2.1.2.2.1.size + 5 := by
  show a.1.size + 1 + (1 + (1 + (a.2.1.2.2.1.size + 1 + (1 + 0))) + 0) = _
  omega
theorem bulk_fea (f : DFea) : bulkK kFea f = bParts f.2.2.1 + bAtts f.2.2.2.1 + 4 := by
  show 1 + (1 + (bParts f.2.2.1 + (bAtts f.2.2.2.1 + (1 + (1 + 0))))) = _
  omega
/-- What is in range. -/
structure WOk (f : DFea) : Prop where
  id : In64 f.1
  kind : In64 f.2.1
  fr : In64 f.2.2.2.2.1
  upto : In64 f.2.2.2.2.2.1
  pts : ∀ p ∈ f.2.2.1, ∀ q ∈ p, In64 q.1 ∧ In64 q.2.1
  att : ∀ a ∈ f.2.2.2.1, In64 a.2.1.1 ∧ In64 a.2.1.2.1
theorem w_ok {f : DFea} (hs : small kFea f) : WOk f := by
  have hs1 : small (.slice (.slice kPt)) f.2.2.1 := (fea_small hs).1
  have hs2 : small (.slice kAtt) f.2.2.2.1 := (fea_small hs).2
  refine ⟨wf_in hs.1, wf_in hs.2.1, wf_in hs.2.2.2.2.1, wf_in hs.2.2.2.2.2.1, fun p hp q hq => ?_, fun a ha => ?_⟩
  · have hq1 : small kPt q := (hs1.2 p hp).2 q hq
    exact ⟨wf_in hq1.1, wf_in hq1.2.1⟩
  · have hsa : small kAtt a := hs2.2 a ha
    exact ⟨wf_in hsa.2.1.1, wf_in hsa.2.1.2.1⟩
theorem in64_nat {n : Nat} (h : n ≤ 1048576) : In64 (n : Int) := by unfold In64; omega
theorem in64s_nil : In64s [] := fun n hn => by cases hn
theorem in64s_cons {n : Int} {l : List Int} (h : In64 n) (k : In64s l) : In64s (n :: l) := fun m hm => by
  rcases List.mem_cons.1 hm with rfl | hm
  · exact h
  · exact k m hm
theorem len_pts (p : List DPt) : 2 * p.length + 1 ≤ bPts p := by
  have := bulk_len (bulkK kPt) 2 (fun a => Nat.le_refl _) p
  show _ ≤ (p.map (bulkK kPt)).sum + 1
  omega
theorem len_parts (l : List (List DPt)) : l.length + 1 ≤ bParts l := by
  have := bulk_len (bulkK (.slice kPt)) 1 (fun a => by show 1 ≤ bPts a; unfold bPts; omega) l
  show _ ≤ (l.map (bulkK (.slice kPt))).sum + 1
  omega
theorem len_atts (l : List DAtt) : 5 * l.length + 1 ≤ bAtts l := by
  have := bulk_len (bulkK kAtt) 5 (fun a => by rw [bulk_att]; omega) l
  show _ ≤ (l.map (bulkK kAtt)).sum + 1
  omega
theorem pT_len {p : List DPt} (h : ∀ q ∈ p, In64 q.1 ∧ In64 q.2.1) (hb : bPts p ≤ 1048576) : (pT p).length ≤ 22 * bPts p := by
  unfold pT
  have h0 := len_pts p
  have h1 := numsT_len (in64s_cons (in64_nat (show p.length ≤ 1048576 by omega)) in64s_nil)
  have h2 := flat_bulk (fun q : DPt => numsT [q.1, q.2.1]) (bulkK kPt) 22 p (fun q hq => by
    have := numsT_len (in64s_cons (h q hq).1 (in64s_cons (h q hq).2 in64s_nil))
    rw [bulk_pt]
    simpa using this)
  rw [List.length_append]
  unfold bPts
  simp only [List.length_cons, List.length_nil] at h1
  omega
theorem aT_len {a : DAtt} (h : In64 a.2.1.1 ∧ In64 a.2.1.2.1) (hb : bulkK kAtt a ≤ 1048576) : (aT a).length ≤ 22 * bulkK kAtt a := by
  unfold aT
  rw [bulk_att] at hb ⊢
  have h1 := numsT_len (in64s_cons (in64_nat (show a.1.size ≤ 1048576 by omega)) (in64s_cons h.1 (in64s_cons h.2 (in64s_cons (in64_nat (show a.2.1.2.2.1.size ≤ 1048576 by omega)) in64s_nil))))
  have h2 := fbool_len a.2.1.2.2.2.1
  simp only [List.length_append, List.length_cons, List.length_nil, ofS_len] at h1 ⊢
  omega
theorem wparts_len {f : DFea} (h : WOk f) (hb : bulkK kFea f ≤ 1048576) : (f.2.2.1.flatMap pT).length ≤ 22 * (f.2.2.1.map (bulkK (.slice kPt))).sum := by
  rw [bulk_fea] at hb
  refine flat_bulk pT (bulkK (.slice kPt)) 22 f.2.2.1 (fun p hp => pT_len (h.pts p hp) ?_)
  have := bulk_mem (bulkK (.slice kPt)) f.2.2.1 p hp
  have h2 : bulkK (.slice kPt) p = bPts p := rfl
  unfold bParts at hb
  omega
theorem watts_len {f : DFea} (h : WOk f) (hb : bulkK kFea f ≤ 1048576) : (f.2.2.2.1.flatMap aT).length ≤ 22 * (f.2.2.2.1.map (bulkK kAtt)).sum := by
  rw [bulk_fea] at hb
  refine flat_bulk aT (bulkK kAtt) 22 f.2.2.2.1 (fun a ha => aT_len (h.att a ha) ?_)
  have := bulk_mem (bulkK kAtt) f.2.2.2.1 a ha
  unfold bAtts at hb
  omega
theorem wheads_in {f : DFea} (h : WOk f) (hb : bulkK kFea f ≤ 1048576) : In64s [f.1, f.2.1, f.2.2.2.2.1, f.2.2.2.2.2.1, (f.2.2.1.length : Int), (f.2.2.2.1.length : Int)] := by
  rw [bulk_fea] at hb
  have h1 := len_parts f.2.2.1
  have h2 := len_atts f.2.2.2.1
  exact in64s_cons h.id (in64s_cons h.kind (in64s_cons h.fr (in64s_cons h.upto (in64s_cons (in64_nat (by omega)) (in64s_cons (in64_nat (by omega)) in64s_nil)))))
theorem fT_len {f : DFea} (h : WOk f) (hb : bulkK kFea f ≤ 1048576) : (fT f).length ≤ 22 * bulkK kFea f := by
  have h1 := numsT_len (wheads_in h hb)
  have h2 := wparts_len h hb
  have h3 := watts_len h hb
  unfold fT
  rw [bulk_fea]
  unfold bParts bAtts
  simp only [List.length_append, List.length_cons, List.length_nil] at h1 ⊢
  omega
abbrev bSurv (l : List DFea) : Nat := (l.map (bulkK kFea)).sum + 1
theorem len_surv (l : List DFea) : 6 * l.length + 1 ≤ bSurv l := by
  have := bulk_len (bulkK kFea) 6 (fun a => by rw [bulk_fea]; unfold bParts bAtts; omega) l
  show _ ≤ (l.map (bulkK kFea)).sum + 1
  omega
theorem whoseT_len {l : List DFea} (h : ∀ f ∈ l, WOk f) (hb : bSurv l ≤ 1048576) : (whoseT l).length ≤ 22 * bSurv l := by
  unfold whoseT
  have h0 := len_surv l
  have h1 := numsT_len (in64s_cons (in64_nat (show l.length ≤ 1048576 by omega)) in64s_nil)
  have h2 := flat_bulk fT (bulkK kFea) 22 l (fun f hf => fT_len (h f hf) (by
    have := bulk_mem (bulkK kFea) l f hf
    unfold bSurv at hb
    omega))
  rw [List.length_append]
  unfold bSurv
  simp only [List.length_cons, List.length_nil] at h1
  omega
@[reducible] def embW (i : Int) (d : List UInt8) : (Int × Unit × List Int × Unit) × Unit := ((i, ((), (toI d, ()))), ())
@[reducible] def outW (d : List UInt8) : ((Unit × List Int × Unit) × Unit) ⊕ Empty := Sum.inl (((), (toI d, ())), ())
set_option maxHeartbeats 1000000 in
theorem nums_eq (ns : List Int) (d : List UInt8) (h : In64s ns) (hd : d.length + 22 * ns.length ≤ 1000000000) : r22 (ns, ()) ((), (toI d, ())) = some ((), ((), (toI (d ++ numsT ns), ()))) := by
  unfold r22
  refine (congrArg (fun z => Option.bind z _) (loop_fold embW (fun d n => d ++ numT n) (fun i e => e.length ≤ d.length + 22 * i) outW ns (fun i n e hn hI => ?_) (fun e _ => ?_) d (by omega)).1).trans ?_
  · have hlt := lt_of_get hn
    have hin := h n (List.mem_of_getElem? hn)
    have hl := itoa_len hin
    have hI' : e.length ≤ d.length + 22 * i := hI
    simp only [embW, dec_lt hlt, inB_lt hlt, Int.toNat_natCast, hn, cond_true, Option.bind_some, itoa_eq hin, ba_app, size_mk]
    simp (disch := (simp only [List.length_append, List.length_cons, List.length_nil]; omega)) only [big, cond_false]
    rw [wstr (Lib.itoa n ++ [32]) e (by simp only [List.length_append, List.length_cons, List.length_nil]; omega), wrapS hlt (by omega)]
    simp only [Option.bind_some]
    refine ⟨by first | trivial | rfl, ?_⟩
    have := numT_len hin
    show (e ++ numT n).length ≤ _
    rw [List.length_append]
    omega
  · simp only [embW, dec_nlt, cond_false]
  · rw [fold_flat]
    rfl
end Go.Proofs.YtjgiibfejfkocaaGreatDoor.I

namespace Go.Proofs.YtjgiibfejfkocaaGreatDoor.I
open Go.RowKit
set_option linter.unusedVariables false
set_option linter.constructorNameAsVariable false
theorem wfbool_eq (b : Bool) : r24 (b, ()) = some (⟨(Lib.formatBool b).toArray⟩, ()) := rfl
set_option maxHeartbeats 4000000 in
set_option maxRecDepth 100000 in
theorem whose_eq (l : List DFea) (h : ∀ f ∈ l, WOk f) (hb : bSurv l ≤ 1048576) : r8 (l, ()) = some (⟨(whoseT l).toArray⟩, ()) := by
  unfold r8
  have hl0 := len_surv l
  have e0 := nums_eq [(l.length : Int)] [] (in64s_cons (in64_nat (by omega)) in64s_nil) (by simp)
  have e0' : r22 ((List.cons (Nat.cast (List.length l) : Int) (List.nil)), ()) ((), ((List.nil), ())) = some ((), ((), (toI (numsT [(l.length : Int)]), ()))) := e0
  simp only [e0', Option.bind_some]
  have hT := whoseT_len h hb
  have key : ∀ f ∈ l, bulkK kFea f + 1 ≤ bSurv l := fun f hf => by have := bulk_mem (bulkK kFea) l f hf; unfold bSurv; omega
  have hstep : ∀ (i : Nat) (e : List UInt8), i ≤ l.length → e.length ≤ 22 + (22 * 1048576) * i → e.length ≤ 22 + 22 * 1048576 * 1048576 → True := fun _ _ _ _ _ => trivial
  refine (congrArg (fun z => Option.bind z _) (loop_fold embW (fun d f => d ++ fT f) (fun i e => e.length ≤ 22 + 22 * ((l.take i).map (bulkK kFea)).sum) outW l (fun i f e hf hI => ?_) (fun e _ => ?_) (numsT [(l.length : Int)]) (by
    have := numsT_len (in64s_cons (in64_nat (show l.length ≤ 1048576 by omega)) in64s_nil)
    simp only [List.length_cons, List.length_nil] at this
    simp only [List.take_zero, List.map_nil, List.sum_nil]
    omega)).1).trans ?_
  · have hlt := lt_of_get hf
    have hmem := List.mem_of_getElem? hf
    have hw := h f hmem
    have hbf : bulkK kFea f ≤ 1048576 := by have := key f hmem; omega
    have hI' : e.length ≤ 22 + 22 * ((l.take i).map (bulkK kFea)).sum := hI
    have htake : ((l.take (i + 1)).map (bulkK kFea)).sum = ((l.take i).map (bulkK kFea)).sum + bulkK kFea f := by
      rw [List.take_add_one, hf]
      simp
    have hle : ((l.take (i + 1)).map (bulkK kFea)).sum ≤ (l.map (bulkK kFea)).sum := by
      have : l.take (i + 1) ++ l.drop (i + 1) = l := List.take_append_drop _ _
      calc ((l.take (i + 1)).map (bulkK kFea)).sum ≤ ((l.take (i + 1)).map (bulkK kFea)).sum + ((l.drop (i + 1)).map (bulkK kFea)).sum := Nat.le_add_right _ _
        _ = (l.map (bulkK kFea)).sum := by rw [← List.sum_append, ← List.map_append, this]
    have hb' : (l.map (bulkK kFea)).sum + 1 ≤ 1048576 := hb
    have hel : e.length ≤ 24000000 := by omega
    have hnl := numsT_len (wheads_in hw hbf)
    have hpl := wparts_len hw hbf
    have hal := watts_len hw hbf
    have hbfe := bulk_fea f
    have hlp := len_parts f.2.2.1
    have hla := len_atts f.2.2.2.1
    simp only [List.length_cons, List.length_nil] at hnl
    simp only [embW, dec_lt hlt, inB_lt hlt, Int.toNat_natCast, hf, cond_true, Option.bind_some]
    rw [nums_eq _ e (wheads_in hw hbf) (by simp only [List.length_cons, List.length_nil]; omega), wrapS hlt (by omega)]
    simp only [Option.bind_some]
    refine ⟨?_, ?_⟩
    · have hd1 : (e ++ numsT [f.1, f.2.1, f.2.2.2.2.1, f.2.2.2.2.2.1, (f.2.2.1.length : Int), (f.2.2.2.1.length : Int)]).length ≤ 24000200 := by rw [List.length_append]; omega
      have hparts : ∀ p ∈ f.2.2.1, bPts p ≤ 1048576 := fun p hp => by
        have := bulk_mem (bulkK (.slice kPt)) f.2.2.1 p hp
        have h2 : bulkK (.slice kPt) p = bPts p := rfl
        unfold bParts at hbfe
        omega
      refine (congrArg (fun z => Option.bind z _) (loop_fold embW (fun d p => d ++ pT p) (fun j g => g.length ≤ 24000200 + 22 * ((f.2.2.1.take j).map (bulkK (.slice kPt))).sum) outW f.2.2.1 (fun j p g hp hJ => ?_) (fun g _ => ?_) _ (by simp only [List.take_zero, List.map_nil, List.sum_nil]; omega)).1).trans ?_
      · have hjt := lt_of_get hp
        have hpm := List.mem_of_getElem? hp
        have hpb := hparts p hpm
        have hpp := hw.pts p hpm
        have hJ' : g.length ≤ 24000200 + 22 * ((f.2.2.1.take j).map (bulkK (.slice kPt))).sum := hJ
        have htk : ((f.2.2.1.take (j + 1)).map (bulkK (.slice kPt))).sum = ((f.2.2.1.take j).map (bulkK (.slice kPt))).sum + bPts p := by
          rw [List.take_add_one, hp]
          simp
          rfl
        have hle2 : ((f.2.2.1.take (j + 1)).map (bulkK (.slice kPt))).sum ≤ (f.2.2.1.map (bulkK (.slice kPt))).sum := by
          have : f.2.2.1.take (j + 1) ++ f.2.2.1.drop (j + 1) = f.2.2.1 := List.take_append_drop _ _
          calc ((f.2.2.1.take (j + 1)).map (bulkK (.slice kPt))).sum ≤ ((f.2.2.1.take (j + 1)).map (bulkK (.slice kPt))).sum + ((f.2.2.1.drop (j + 1)).map (bulkK (.slice kPt))).sum := Nat.le_add_right _ _
            _ = (f.2.2.1.map (bulkK (.slice kPt))).sum := by rw [← List.sum_append, ← List.map_append, this]
        have hgl : g.length ≤ 48000000 := by unfold bParts at hbfe; omega
        have hppl := len_pts p
        simp only [embW, dec_lt hjt, inB_lt hjt, Int.toNat_natCast, hp, cond_true, Option.bind_some]
        rw [nums_eq [(p.length : Int)] g (in64s_cons (in64_nat (by omega)) in64s_nil) (by simp only [List.length_cons, List.length_nil]; omega), wrapS hjt (by omega)]
        simp only [Option.bind_some]
        have hnp := numsT_len (in64s_cons (in64_nat (show p.length ≤ 1048576 by omega)) in64s_nil)
        simp only [List.length_cons, List.length_nil] at hnp
        rw [(loop_fold embW (fun d q => d ++ numsT [q.1, q.2.1]) (fun k u => u.length ≤ 48000100 + 44 * k) outW p (fun k q u hq hK => ?_) (fun u _ => ?_) (g ++ numsT [(p.length : Int)]) (by rw [List.length_append]; omega)).1]
        · rw [fold_flat]
          simp only [Option.bind_some, sumE]
          have e1 : g ++ numsT [(p.length : Int)] ++ p.flatMap (fun q => numsT [q.1, q.2.1]) = g ++ pT p := by unfold pT; rw [List.append_assoc]
          rw [e1]
          refine ⟨by first | trivial | rfl, ?_⟩
          show (g ++ pT p).length ≤ 24000200 + 22 * ((f.2.2.1.take (j + 1)).map (bulkK (.slice kPt))).sum
          have := pT_len hpp hpb
          rw [List.length_append, htk]
          omega
        · have hqt := lt_of_get hq
          have hqi := hpp q (List.mem_of_getElem? hq)
          have hK' : u.length ≤ 48000100 + 44 * k := hK
          have hin := in64s_cons hqi.1 (in64s_cons hqi.2 in64s_nil)
          simp only [embW, dec_lt hqt, inB_lt hqt, Int.toNat_natCast, hq, cond_true, Option.bind_some]
          rw [nums_eq [q.1, q.2.1] u hin (by simp only [List.length_cons, List.length_nil]; omega), wrapS hqt (by omega)]
          simp only [Option.bind_some]
          refine ⟨by first | trivial | rfl, ?_⟩
          have := numsT_len hin
          simp only [List.length_cons, List.length_nil] at this
          show (u ++ numsT [q.1, q.2.1]).length ≤ _
          rw [List.length_append]
          omega
        · simp only [embW, dec_nlt, cond_false]
      · simp only [embW, dec_nlt, cond_false]
      · rw [fold_flat]
        simp only [Option.bind_some, sumE]
        have hd2 : (e ++ numsT [f.1, f.2.1, f.2.2.2.2.1, f.2.2.2.2.2.1, (f.2.2.1.length : Int), (f.2.2.2.1.length : Int)] ++ f.2.2.1.flatMap pT).length ≤ 48000200 := by
          rw [List.length_append]
          unfold bParts at hbfe
          omega
        refine (congrArg (fun z => Option.bind z _) (loop_fold embW (fun d p => d ++ aT p) (fun j g => g.length ≤ 48000200 + 22 * ((f.2.2.2.1.take j).map (bulkK kAtt)).sum) outW f.2.2.2.1 (fun j a g ha hJ => ?_) (fun g _ => ?_) _ (by simp only [List.take_zero, List.map_nil, List.sum_nil]; omega)).1).trans ?_
        · have hjt := lt_of_get ha
          have ham := List.mem_of_getElem? ha
          have hai := hw.att a ham
          have hJ' : g.length ≤ 48000200 + 22 * ((f.2.2.2.1.take j).map (bulkK kAtt)).sum := hJ
          have htk : ((f.2.2.2.1.take (j + 1)).map (bulkK kAtt)).sum = ((f.2.2.2.1.take j).map (bulkK kAtt)).sum + bulkK kAtt a := by
            rw [List.take_add_one, ha]
            simp
          have hle2 : ((f.2.2.2.1.take (j + 1)).map (bulkK kAtt)).sum ≤ (f.2.2.2.1.map (bulkK kAtt)).sum := by
            have : f.2.2.2.1.take (j + 1) ++ f.2.2.2.1.drop (j + 1) = f.2.2.2.1 := List.take_append_drop _ _
            calc ((f.2.2.2.1.take (j + 1)).map (bulkK kAtt)).sum ≤ ((f.2.2.2.1.take (j + 1)).map (bulkK kAtt)).sum + ((f.2.2.2.1.drop (j + 1)).map (bulkK kAtt)).sum := Nat.le_add_right _ _
              _ = (f.2.2.2.1.map (bulkK kAtt)).sum := by rw [← List.sum_append, ← List.map_append, this]
          have hab : bulkK kAtt a ≤ 1048576 := by unfold bAtts at hbfe; omega
          have hgl : g.length ≤ 72000300 := by unfold bAtts at hbfe; omega
          have hae := bulk_att a
          have hin := in64s_cons (in64_nat (show a.1.size ≤ 1048576 by omega)) (in64s_cons hai.1 (in64s_cons hai.2 (in64s_cons (in64_nat (show a.2.1.2.2.1.size ≤ 1048576 by omega)) in64s_nil)))
          have hnn := numsT_len hin
          have hfb := fbool_len a.2.1.2.2.2.1
          simp only [List.length_cons, List.length_nil] at hnn
          simp only [embW, dec_lt hjt, inB_lt hjt, Int.toNat_natCast, ha, cond_true, Option.bind_some]
          rw [nums_eq _ g hin (by simp only [List.length_cons, List.length_nil]; omega), wrapS hjt (by omega)]
          have ek : a.1 = ⟨(ofS a.1).toArray⟩ := rfl
          have ev : a.2.1.2.2.1 = ⟨(ofS a.2.1.2.2.1).toArray⟩ := rfl
          have hkl : (ofS a.1).length = a.1.size := ofS_len _
          have hvl : (ofS a.2.1.2.2.1).length = a.2.1.2.2.1.size := ofS_len _
          have hc1 : decide (9223372036854775807 < a.1.size + a.2.1.2.2.1.size) = false := big (by omega)
          have happ : a.1 ++ a.2.1.2.2.1 = ⟨(ofS a.1 ++ ofS a.2.1.2.2.1).toArray⟩ := ba_app (ofS a.1) (ofS a.2.1.2.2.1)
          have efb : r24 (a.2.1.2.2.2.1, ()) = some (⟨(Lib.formatBool a.2.1.2.2.2.1).toArray⟩, ()) := wfbool_eq _
          simp only [Option.bind_some, hc1, cond_false, happ]
          rw [efb]
          simp only [Option.bind_some, ba_app, size_mk]
          rw [big (by simp only [List.length_append]; omega)]
          simp only [cond_false]
          rw [wstr _ _ (by simp only [List.length_append]; omega)]
          simp only [Option.bind_some]
          have e2 : g ++ numsT [(a.1.size : Int), a.2.1.1, a.2.1.2.1, (a.2.1.2.2.1.size : Int)] ++ (ofS a.1 ++ ofS a.2.1.2.2.1 ++ Lib.formatBool a.2.1.2.2.2.1) = g ++ aT a := by unfold aT; rw [List.append_assoc]
          rw [e2]
          refine ⟨by first | trivial | rfl, ?_⟩
          have := aT_len hai hab
          show (g ++ aT a).length ≤ 48000200 + 22 * ((f.2.2.2.1.take (j + 1)).map (bulkK kAtt)).sum
          rw [List.length_append, htk]
          omega
        · simp only [embW, dec_nlt, cond_false]
        · rw [fold_flat]
          simp only [Option.bind_some, sumE]
          show some (Sum.inl (embW ((i : Int) + 1) _)) = some (Sum.inl (embW ((i : Int) + 1) _))
          congr 3
          unfold fT
          simp only [List.append_assoc]
    · show (e ++ fT f).length ≤ 22 + 22 * ((l.take (i + 1)).map (bulkK kFea)).sum
      have := fT_len hw hbf
      rw [List.length_append, htake]
      omega
  · simp only [embW, dec_nlt, cond_false]
  · rw [fold_flat]
    simp only [Option.bind_some, sumE]
    rw [show numsT [(l.length : Int)] ++ l.flatMap fT = whoseT l from rfl, bstr _ (by omega)]
    rfl
end Go.Proofs.YtjgiibfejfkocaaGreatDoor.I

namespace Go.Proofs.YtjgiibfejfkocaaGreatDoor.I
open Go.RowKit
set_option linter.unusedVariables false
set_option linter.constructorNameAsVariable false
theorem enc_min : ∀ (ns : List Int), ns.length ≤ (encAll ns).length
  | [] => by simp
  | n :: ns => by
    have h1 := enc_min ns
    have h2 := varint_pos (zig n)
    have e : encAll (n :: ns) = varint (zig n) ++ encAll ns := rfl
    rw [e, List.length_append, List.length_cons]
    omega
theorem encPts_min : ∀ (p : List DPt) (x y : Int), 2 * p.length ≤ (encPts x y p).length
  | [], _, _ => by simp
  | q :: l, x, y => by
    have h1 := encPts_min l q.1 q.2.1
    have h2 := enc_min [W64 (q.1 - x), W64 (q.2.1 - y)]
    simp only [encPts, List.length_append, List.length_cons, List.length_nil] at h2 ⊢
    omega
theorem bPts_eq : ∀ (p : List DPt), bPts p = 2 * p.length + 1
  | [] => rfl
  | q :: l => by
    have h := bPts_eq l
    unfold bPts at h ⊢
    simp only [List.map_cons, List.sum_cons, bulk_pt, List.length_cons]
    omega
theorem encParts_min : ∀ (l : List (List DPt)) (x y : Int), (l.map (bulkK (.slice kPt))).sum ≤ (encParts x y l).length
  | [], _, _ => by simp
  | p :: l, x, y => by
    have h1 := encParts_min l (endPt x y p).1 (endPt x y p).2
    have h2 := encPts_min p x y
    have h3 := enc_min [(p.length : Int)]
    have h4 : bulkK (.slice kPt) p = 2 * p.length + 1 := bPts_eq p
    simp only [encParts, List.map_cons, List.sum_cons, List.length_append, List.length_cons, List.length_nil] at h3 ⊢
    omega
theorem encAtt_min {a : DAtt} (h : a.2.1.1 ≠ 2 → a.2.1.2.2.1.size = 0) : bulkK kAtt a ≤ 3 * (encAtt a).length := by
  rw [bulk_att]
  have h1 := enc_min [(a.1.size : Int)]
  have h2 := enc_min [a.2.1.1]
  unfold encAtt
  simp only [List.length_append, List.length_cons, List.length_nil, ofS_len] at h1 h2 ⊢
  by_cases h3 : a.2.1.1 = 2
  · have h4 : encVal a.2.1 = encAll [(a.2.1.2.2.1.size : Int)] ++ ofS a.2.1.2.2.1 := by
      unfold encVal
      rw [if_neg (by omega), if_pos h3]
    rw [h4, List.length_append, ofS_len]
    omega
  · have := h h3
    omega
theorem encAtts_min : ∀ (l : List DAtt), (∀ a ∈ l, a.2.1.1 ≠ 2 → a.2.1.2.2.1.size = 0) → (l.map (bulkK kAtt)).sum ≤ 3 * (l.flatMap encAtt).length
  | [], _ => by simp
  | a :: l, h => by
    have h1 := encAtt_min (h a (by simp))
    have h2 := encAtts_min l (fun b hb => h b (by simp [hb]))
    rw [List.map_cons, List.sum_cons, List.flatMap_cons, List.length_append]
    omega
theorem encFea_min {f : DFea} (last : Int) (h : ∀ a ∈ f.2.2.2.1, a.2.1.1 ≠ 2 → a.2.1.2.2.1.size = 0) : bulkK kFea f ≤ 3 * (encFea last f).length := by
  rw [bulk_fea]
  have h1 := encParts_min f.2.2.1 0 0
  have h2 := encAtts_min f.2.2.2.1 h
  have h3 := enc_min (heads last f)
  have h4 := enc_min [(f.2.2.2.1.length : Int)]
  have h5 : (heads last f).length = 5 := rfl
  unfold encFea bParts bAtts
  simp only [List.length_append, List.length_cons, List.length_nil] at h4 ⊢
  omega
theorem encFs_min : ∀ (l : List DFea) (last : Int), (∀ f ∈ l, ∀ a ∈ f.2.2.2.1, a.2.1.1 ≠ 2 → a.2.1.2.2.1.size = 0) → (l.map (bulkK kFea)).sum ≤ 3 * (encFs last l).length
  | [], _, _ => by simp
  | f :: l, last, h => by
    have h1 := encFea_min last (h f (by simp))
    have h2 := encFs_min l f.1 (fun g hg => h g (by simp [hg]))
    simp only [encFs, List.map_cons, List.sum_cons, List.length_append]
    omega
theorem feaV_of2 {f : DFea} (hs : small kFea f) (h : featV f = 0) : FeaV f := by
  obtain ⟨h1, h2, h3, h4, h5, h6, h7⟩ := featV_ok hs h
  refine ⟨fea_ok hs h, by omega, by omega, fun p hp q hq => ?_, fun a ha => valV_of ((attr_zero h4).2 a ha).2⟩
  have := h1.inp p hp q hq
  unfold InR
  omega
theorem no_text {v : DVal} (h : ValV v) (h2 : v.1 ≠ 2) : v.2.2.1.size = 0 := by
  rcases h with rfl | ⟨n, _, rfl⟩ | ⟨s, _, rfl⟩ | ⟨b, rfl⟩
  · rfl
  · rfl
  · exact absurd rfl h2
  · rfl
theorem surv_bulk {l : List DFea} (hs : small (.slice kFea) l) (h0 : survV l = 0) (hb : (total l).length ≤ 65536) : bSurv l ≤ 1048576 := by
  have h1 := encFs_min l 0 (fun f hf a ha => no_text ((feaV_of2 (hs.2 f hf) ((surv_zero h0).2 f hf)).att a ha))
  rw [total_len, surB_eq] at hb
  simp only [List.length_append, List.length_cons, List.length_nil] at hb
  unfold bSurv
  omega
theorem sum_loop {O : Type} {step : (Int × Int × Int × Unit) × Unit → Option (((Int × Int × Int × Unit) × Unit) ⊕ O)} {out : Int → O} (t : List UInt8) (ht : t.length = 4) (h : Nat)
    (hin : ∀ (i : Nat) (c : UInt8) (bad n : Int), t[i]? = some c → i < 4 → step ((bad, (n, (((i : Nat) : Int), ()))), ()) = some (.inl ((if ((c.toNat : Nat) : Int) = IntKind.wrap .u8 n then bad else 13, (Int.fdiv n 256, (((i + 1 : Nat) : Int), ()))), ())))
    (hend : ∀ (bad n : Int), step ((bad, (n, (((4 : Nat) : Int), ()))), ()) = some (.inr (out bad))) : loop step (((0 : Int), ((h : Int), (((0 : Nat) : Int), ()))), ()) = some (out (if t = sumB h then 0 else 13)) := by
  obtain ⟨a, b, c, e, rfl⟩ : ∃ a b c e, t = [a, b, c, e] := by
    match t, ht with
    | [a, b, c, e], _ => exact ⟨a, b, c, e, rfl⟩
  have q : ∀ (x : UInt8) (m : Nat), (((x.toNat : Nat) : Int) = IntKind.wrap .u8 (m : Int)) ↔ x = UInt8.ofNat (m % 256) := fun x m => by
    rw [byte0]
    constructor
    · intro h
      exact UInt8.toNat_inj.1 (by omega)
    · intro h
      rw [h]
  have n1 : Int.fdiv (h : Int) 256 = ((h / 256 : Nat) : Int) := by rw [Int.fdiv_eq_ediv_of_nonneg _ (by omega)]; omega
  have n2 : Int.fdiv ((h / 256 : Nat) : Int) 256 = ((h / 65536 : Nat) : Int) := by rw [Int.fdiv_eq_ediv_of_nonneg _ (by omega)]; omega
  have n3 : Int.fdiv ((h / 65536 : Nat) : Int) 256 = ((h / 16777216 : Nat) : Int) := by rw [Int.fdiv_eq_ediv_of_nonneg _ (by omega)]; omega
  rw [loop_eq, hin 0 a _ _ rfl (by omega)]
  simp only [Option.bind_some]
  rw [loop_eq, hin 1 b _ _ rfl (by omega)]
  simp only [Option.bind_some]
  rw [loop_eq, hin 2 c _ _ rfl (by omega)]
  simp only [Option.bind_some]
  rw [loop_eq, hin 3 e _ _ rfl (by omega)]
  simp only [Option.bind_some]
  rw [loop_eq, hend]
  simp only [Option.bind_some, n1, n2, n3, q]
  unfold sumB
  by_cases h1 : a = UInt8.ofNat (h % 256) <;> by_cases h2 : b = UInt8.ofNat (h / 256 % 256) <;> by_cases h3 : c = UInt8.ofNat (h / 65536 % 256) <;> by_cases h4 : e = UInt8.ofNat (h / 16777216 % 256) <;> simp [h1, h2, h3, h4]
end Go.Proofs.YtjgiibfejfkocaaGreatDoor.I

namespace Go.Proofs.YtjgiibfejfkocaaGreatDoor.I
open Go.RowKit
set_option linter.unusedVariables false
set_option linter.constructorNameAsVariable false
theorem put_m1' : r11 (([] : List Int), ((-1 : Int), ())) = some ([1], ()) := by
  unfold r11
  refine bind_of (x := ([] : List Int)) rfl ?_
  rw [loop_eq]
  rfl
theorem bbegun_eq : r4 () = some (true, ()) := by
  unfold r4
  refine bind_of put_m1' ?_
  have e3 : r10 ([1], ([1], ())) = some (true, ()) := eqBytes_same [1] (by simp)
  exact bind_of e3 rfl
def badL : List DFea := [(0, (0, ([], ([], (0, (0, ()))))))]
theorem badL_small : small (.slice kFea) badL := ⟨by decide, fun f hf => by
  rw [List.mem_singleton.1 hf]
  exact ⟨wf_any (n := 0) (by omega), wf_any (n := 0) (by omega), ⟨by decide, fun a ha => by cases ha⟩, ⟨by decide, fun a ha => by cases ha⟩, wf_any (n := 0) (by omega), wf_any (n := 0) (by omega), trivial⟩⟩
theorem badL_bad : survV badL ≠ 0 := by
  intro h
  have := ((surv_zero h).2 _ (List.mem_singleton.2 rfl))
  revert this
  decide
set_option maxHeartbeats 4000000 in
theorem reads_tail (d : List UInt8) : Yl (r3 (toI d, (badL, ()))) (fun y => y = (true, ())) := by
  unfold r3
  refine yl_bind (yl_eq bbegun_eq) (fun x hx => ?_)
  subst hx
  refine yl_false rfl (yl_bind (yl_eq (r17_eq badL badL_small)) (fun x hx => ?_))
  subst hx
  refine yl_false (decide_eq_false badL_bad) ?_
  by_cases h1 : 65536 < d.length
  · refine yl_bind (yl_eq (read_bad d 2 (by unfold headR; rw [if_pos h1]))) (fun x hx => ?_)
    subst hx
    exact yl_true (decide_eq_true (by rw [toI_len]; omega)) (yl_true rfl (yl_true rfl (yl_some rfl)))
  have e1 : decide ((65536 : Int) < ((toI d).length : Int)) = false := decide_eq_false (by rw [toI_len]; omega)
  by_cases h2 : d.length < 6
  · refine yl_bind (yl_eq (read_bad d 14 (by unfold headR; rw [if_neg h1, if_pos h2]))) (fun x hx => ?_)
    subst hx
    exact yl_false e1 (yl_true (decide_eq_true (by rw [toI_len]; omega)) (yl_true rfl (yl_true rfl (yl_some rfl))))
  have e2 : decide (((toI d).length : Int) < 6) = false := decide_eq_false (by rw [toI_len]; omega)
  have e3 : upTo (2 : Int) ((toI d).length : Int) = true := by rw [toI_len]; unfold upTo; exact decide_eq_true ⟨by omega, by omega⟩
  have e4 : (toI d).take (Int.toNat (2 : Int)) = toI (d.take 2) := toI_take d 2
  have e5 : (ByteArray.mk (List.toArray (List.cons (84 : UInt8) (List.cons (49 : UInt8) (List.nil))))) = mkStr (toI [84, 49]) := (mkStr_toI _).symm
  by_cases h3 : d.take 2 ≠ [84, 49]
  · refine yl_bind (yl_eq (read_bad d 3 (by unfold headR; rw [if_neg h1, if_neg h2, if_pos h3]))) (fun x hx => ?_)
    subst hx
    refine yl_false e1 (yl_false e2 (yl_true e3 (yl_true ?_ (yl_true rfl (yl_true rfl (yl_some rfl))))))
    rw [e4, e5, dec_mk, decide_eq_false h3]
    rfl
  have h3' : d.take 2 = [84, 49] := by simpa using h3
  have w4 : IntKind.wrap .i64 (((toI d).length : Int) - 4) = ((d.length - 4 : Nat) : Int) := by rw [toI_len, wrap64 (by omega) (by omega)]; omega
  have e6 : upTo (IntKind.wrap .i64 (((toI d).length : Int) - 4)) ((toI d).length : Int) = true := by rw [w4, toI_len]; unfold upTo; exact decide_eq_true ⟨by omega, by omega⟩
  have ht : ((toI d).take (Int.toNat (IntKind.wrap .i64 (((toI d).length : Int) - 4)))) = toI (d.take (d.length - 4)) := by rw [w4, Int.toNat_natCast, toI_take]
  have hdr : ((toI d).drop (Int.toNat (IntKind.wrap .i64 (((toI d).length : Int) - 4)))) = toI (d.drop (d.length - 4)) := by rw [w4, Int.toNat_natCast, toI_drop]
  have hdl : (d.drop (d.length - 4)).length = 4 := by rw [List.length_drop]; omega
  have hsum : r9 ((mkStr ((toI d).take (Int.toNat (IntKind.wrap .i64 (((toI d).length : Int) - 4))))), ()) = some ((fnv (d.take (d.length - 4)) : Int), ()) := by
    rw [ht, mkStr_toI]
    exact r65_eq _ (by rw [size_mk, List.length_take]; omega)
  have h3b : (!decide (mkStr ((toI d).take (Int.toNat (2 : Int))) = (ByteArray.mk (List.toArray (List.cons (84 : UInt8) (List.cons (49 : UInt8) (List.nil))))))) = false := by
    rw [e4, e5, dec_mk, decide_eq_true h3']
    rfl
  have hread : Yl (r7 (toI d, ())) (fun y => (d.drop (d.length - 4) ≠ sumB (fnv (d.take (d.length - 4))) ∧ y = ([], (13, ()))) ∨ (d.drop (d.length - 4) = sumB (fnv (d.take (d.length - 4))) ∧ (y = ([], (3, ())) ∨ ∃ l : List DFea, y = (l, (0, ())) ∧ small (.slice kFea) l ∧ survV l = 0 ∧ total l = d))) := by
    by_cases h4 : d.drop (d.length - 4) ≠ sumB (fnv (d.take (d.length - 4)))
    · exact ⟨_, read_bad d 13 (by unfold headR; rw [if_neg h1, if_neg h2, if_neg h3, if_pos h4]), .inl ⟨h4, rfl⟩⟩
    · obtain ⟨y, q1, q2⟩ := read_any d (by unfold headR; rw [if_neg h1, if_neg h2, if_neg h3, if_neg h4])
      exact ⟨y, q1, .inr ⟨by simpa using h4, q2⟩⟩
  refine yl_bind hread (fun y hy => ?_)
  refine yl_false e1 (yl_false e2 (yl_true e3 (yl_false h3b (yl_true e6 (yl_bind (yl_eq hsum) (fun x hx => ?_))))))
  subst hx
  refine yl_true e6 ?_
  rw [hdr]
  refine yl_bind (yl_eq (sum_loop (out := fun b => Sum.inl ((b, ()), ())) (d.drop (d.length - 4)) hdl (fnv (d.take (d.length - 4))) (fun i c bad n hc hi => ?_) (fun bad n => ?_))) (fun x hx => ?_)
  · have hi2 : i < (toI (d.drop (d.length - 4))).length := by rw [toI_len, hdl]; exact hi
    simp only [dec_lt hi2, inB_lt hi2, Int.toNat_natCast, toI_get hc, cond_true, Option.bind_some]
    have hw : IntKind.wrap .i64 ((i : Int) + 1) = ((i + 1 : Nat) : Int) := by rw [wrap64 (by omega) (by omega)]; omega
    rw [hw]
    by_cases hq : ((c.toNat : Nat) : Int) = IntKind.wrap .u8 n
    · rw [decide_eq_true hq, if_pos hq]; rfl
    · rw [decide_eq_false hq, if_neg hq]; rfl
  · have : decide (((4 : Nat) : Int) < ((toI (d.drop (d.length - 4))).length : Int)) = false := decide_eq_false (by rw [toI_len, hdl]; omega)
    simp only [this, cond_false]
  · subst hx
    simp only [sumE]
    rcases hy with ⟨h4, rfl⟩ | ⟨h4, rfl | ⟨l, rfl, hs, h0, htl⟩⟩
    · rw [if_neg h4]
      exact yl_true rfl (yl_true rfl (yl_true rfl (yl_some rfl)))
    · rw [if_pos h4]
      exact yl_false rfl (yl_true rfl (yl_true rfl (yl_false rfl (yl_true rfl (yl_some rfl)))))
    · rw [if_pos h4]
      refine yl_false rfl (yl_false rfl (yl_bind (yl_eq (r17_eq l hs)) (fun x hx => ?_)))
      subst hx
      refine yl_true (decide_eq_true h0) (yl_bind (yl_eq (r34_eq l (fun f hf => fea_ok (hs.2 f hf) ((surv_zero h0).2 f hf)) (surv_zero h0).1)) (fun x hx => ?_))
      subst hx
      refine yl_some ?_
      rw [htl, mkStr_toI, decide_eq_true rfl]
end Go.Proofs.YtjgiibfejfkocaaGreatDoor.I

namespace Go.Proofs.YtjgiibfejfkocaaGreatDoor.I
open Go.RowKit
set_option linter.unusedVariables false
set_option linter.constructorNameAsVariable false
theorem yl_binv {α β : Type} {a : Option α} {f : α → Option β} {P : β → Prop} {x : α} (e : a = some x) (h : Yl (Option.bind a f) P) : Yl (f x) P := by
  subst e
  exact h
theorem yl_cinv {β : Type} {b : Bool} {t e : Option β} {P : β → Prop} (hb : b = false) (h : Yl (cond b t e) P) : Yl e P := by
  subst hb
  exact h
theorem bytes_of : ∀ (x : List Int), (∀ a ∈ x, small (.int .u8) a) → ∃ d : List UInt8, x = toI d
  | [], _ => ⟨[], rfl⟩
  | a :: x, h => by
    obtain ⟨d, rfl⟩ := bytes_of x (fun b hb => h b (by simp [hb]))
    have ha : (Lit.int .u8 a).wf = true := h a (by simp)
    have h2 : 0 ≤ a ∧ a < 256 := by
      unfold Lit.wf at ha
      have e : IntKind.min .u8 ≤ a ∧ a ≤ IntKind.max .u8 := by simpa using ha
      have m0 : IntKind.min .u8 = 0 := rfl
      have m1 : IntKind.max .u8 = 255 := rfl
      omega
    refine ⟨UInt8.ofNat a.toNat :: d, ?_⟩
    have : ((UInt8.ofNat a.toNat).toNat : Int) = a := by rw [UInt8.toNat_ofNat']; omega
    show a :: toI d = ((UInt8.ofNat a.toNat).toNat : Int) :: toI d
    rw [this]
set_option maxHeartbeats 2000000 in
theorem binReads_raw (x : List Int) (l : List DFea) (hx : small (.slice (.int .u8)) x) (hs : small (.slice kFea) l) : r3 (x, (l, ())) = some (true, ()) := by
  obtain ⟨d, rfl⟩ := bytes_of x hx.2
  have key : Yl (r3 (toI d, (l, ()))) (fun y => y = (true, ())) := by
    have T := reads_tail d
    unfold r3 at T
    have T := yl_binv bbegun_eq T
    have T := yl_cinv rfl T
    have T := yl_binv (r17_eq badL badL_small) T
    have T := yl_cinv (decide_eq_false badL_bad) T
    unfold r3
    refine yl_bind (yl_eq bbegun_eq) (fun x hx => ?_)
    subst hx
    refine yl_false rfl (yl_bind (yl_eq (r17_eq l hs)) (fun x hx => ?_))
    subst hx
    refine yl_cond (fun h0 => ?_) (fun _ => T)
    have h0 : survV l = 0 := of_decide_eq_true h0
    have hF : ∀ f ∈ l, FeaOk f := fun f hf => fea_ok (hs.2 f hf) ((surv_zero h0).2 f hf)
    have hB := r34_eq l hF (surv_zero h0).1
    refine yl_bind (yl_eq hB) (fun x hx => ?_)
    subst hx
    refine yl_cond (fun h1 => ?_) (fun _ => T)
    have h1 : ((ByteArray.mk (total l).toArray).size : Int) ≤ 65536 := of_decide_eq_true h1
    rw [size_mk] at h1
    refine yl_bind (yl_eq hB) (fun x hx => ?_)
    subst hx
    have hR := read_total l hs (fun f hf => feaV_of2 (hs.2 f hf) ((surv_zero h0).2 f hf)) (surv_zero h0).1 h0 (by omega)
    refine yl_bind (yl_eq hR) (fun x hx => ?_)
    subst hx
    have hW := whose_eq l (fun f hf => w_ok (hs.2 f hf)) (surv_bulk hs h0 (by omega))
    refine yl_false rfl (yl_bind (yl_eq hW) (fun x hx => ?_))
    subst hx
    refine yl_bind (yl_eq hW) (fun x hx => ?_)
    subst hx
    exact yl_false (by rw [decide_eq_true rfl]; rfl) T
  obtain ⟨y, h1, rfl⟩ := key
  exact h1
end Go.Proofs.YtjgiibfejfkocaaGreatDoor.I

namespace Go.Proofs.YtjgiibfejfkocaaGreatDoor.I
open Go.RowKit
theorem gTab_of_reads {P : Program} {w : World} {n : String} {k : IntKind} {zs : List Int} {t e : TypeId} {m : Nat} (h : Lib.VarReads P w n (Lib.tabData k zs)) (hty : ((P.globalNamed n).bind fun g => (P.globals[g]?).map (·.type)) = some t)
    (ht : P.underlying t = some (.array m e)) (he : P.underlying e = some (.int k)) (hce : P.cellsOf e = 1) (hct : P.cellsOf t = m) : Lib.TabIs P w n k zs := by
  obtain ⟨g', t', cs, fuel, p, hg', ht', hv, hd⟩ := h
  rw [hg', Option.bind_some] at hty
  obtain rfl := Option.some.inj (hty.symm.trans ht')
  unfold Lib.TabIs
  rw [hv, ← Lib.cells_of_tab ht he hce hct hd]
set_option maxRecDepth 100000 in
theorem gG_of_laid {w : World} {l : List (String × DataW Unit)} (h : laidMet Tryz.prog l w) (h3 : ("internal/strconv.uint64pow10", Rows.laid_internal_strconv_uint64pow10) ∈ l) : gG w :=
  gTab_of_reads (zs := Lib.pow10Tab) (Lib.laidMet.reads h h3) (by kernel_rfl) Tryz.underlying116 Tryz.underlying70 (by kernel_rfl) (by kernel_rfl)
end Go.Proofs.YtjgiibfejfkocaaGreatDoor.I
