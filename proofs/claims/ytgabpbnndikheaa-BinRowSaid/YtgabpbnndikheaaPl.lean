import Derived.Below
import Derived.IntWalk
import Derived.Laws.BitsAllLaws
import Derived.Laws.BitsLemmas
namespace Go.Proofs.Ytgabpbnndikheaa
open Go.RowKit

/-- An integer's number as it is written: 7 bits a byte, the lowest first. -/
def varint (u : Nat) : List UInt8 := if h : u < 128 then [UInt8.ofNat u] else UInt8.ofNat (u % 128 + 128) :: varint (u / 128)
termination_by u
decreasing_by omega

theorem varint_lt {u : Nat} (h : u < 128) : varint u = [UInt8.ofNat u] := by rw [varint, dif_pos h]
theorem varint_ge {u : Nat} (h : 128 ≤ u) : varint u = UInt8.ofNat (u % 128 + 128) :: varint (u / 128) := by rw [varint, dif_neg (by omega)]
theorem varint_len (k u : Nat) (h : u < 128 ^ (k + 1)) : (varint u).length ≤ k + 1 := by
  induction k generalizing u with
  | zero => rw [varint_lt (by omega)]; simp
  | succ k ih =>
    by_cases hu : u < 128
    · rw [varint_lt hu]; simp
    · rw [varint_ge (by omega)]
      have := ih (u / 128) (by rw [Nat.div_lt_iff_lt_mul (by omega)]; rw [Nat.pow_succ] at h; exact h)
      simp; omega

/-- Signed numbers alternate: 0, -1, 1, -2, 2 .. -/
def zig (n : Int) : Nat := if n < 0 then (-2 * n - 1).toNat else (2 * n).toNat
theorem zig_lt {n : Int} (h0 : -9223372036854775808 ≤ n) (h1 : n ≤ 9223372036854775807) : zig n < 18446744073709551616 := by
  unfold zig; split <;> omega
theorem zig_len {n : Int} (h0 : -9223372036854775808 ≤ n) (h1 : n ≤ 9223372036854775807) : (varint (zig n)).length ≤ 10 :=
  varint_len 9 _ (by have := zig_lt h0 h1; omega)

theorem u64_xor_all (a : Nat) (ha : a < 18446744073709551616) : a ^^^ 18446744073709551615 = 18446744073709551615 - a := by
  have h := congrArg BitVec.toNat (BitVec.xor_allOnes (x := BitVec.ofNat 64 a))
  simp only [BitVec.toNat_xor, BitVec.toNat_not, BitVec.toNat_ofNat, BitVec.toNat_allOnes] at h
  rw [Nat.mod_eq_of_lt (by omega)] at h
  omega
theorem zig_bits {n : Int} (h0 : -9223372036854775808 ≤ n) (h1 : n ≤ 9223372036854775807) :
    bits BinOp.xor IntKind.u64 (IntKind.u64.wrap (IntKind.u64.wrap n * 2)) (IntKind.u64.wrap (n / 9223372036854775808)) = (zig n : Int) := by
  have e1 : ∀ x : Int, IntKind.u64.wrap x = x % 18446744073709551616 := fun x => by simp [IntKind.wrap, IntKind.bits, IntKind.signed]
  simp only [e1]
  rw [u64_xor _ _ (by omega) (by omega) (by omega) (by omega)]
  unfold zig
  split
  · rename_i h
    have e : (n / 9223372036854775808 % 18446744073709551616).toNat = 18446744073709551615 := by omega
    rw [e, u64_xor_all _ (by omega)]
    omega
  · rename_i h
    have e : (n / 9223372036854775808 % 18446744073709551616).toNat = 0 := by omega
    rw [e, Nat.xor_zero]
    omega
theorem zig_not {n : Int} (h0 : -9223372036854775808 ≤ n) (h : n < 0) :
    bits BinOp.xor IntKind.u64 IntKind.u64.max (IntKind.u64.wrap (IntKind.u64.wrap n * 2)) = (zig n : Int) := by
  have e1 : ∀ x : Int, IntKind.u64.wrap x = x % 18446744073709551616 := fun x => by simp [IntKind.wrap, IntKind.bits, IntKind.signed]
  have e2 : IntKind.u64.max = 18446744073709551615 := by decide +kernel
  simp only [e1, e2]
  rw [u64_xor _ _ (by omega) (by omega) (by omega) (by omega), Nat.xor_comm]
  unfold zig
  rw [if_pos h, show (18446744073709551615 : Int).toNat = 18446744073709551615 from rfl, u64_xor_all _ (by omega)]
  omega
theorem zig_pos {n : Int} (h : ¬ n < 0) : n * 2 = (zig n : Int) := by unfold zig; rw [if_neg h]; omega
theorem varint_pos (u : Nat) : 1 ≤ (varint u).length := by
  by_cases h : u < 128
  · rw [varint_lt h]; simp
  · rw [varint_ge (by omega)]; simp
theorem u8_mod128 (u : Nat) : ((u : Int) % 128 + 128) = ((UInt8.ofNat (u % 128 + 128)).toNat : Int) := by
  rw [UInt8.toNat_ofNat']; omega
theorem u8_or128' (u : Nat) : bits .or .u8 ((u : Int) % 256) 128 = ((UInt8.ofNat (u % 128 + 128)).toNat : Int) := by
  have e : ((u : Int) % 256) = ((u % 256 : Nat) : Int) := by omega
  rw [e]
  have h := u8_or_nat (u % 256) 128 (by omega) (by omega)
  rw [show ((128 : Nat) : Int) = 128 from rfl] at h
  rw [h]
  congr 1
  have h2 : ∀ a, a < 256 → a ||| 128 = a % 128 + 128 := by decide +kernel
  rw [h2 _ (by omega), UInt8.toNat_ofNat']
  omega

theorem foldl_take_succ {α β : Type} (f : β → α → β) (b : β) (l : List α) (i : Nat) (h : i < l.length) : (l.take (i + 1)).foldl f b = f ((l.take i).foldl f b) l[i] := by
  rw [List.take_succ_eq_append_getElem h, List.foldl_append]; rfl

theorem u64w {x : Int} (h0 : 0 ≤ x) (h1 : x < 18446744073709551616) : IntKind.u64.wrap x = x := by
  have e1 : ∀ x : Int, IntKind.u64.wrap x = x % 18446744073709551616 := fun x => by simp [IntKind.wrap, IntKind.bits, IntKind.signed]
  rw [e1]; omega
theorem ba_app (a b : List UInt8) : (⟨a.toArray⟩ : ByteArray) ++ (⟨b.toArray⟩ : ByteArray) = ⟨(a ++ b).toArray⟩ := by
  apply ByteArray.ext
  simp [ByteArray.data_append]
/-- What is read: the number, how many bytes it has, an error's number. -/
def getU : Nat → Nat → List UInt8 → Nat × Nat × Nat
  | _, _, [] => (0, 0, 14)
  | i, u, c :: cs => if i = 9 ∧ 1 < c.toNat then (0, 0, 2) else if 128 ≤ c.toNat then getU (i + 1) (u + c.toNat % 128 * 2 ^ (7 * i)) cs
    else if 0 < i ∧ c.toNat = 0 then (0, 0, 3) else (u + c.toNat % 128 * 2 ^ (7 * i), i + 1, 0)
def unzig (u : Nat) : Int := if u % 2 = 1 then -((u / 2 : Nat) : Int) - 1 else ((u / 2 : Nat) : Int)

theorem getU_size (l : List UInt8) : ∀ (i u : Nat), (getU i u l).2.2 = 0 → i < (getU i u l).2.1 ∧ (getU i u l).2.1 ≤ i + l.length := by
  induction l with
  | nil => intro i u h; simp [getU] at h
  | cons c cs ih =>
    intro i u
    rw [getU]
    by_cases h1 : i = 9 ∧ 1 < c.toNat
    · rw [if_pos h1]; intro h; simp at h
    · rw [if_neg h1]
      by_cases h2 : 128 ≤ c.toNat
      · rw [if_pos h2]; intro h; have := ih _ _ h; simp; omega
      · rw [if_neg h2]
        by_cases h3 : 0 < i ∧ c.toNat = 0
        · rw [if_pos h3]; intro h; simp at h
        · rw [if_neg h3]; intro _; simp
theorem getU_step {k v b : Nat} (hk : k ≤ 9) (hv : v < 2 ^ (7 * k)) (h9 : k < 9 ∨ b ≤ 1) :
    IntKind.u64.wrap ((v : Int) + IntKind.u64.wrap ((b : Int) % 128 * 2 ^ (k * 7))) = ((v + b % 128 * 2 ^ (7 * k) : Nat) : Int) ∧ v + b % 128 * 2 ^ (7 * k) < 2 ^ (7 * (k + 1)) ∧ v + b % 128 * 2 ^ (7 * k) < 18446744073709551616 := by
  have e1 : ∀ x : Int, IntKind.u64.wrap x = x % 18446744073709551616 := fun x => by simp [IntKind.wrap, IntKind.bits, IntKind.signed]
  rw [e1, e1]
  have : k = 0 ∨ k = 1 ∨ k = 2 ∨ k = 3 ∨ k = 4 ∨ k = 5 ∨ k = 6 ∨ k = 7 ∨ k = 8 ∨ k = 9 := by omega
  rcases this with rfl | rfl | rfl | rfl | rfl | rfl | rfl | rfl | rfl | rfl <;> simp only [Nat.reduceMul, Nat.reduceAdd, Nat.reducePow, Int.reducePow] at * <;> omega

theorem getO_step {k v b : Nat} (hk : k ≤ 9) (hv : v < 2 ^ (7 * k)) (hb : b < 256) (h9 : k < 9 ∨ b ≤ 1) :
    bits BinOp.or IntKind.u64 (v : Int) (IntKind.u64.wrap (IntKind.u64.wrap (bits BinOp.and IntKind.u8 (b : Int) 127) * 2 ^ (7 * k))) = ((v + b % 128 * 2 ^ (7 * k) : Nat) : Int) := by
  have e1 : ∀ x : Int, IntKind.u64.wrap x = x % 18446744073709551616 := fun x => by simp [IntKind.wrap, IntKind.bits, IntKind.signed]
  have e2 : bits BinOp.and IntKind.u8 (b : Int) 127 = ((b % 128 : Nat) : Int) := by
    have := u8_and_nat b 127 hb (by omega)
    rw [nat_mask7] at this
    exact this
  rw [e2, e1, e1]
  have hp : ((b % 128 : Nat) : Int) % 18446744073709551616 * 2 ^ (7 * k) % 18446744073709551616 = ((b % 128 * 2 ^ (7 * k) : Nat) : Int) ∧ b % 128 * 2 ^ (7 * k) < 18446744073709551616 ∧ v < 18446744073709551616 := by
    have : k = 0 ∨ k = 1 ∨ k = 2 ∨ k = 3 ∨ k = 4 ∨ k = 5 ∨ k = 6 ∨ k = 7 ∨ k = 8 ∨ k = 9 := by omega
    rcases this with rfl | rfl | rfl | rfl | rfl | rfl | rfl | rfl | rfl | rfl <;> simp only [Nat.reduceMul, Nat.reduceAdd, Nat.reducePow, Int.reducePow] at * <;> omega
  rw [hp.1, u64_or_nat _ _ hp.2.2 hp.2.1, Nat.or_comm, nat_join (7 * k) _ _ (Nat.mul_mod_left _ _) hv]
  congr 1
  omega
theorem i64_xor_m1 {x : Int} (h0 : -9223372036854775808 ≤ x) (h1 : x ≤ 9223372036854775807) : bits BinOp.xor IntKind.i64 x (-1) = -x - 1 := by
  show IntKind.i64.wrap ((BitVec.ofInt 64 x ^^^ BitVec.ofInt 64 (-1)).toNat : Int) = _
  rw [show BitVec.ofInt 64 (-1) = BitVec.allOnes 64 from by decide, BitVec.xor_allOnes, BitVec.toNat_not, BitVec.toNat_ofInt, IntKind.wrap_i64]
  omega
theorem i64_xor_0 {x : Int} (h0 : -9223372036854775808 ≤ x) (h1 : x ≤ 9223372036854775807) : bits BinOp.xor IntKind.i64 x 0 = x := by
  show IntKind.i64.wrap ((BitVec.ofInt 64 x ^^^ BitVec.ofInt 64 0).toNat : Int) = _
  rw [show BitVec.ofInt 64 0 = 0#64 from by decide, BitVec.xor_zero, BitVec.toNat_ofInt, IntKind.wrap_i64]
  omega
theorem u64_and1 {q : Nat} (hq : q < 18446744073709551616) : bits BinOp.and IntKind.u64 (q : Int) 1 = ((q % 2 : Nat) : Int) := by
  have := u64_and_nat q 1 hq (by omega)
  rw [nat_mask1] at this
  exact this
theorem unzig_odd {q : Nat} (hq : q < 18446744073709551616) (h : ((q : Int) % 2 == 1) = true) : wrap64 (wrap64 (-wrap64 (IntKind.u64.wrap ((q : Int) / 2))) - 1) = unzig q := by
  rw [u64w (by omega) (by omega)]
  simp at h
  unfold unzig wrap64
  rw [if_pos (by omega)]
  omega
theorem unzig_even {q : Nat} (hq : q < 18446744073709551616) (h : ((q : Int) % 2 == 1) = false) : wrap64 (IntKind.u64.wrap ((q : Int) / 2)) = unzig q := by
  rw [u64w (by omega) (by omega)]
  simp at h
  unfold unzig wrap64
  rw [if_neg (by omega)]
  omega
theorem unzig_xor {q : Nat} (hq : q < 18446744073709551616) : bits BinOp.xor IntKind.i64 (wrap64 ((q : Int) / 2)) (-((q : Int) % 2)) = unzig q := by
  have e : wrap64 ((q : Int) / 2) = ((q / 2 : Nat) : Int) := by unfold wrap64; omega
  rw [e]
  unfold unzig
  by_cases h : q % 2 = 1
  · rw [if_pos h, show (-((q : Int) % 2)) = -1 by omega, i64_xor_m1 (by omega) (by omega)]
  · rw [if_neg h, show (-((q : Int) % 2)) = 0 by omega, i64_xor_0 (by omega) (by omega)]
theorem ret3 {a b c a' b' c' : Int} (ha : a = a') (hb : b = b') (hc : c = c') : Ending.returned (.tuple #[.int .i64 a, .int .i64 b, .int .i64 c]) = .returned (.tuple #[.int .i64 a', .int .i64 b', .int .i64 c']) := by
  rw [ha, hb, hc]

/-- The checksum. -/
def fnvStep (h : Nat) (c : UInt8) : Nat := ((h ^^^ c.toNat) * 16777619) % 4294967296
def fnv (bs : List UInt8) : Nat := bs.foldl fnvStep 2166136261
theorem fnv_lt' (bs : List UInt8) (h : Nat) (hh : h < 4294967296) : bs.foldl fnvStep h < 4294967296 := by
  induction bs generalizing h with
  | nil => exact hh
  | cons c cs ih => exact ih _ (by unfold fnvStep; omega)
theorem fnv_lt (bs : List UInt8) : fnv bs < 4294967296 := fnv_lt' bs _ (by omega)
theorem fnv32 (h : Nat) (c : UInt8) (hh : h < 4294967296) : bits .xor .u32 (h : Int) (c.toNat : Int) * 16777619 % 4294967296 = (fnvStep h c : Int) := by
  rw [u32_xor_nat h c.toNat hh (by have := c.toNat_lt; omega)]
  unfold fnvStep; omega
theorem fnv64 (h : Nat) (c : UInt8) (hh : h < 4294967296) : (IntKind.u64.wrap (bits .xor .u64 (h : Int) (c.toNat : Int) * 16777619)).tmod 4294967296 = (fnvStep h c : Int) := by
  have e1 : ∀ x : Int, IntKind.u64.wrap x = x % 18446744073709551616 := fun x => by simp [IntKind.wrap, IntKind.bits, IntKind.signed]
  rw [u64_xor_nat h c.toNat (by omega) (by have := c.toNat_lt; omega), e1, Int.tmod_eq_emod_of_nonneg (by omega)]
  unfold fnvStep; omega

theorem getU_varint : ∀ (u i v : Nat) (rest : List UInt8), u * 2 ^ (7 * i) < 18446744073709551616 → i ≤ 9 → (0 < i → 0 < u) → getU i v (varint u ++ rest) = (v + u * 2 ^ (7 * i), i + (varint u).length, 0) := by
  intro u
  induction u using Nat.strongRecOn with
  | _ u ih =>
    intro i v rest hu hi h0
    have h9 : i = 9 → u < 2 := by
      rintro rfl
      simp only [Nat.reduceMul, Nat.reducePow] at hu
      omega
    by_cases h : u < 128
    · have e1 : (UInt8.ofNat u).toNat = u := by rw [UInt8.toNat_ofNat']; omega
      rw [varint_lt h]
      simp only [List.cons_append, List.nil_append, getU, e1]
      rw [if_neg (by omega), if_neg (by omega), if_neg (by omega), Nat.mod_eq_of_lt h]
      rfl
    · have e1 : (UInt8.ofNat (u % 128 + 128)).toNat = u % 128 + 128 := by rw [UInt8.toNat_ofNat']; omega
      rw [varint_ge (by omega)]
      simp only [List.cons_append, getU, e1]
      have e2 : (u % 128 + 128) % 128 = u % 128 := by omega
      have e3 : 2 ^ (7 * (i + 1)) = 2 ^ (7 * i) * 128 := by rw [Nat.mul_add, Nat.pow_add]
      have e4 : u * 2 ^ (7 * i) = u % 128 * 2 ^ (7 * i) + u / 128 * (2 ^ (7 * i) * 128) := by
        have hq : u = u % 128 + u / 128 * 128 := by omega
        have hz : (u % 128 + u / 128 * 128) * 2 ^ (7 * i) = u % 128 * 2 ^ (7 * i) + u / 128 * (2 ^ (7 * i) * 128) := by
          rw [Nat.add_mul, Nat.mul_assoc, Nat.mul_comm 128]
        rw [← hz, ← hq]
      rw [if_neg (by omega), if_pos (by omega), e2, ih (u / 128) (by omega) (i + 1) _ rest (by rw [e3]; omega) (by omega) (by omega), e3, e4]
      simp only [List.length_cons]
      congr 1
      · omega
      · congr 1
        omega
theorem unzig_zig {n : Int} : unzig (zig n) = n := by
  unfold unzig zig
  split <;> split <;> omega
theorem get_varint {n : Int} (h0 : -9223372036854775808 ≤ n) (h1 : n ≤ 9223372036854775807) (rest : List UInt8) : getU 0 0 (varint (zig n) ++ rest) = (zig n, (varint (zig n)).length, 0) := by
  have := getU_varint (zig n) 0 0 rest (by have := zig_lt h0 h1; omega) (by omega) (by omega)
  simpa using this
def encAll (xs : List Int) : List UInt8 := xs.flatMap fun x => varint (zig x)
theorem encAll_len (xs : List Int) (h : ∀ x ∈ xs, -9223372036854775808 ≤ x ∧ x ≤ 9223372036854775807) : (encAll xs).length ≤ 10 * xs.length := by
  induction xs with
  | nil => simp [encAll]
  | cons x xs ih =>
    have h1 := ih fun y hy => h y (by simp [hy])
    have h2 := zig_len (h x (by simp)).1 (h x (by simp)).2
    simp only [encAll, List.flatMap_cons, List.length_append, List.length_cons] at *
    omega
theorem encAll_snoc (xs : List Int) (k : Nat) (h : k < xs.length) : encAll (xs.take (k + 1)) = encAll (xs.take k) ++ varint (zig xs[k]) := by
  rw [List.take_succ_eq_append_getElem h]; simp only [encAll, List.flatMap_append, List.flatMap_cons, List.flatMap_nil, List.append_nil]
theorem encAll_drop (xs : List Int) (k : Nat) (h : k < xs.length) : encAll (xs.drop k) = varint (zig xs[k]) ++ encAll (xs.drop (k + 1)) := by
  rw [List.drop_eq_getElem_cons h]; simp only [encAll, List.flatMap_cons]
end Go.Proofs.Ytgabpbnndikheaa
