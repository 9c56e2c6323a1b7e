import Derived.Test.YtgabpbnndikheaaProg
import Derived.WalkSpells
import Derived.WalkLawsBesides
import Derived.Lib.Hide
import Derived.Test.YtgabpbnndikheaaWWords
import Derived.Test.YtgabpbnndikheaaPl
namespace Go.Proofs.Ytgabpbnndikheaa
open Go.RowKit Go.Proofs.YtgabpbnndikheaaW.PrintWords

/-- An element of a slice of one-cell elements. -/
theorem C1_at {α : Type} {enc : α → Value} {h1 : ∀ x, (enc x).oneCell' = true} {w : World} {A : Option Addr} {n : Nat} {xs : List α} (h : (Kd.scalar enc h1).C w A n xs) {i : Nat} (hi : i < xs.length) :
    ∃ ad, A = some ad ∧ w.cell? (ad.add i) = some (enc xs[i]) := by
  obtain ⟨ad, e, hc⟩ := h.2.2 (by have := h.1; omega)
  obtain ⟨c, hl, hK, hcell⟩ := hc i _ (List.getElem?_eq_getElem hi)
  have hK' : c = [enc xs[i]] := hK
  subst hK'
  have := hcell 0 _ rfl
  exact ⟨ad, e, by simpa [Kd.scalar] using this⟩
theorem addr_add (ad : Addr) (i j : Nat) : (ad.add i).add j = ad.add (i + j) := by
  unfold Addr.add
  by_cases hi : i = 0 <;> by_cases hj : j = 0 <;> simp [hi, hj, Nat.add_assoc]
theorem addr_pos (ad : Addr) {m : Nat} (h : 0 < m) : (⟨ad.block, ad.off + m, none⟩ : Addr) = ad.add m := by
  unfold Addr.add
  rw [if_neg (by omega)]
/-- 's[k:]' of a slice that is read. -/
theorem C_drop {α : Type} {d : Kd α} {w : World} {ad : Addr} {n : Nat} {xs : List α} (h : d.C w (some ad) n xs) (k : Nat) : d.C w (some (ad.add (k * d.sz))) (n - k) (xs.drop k) := by
  refine ⟨by rw [List.length_drop, h.1], by have := h.2.1; omega, fun hn => ⟨_, rfl, fun j p hj => ?_⟩⟩
  obtain ⟨ad', e, hc⟩ := h.2.2 (by omega)
  injection e with e
  subst e
  rw [List.getElem?_drop] at hj
  obtain ⟨c, hl, hK, hcell⟩ := hc _ p hj
  refine ⟨c, hl, hK, fun i u hu => ?_⟩
  rw [addr_add, ← Nat.add_assoc, ← Nat.add_mul]
  exact hcell i u hu
theorem C_drop1 {α : Type} {enc : α → Value} {h1 : ∀ x, (enc x).oneCell' = true} {w : World} {ad : Addr} {n : Nat} {xs : List α} (h : (Kd.scalar enc h1).C w (some ad) n xs) (k : Nat) : (Kd.scalar enc h1).C w (some (ad.add k)) (n - k) (xs.drop k) := by
  have := C_drop h k
  rwa [show k * (Kd.scalar enc h1).sz = k from Nat.mul_one k] at this
theorem C_zero {α : Type} {d : Kd α} (w : World) (A : Option Addr) : d.C w A 0 [] := ⟨rfl, by omega, fun h => absurd h (by omega)⟩
theorem below_alloc' {w W : World} (h : Below w.heap.size w W) (o : Obj) : Below w.heap.size w (W.alloc o) := h.alloc h.size o
theorem C_below' {α : Type} {d : Kd α} {B : Nat} {w w1 : World} {A : Option Addr} {n : Nat} {xs : List α} (h : d.C w A n xs) (hB : w.heap.size ≤ B) (hb : Below B w w1) : d.C w1 A n xs := Kd.C_below h (hb.mono hB)

/-- A byte of a []byte. -/
def kby : Kd UInt8 := Kd.scalar (fun b => .int .u8 (b.toNat : Int)) (fun _ => rfl)

theorem u8_info : (Try.prog.info? 5).map (fun i => (i.zero, i.size, i.bytes)) = some (some (.int .u8 0), 1, 1) := by kernel_rfl

theorem R_lit0 {α : Type} {d : Kd α} {W : World} {e base : Nat} {ok : Nat → Prop} (hb : base ≤ W.heap.size) (hok : ok W.heap.size) : d.R e (W.alloc (.cells #[] e)) base ok (.slice (some ⟨W.heap.size, 0, none⟩) 0 0) [] := by
  refine ⟨fun k hk => ?_, [], ?_, Reps.none _ _⟩
  · obtain rfl : W.heap.size = k := by simpa [Value.ownBlock] using hk
    exact hok
  · simpa using World.ownsRow_made (base := base) (e := e) (size := d.sz) W #[] 0 hb (by simp [maxLen]) (by simp)

theorem kby_reads {w : World} {A : Option Addr} {n : Nat} {bs : List UInt8} (h : kby.C w A n bs) : ReadsInt w .u8 A n (bs.map fun b => (b.toNat : Int)) := by
  refine ⟨by rw [List.length_map]; exact h.1, h.2.1, fun hn => ?_⟩
  have hl := h.1
  obtain ⟨ad, e, _⟩ := h.2.2 hn
  refine ⟨ad, e, fun j hj => ?_⟩
  obtain ⟨ad', e', hc⟩ := C1_at h (i := j) (by omega)
  rw [e] at e'
  injection e' with e'
  subst e'
  rw [hc]
  simp [List.getD_eq_getElem?_getD, List.getElem?_eq_getElem (show j < bs.length by omega)]
theorem str_of_bytes (bs : List UInt8) : strOfNums (bs.map fun b => (b.toNat : Int)) = ⟨bs.toArray⟩ := by
  unfold strOfNums
  rw [List.map_map]
  have : ((fun n : Int => UInt8.ofNat n.toNat) ∘ fun b : UInt8 => (b.toNat : Int)) = id := by funext b; simp
  rw [this, List.map_id]
theorem conv_bytes {P : Program} {src dst e : TypeId} (hs : P.underlying src = some (.slice e)) (he : P.underlying e = some (.int .u8)) (hd : P.underlying dst = some .string)
    {w : World} {A : Option Addr} {n c : Nat} {bs : List UInt8} (h : kby.C w A n bs) : (convert src dst (.slice A n c)).run P w = .ok (.string ⟨bs.toArray⟩) w := by
  rw [← str_of_bytes]
  exact string_of_reads hs he hd (kby_reads h)
theorem kby_new (W : World) (b : UInt8) (e : TypeId) : kby.C (W.alloc (.cells #[.int .u8 (b.toNat : Int)] e)) (some ⟨W.heap.size, 0, none⟩) 1 [b] := by
  refine ⟨rfl, by omega, fun _ => ⟨_, rfl, fun j p hj => ?_⟩⟩
  obtain rfl : j = 0 := by
    have := (List.getElem?_eq_some_iff.1 hj).1
    simp at this; exact this
  simp at hj; subst hj
  refine ⟨[.int .u8 (b.toNat : Int)], rfl, rfl, fun i u hu => ?_⟩
  obtain rfl : i = 0 := by
    have := (List.getElem?_eq_some_iff.1 hu).1
    simp at this; exact this
  simp at hu; subst hu
  have := World.news_of_block (cs := #[Value.int .u8 (b.toNat : Int)]) (t := e) (fr := (0, 0)) (heap_alloc_new W _) 0 _ rfl
  simpa [kby, Kd.scalar] using this

section
variable {P : Program} {ops : Array Oper} {rest : List Oper} {o : Oper} {a : Act} {Q : Exit → Act → World → Prop}
/-- append of one element of one cell onto a row of the call's own. -/
theorem app1 {α : Type} (enc : α → Value) {h1 : ∀ x, (enc x).oneCell' = true} {w0 W : World} (base : Nat) (hgd : o.guard = none) (s x : Operand) (t e : TypeId) (z : Value) (bytes : Nat)
    (ho : o.op = .call { callee := .builtin .append, args := #[s, x], argTypes := #[t, t] })
    (ht : P.underlying t = some (.slice e)) (hinfo : (P.info? e).map (fun i => (i.zero, i.size, i.bytes)) = some (some z, 1, bytes)) (hz : z.cells.size = 1) (hb0 : 0 < bytes)
    (v : Value) (xs : List α) (p : α) (u : Value) (hs : a.eval s = v) (hx : a.eval x = .slice (some ⟨W.heap.size, 0, none⟩) 1 1) (hu : u = enc p)
    (HO : Aside0 ((Kd.scalar enc h1).R e W base (fun _ => True) v xs)) (HB : Aside0 (Below base w0 W)) (hbase : base ≤ w0.heap.size) (hl : (xs.length + 1) * bytes ≤ 140737488355328)
    (h : ∀ v1 w1, Aside0 ((Kd.scalar enc h1).R e w1 base (fun _ => True) v1 (xs ++ [p])) → Aside0 (Below base w0 w1) → wpList P ops Q rest (a.put o.dst v1) w1) :
    wpList P ops Q (o :: rest) a (W.alloc (.cells #[u] e)) := by
  subst hu
  obtain ⟨HO⟩ := HO
  obtain ⟨HB⟩ := HB
  have hbw : base ≤ W.heap.size := Nat.le_trans hbase HB.size
  have hR := Kd.R_mono (Kd.R_bound HO) (ok' := fun k => True ∧ k < W.heap.size) (fun k hk => ⟨trivial, hk.2.2.1⟩)
  exact Kd.R_append (Kd.scalar enc h1) base hgd s x t e z bytes ho ht hinfo hz (by show 0 < 1; omega) hb0 v xs p [enc p] (fun _ => True) (fun _ => False) hs hx rfl (fun _ h => h.elim) (fun _ _ => trivial) HO HB hbw hl (fun v1 w1 hr hb _ _ => h v1 w1 ⟨hr⟩ ⟨hb⟩)
end

set_option maxHeartbeats 400000 in
theorem clone_bytes (A : Option Addr) (n c : Nat) (bs : List UInt8) (w : World) (hn0 : n = bs.length) (hr : kby.C w A bs.length bs) (hl : bs.length ≤ 140737488355328) :
    Calls Try.prog 26 #[.slice A n c] w fun e w' => ∃ v, e = .returned v ∧ kby.R 5 w' w.heap.size (fun _ => True) v bs ∧ Below w.heap.size w w' := by
  subst hn0
  have hn := fun (w : World) (n c : Nat) => Lib.run_eql_slice_nil (P := Try.prog) w 22 5 A n c 0 0 Try.underlying22
  cases A with
  | none =>
    have hb : bs = [] := by
      rcases bs with _ | ⟨b, bs⟩
      · rfl
      · obtain ⟨ad, h, _⟩ := hr.2.2 (by simp)
        cases h
    subst hb
    go_enter Try.func26, Try.ntmps26
    go_wp2
    go_ret
    exact ⟨_, rfl, Kd.R_nil _ _ _ _ _, Below.refl _ _⟩
  | some a =>
    go_enter Try.func26, Try.ntmps26
    go_wp2_with (at_builtin; refine Kd.R_append_row (w0 := w) (fun b : UInt8 => .int .u8 (b.toNat : Int)) 0 w.heap.size rfl (.tmp 5) (.tmp 6) 22 5 (.int .u8 0) 1 rfl Try.underlying22 u8_info rfl (by omega) _ [] bs _ _ _ (fun _ => True) rfl rfl (fun _ _ => trivial) (R_lit0 (Nat.le_refl _) trivial) (Kd.C_alloc hr _) (below_alloc (Below.refl _ _) _) (by simp) (by simpa using hl) ?_; intro v1 w1 hR hB _ _)
    go_ret
    exact ⟨_, rfl, hR, hB⟩

set_option maxHeartbeats 1000000 in
set_option maxRecDepth 100000 in
theorem put_any (A : Option Addr) (c : Nat) (bs : List UInt8) (n : Int) (w : World) (hr : kby.C w A bs.length bs) (hl : bs.length ≤ 140737488355232) (hn : -9223372036854775808 ≤ n) (hn1 : n ≤ 9223372036854775807) :
    Calls Try.prog 9 #[.slice A bs.length c, .int .i64 n] w fun e w' => ∃ v, e = .returned v ∧ kby.R 5 w' w.heap.size (fun _ => True) v (bs ++ varint (zig n)) ∧ Below w.heap.size w w' := by
  have hz := zig_bits hn hn1
  have hlen := zig_len hn hn1
  have hlt := Aside0.mk (zig_lt hn hn1)
  have HZ := Lib.hid hz
  clear hz
  go_enter Try.func9, Try.ntmps9
  go_wp2_with (go_at_call 26; refine (clone_bytes A _ c bs _ rfl hr (by omega)).mono ?_; rintro e w1 ⟨v, rfl, hR, hB⟩)
  rw [HZ.out]
  clear HZ hn hn1
  generalize (n / 9223372036854775808 : Int) = q1
  go_loopw [5, 6] (fun v u wr => ∃ (pre : List UInt8) (m : Nat), u = .int .u64 m ∧ Aside0 (varint (zig n) = pre ++ varint m) ∧ Aside0 (m < 18446744073709551616) ∧ Aside0 (kby.R 5 wr w.heap.size (fun _ => True) v (bs ++ pre)) ∧ Aside0 (Below w.heap.size w wr)) (fun _ u _ => (intOf u).toNat)
  case atStart => exact ⟨[], zig n, rfl, ⟨rfl⟩, hlt, ⟨by simpa using hR⟩, ⟨hB⟩⟩
  case round =>
    clear hR hB hlt
    obtain ⟨pre, m, rfl, HV, hm, HR, HB⟩ := hrel
    have hlp := Aside0.mk (show pre.length + (varint m).length ≤ 10 by rw [← List.length_append, ← HV.out]; exact hlen)
    clear hlen
    have hlp2 : pre.length ≤ 9 := by
      have := hlp.out
      have h1 : 1 ≤ (varint m).length := by
        by_cases h : m < 128
        · rw [varint_lt h]; simp
        · rw [varint_ge (by omega)]; simp
      omega
    by_cases h : 128 ≤ m
    · have h8 := Aside0.mk (u8_or128' m)
      have hb : decide ((128 : Int) ≤ m) = true := by simp; omega
      go_wp2_with (at_builtin; go_must (refine app1 (w0 := w) (fun b : UInt8 => Value.int .u8 (b.toNat : Int)) w.heap.size rfl (.tmp 20) (.tmp 24) 22 5 (.int .u8 0) 1 rfl Try.underlying22 u8_info rfl (by omega) _ (bs ++ pre) _ _ rfl rfl (congrArg (Value.int .u8) h8.out) HR HB (Nat.le_refl _) (by simp; omega) ?_); intro v1 w2 HR2 HB2)
      go_roundw
      case rel => exact ⟨pre ++ [UInt8.ofNat (m % 128 + 128)], m / 128, by go_num, ⟨by rw [HV.out, varint_ge h]; simp⟩, ⟨by have := hm.out; omega⟩, by rw [← List.append_assoc]; exact HR2, HB2⟩
      case measure => simp [intOf]; omega
    · have h8 := Aside0.mk (show (m : Int) = ((UInt8.ofNat m).toNat : Int) by rw [UInt8.toNat_ofNat']; omega)
      have hb : decide ((128 : Int) ≤ m) = false := by simp; omega
      go_wp2_with (at_builtin; go_must (refine app1 (w0 := w) (fun b : UInt8 => Value.int .u8 (b.toNat : Int)) w.heap.size rfl (.tmp 26) (.tmp 29) 22 5 (.int .u8 0) 1 rfl Try.underlying22 u8_info rfl (by omega) _ (bs ++ pre) _ _ rfl rfl (congrArg (Value.int .u8) h8.out) HR HB (Nat.le_refl _) (by simp; omega) ?_); intro v1 w2 HR2 HB2)
      go_ret
      exact ⟨_, rfl, by rw [HV.out, varint_lt (by omega), ← List.append_assoc]; exact HR2.out, HB2.out⟩

set_option maxHeartbeats 1000000 in
set_option maxRecDepth 100000 in
theorem sum_any (A : Option Addr) (c : Nat) (bs : List UInt8) (w : World) (hr : kby.C w A bs.length bs) :
    Calls Try.prog 11 #[.slice A bs.length c] w fun e w' => e = .returned (.int .u32 (fnv bs)) ∧ w = w' := by
  have hm := hr.2.1
  have HR := Aside0.mk hr
  clear hr
  go_enter Try.func11, Try.ntmps11
  go_wp2
  go_loop [3, 8] (fun h i => ∃ k : Nat, k ≤ bs.length ∧ i = .int .i64 k ∧ h = .int .u32 ((bs.take k).foldl fnvStep 2166136261 : Nat)) (fun _ i => bs.length - (intOf i).toNat)
  case atStart => exact ⟨0, Nat.zero_le _, rfl, rfl⟩
  case round =>
    obtain ⟨k, hk, rfl, rfl⟩ := hrel
    by_cases hlt : k < bs.length
    · obtain ⟨ad, rfl, hc⟩ := C1_at HR.out hlt
      have hs := foldl_take_succ fnvStep 2166136261 bs k hlt
      have hb := fnv_lt' (bs.take k) 2166136261 (by omega)
      generalize hx : (bs.take k).foldl fnvStep 2166136261 = x at *
      have HS := Aside0.mk (hs.trans rfl)
      have h3 := Aside0.mk (fnv32 x bs[k] hb)
      have hd : decide ((k : Int) < bs.length) = true := by simp; omega
      have hu := bs[k].toNat_lt
      clear hs hx hb
      go_wp2
      go_round
      case rel => refine ⟨k + 1, by omega, by go_num, ?_⟩; rw [HS.out]; exact congrArg (Value.int .u32) h3.out
      case measure => simp [intOf]; omega
    · have hd : decide ((k : Int) < bs.length) = false := by simp; omega
      go_wp2
      go_ret
      exact ⟨by rw [List.take_of_length_le (by omega)]; rfl, rfl⟩

theorem ba_get (s : ByteArray) (k : Nat) (h : k < s.size) : s.data.toList[k]'(by simpa using h) = s[k] := rfl

set_option maxHeartbeats 1000000 in
set_option maxRecDepth 100000 in
theorem refsum_any (s : ByteArray) (w : World) (hm : s.size ≤ 9223372036854775807) :
    Calls Try.prog 12 #[.string s] w fun e w' => e = .returned (.int .u32 (fnv s.data.toList)) ∧ w = w' := by
  go_enter Try.func12, Try.ntmps12
  go_wp2
  go_loop [3, 7] (fun h i => ∃ k : Nat, k ≤ s.size ∧ i = .int .i64 k ∧ h = .int .u64 ((s.data.toList.take k).foldl fnvStep 2166136261 : Nat)) (fun _ i => s.size - (intOf i).toNat)
  case atStart => exact ⟨0, Nat.zero_le _, rfl, rfl⟩
  case round =>
    obtain ⟨k, hk, rfl, rfl⟩ := hrel
    have hb := fnv_lt' (s.data.toList.take k) 2166136261 (by omega)
    by_cases hlt : k < s.size
    · have hs := foldl_take_succ fnvStep 2166136261 s.data.toList k (by simpa using hlt)
      rw [ba_get s k hlt] at hs
      generalize hx : (s.data.toList.take k).foldl fnvStep 2166136261 = x at *
      have HS := Aside0.mk (hs.trans rfl)
      have h3 := Aside0.mk (fnv64 x s[k] hb)
      have hd : decide ((k : Int) < s.size) = true := by simp; omega
      have hu := s[k].toNat_lt
      clear hs hx hb
      go_wp2
      go_round
      case rel => refine ⟨k + 1, by omega, by go_num, ?_⟩; rw [HS.out]; exact congrArg (Value.int .u64) h3.out
      case measure => simp [intOf]; omega
    · have hd : decide ((k : Int) < s.size) = false := by simp; omega
      have hk : k = s.size := by omega
      subst hk
      rw [List.take_of_length_le (by simp)] at hb ⊢
      generalize hx : s.data.toList.foldl fnvStep 2166136261 = x at *
      have HX := Aside0.mk hx
      clear hx
      go_wp2
      go_ret
      exact ⟨by unfold fnv; rw [HX.out]; rfl, rfl⟩
end Go.Proofs.Ytgabpbnndikheaa
