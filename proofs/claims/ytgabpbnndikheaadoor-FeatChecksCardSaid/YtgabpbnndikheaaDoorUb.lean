import Derived.WalkSpells
import Derived.WalkLawsBesides
import Derived.Lib.Hide
import Derived.Test.YtgabpbnndikheaaDoorWWords
/-! Small lemmas over the kinds' words, of no program. -/
namespace Go.Proofs.YtgabpbnndikheaaDoor
open Go.RowKit Go.Proofs.YtgabpbnndikheaaDoorW.PrintWords

/-- An element of a slice of one-cell elements. -/
theorem C1_at {α : Type} {enc : α → Value} {h1 : ∀ x, (enc x).oneCell' = true} {w : World} {A : Option Addr} {n : Nat} {xs : List α} (h : (Kd.scalar enc h1).C w A n xs) {i : Nat} (hi : i < xs.length) :
    ∃ ad, A = some ad ∧ w.cell? (ad.add i) = some (enc xs[i]) := by
  obtain ⟨ad, e, hc⟩ := h.2.2 (by have := h.1; omega)
  obtain ⟨c, hl, hK, hcell⟩ := hc i _ (List.getElem?_eq_getElem hi)
  have hK' : c = [enc xs[i]] := hK
  subst hK'
  have := hcell 0 _ rfl
  exact ⟨ad, e, by simpa [Kd.scalar] using this⟩
theorem addr_add (ad : Addr) (i j : Nat) : (ad.add i).add j = ad.add (i + j) := by
  unfold Addr.add
  by_cases hi : i = 0 <;> by_cases hj : j = 0 <;> simp [hi, hj, Nat.add_assoc]
theorem addr_pos (ad : Addr) {m : Nat} (h : 0 < m) : (⟨ad.block, ad.off + m, none⟩ : Addr) = ad.add m := by
  unfold Addr.add
  rw [if_neg (by omega)]
/-- 's[k:]' of a slice that is read. -/
theorem C_drop {α : Type} {d : Kd α} {w : World} {ad : Addr} {n : Nat} {xs : List α} (h : d.C w (some ad) n xs) (k : Nat) : d.C w (some (ad.add (k * d.sz))) (n - k) (xs.drop k) := by
  refine ⟨by rw [List.length_drop, h.1], by have := h.2.1; omega, fun hn => ⟨_, rfl, fun j p hj => ?_⟩⟩
  obtain ⟨ad', e, hc⟩ := h.2.2 (by omega)
  injection e with e
  subst e
  rw [List.getElem?_drop] at hj
  obtain ⟨c, hl, hK, hcell⟩ := hc _ p hj
  refine ⟨c, hl, hK, fun i u hu => ?_⟩
  rw [addr_add, ← Nat.add_assoc, ← Nat.add_mul]
  exact hcell i u hu
theorem C_drop1 {α : Type} {enc : α → Value} {h1 : ∀ x, (enc x).oneCell' = true} {w : World} {ad : Addr} {n : Nat} {xs : List α} (h : (Kd.scalar enc h1).C w (some ad) n xs) (k : Nat) : (Kd.scalar enc h1).C w (some (ad.add k)) (n - k) (xs.drop k) := by
  have := C_drop h k
  rwa [show k * (Kd.scalar enc h1).sz = k from Nat.mul_one k] at this
theorem C_zero {α : Type} {d : Kd α} (w : World) (A : Option Addr) : d.C w A 0 [] := ⟨rfl, by omega, fun h => absurd h (by omega)⟩
theorem below_alloc' {w W : World} (h : Below w.heap.size w W) (o : Obj) : Below w.heap.size w (W.alloc o) := h.alloc h.size o
theorem C_below' {α : Type} {d : Kd α} {B : Nat} {w w1 : World} {A : Option Addr} {n : Nat} {xs : List α} (h : d.C w A n xs) (hB : w.heap.size ≤ B) (hb : Below B w w1) : d.C w1 A n xs := Kd.C_below h (hb.mono hB)

theorem ba_get (s : ByteArray) (k : Nat) (h : k < s.size) : s.data.toList[k]'(by simpa using h) = s[k] := rfl

/-- A byte of a []byte. -/
def kby : Kd UInt8 := Kd.scalar (fun b => .int .u8 (b.toNat : Int)) (fun _ => rfl)

theorem R_lit0 {α : Type} {d : Kd α} {W : World} {e base : Nat} {ok : Nat → Prop} (hb : base ≤ W.heap.size) (hok : ok W.heap.size) : d.R e (W.alloc (.cells #[] e)) base ok (.slice (some ⟨W.heap.size, 0, none⟩) 0 0) [] := by
  refine ⟨fun k hk => ?_, [], ?_, Reps.none _ _⟩
  · obtain rfl : W.heap.size = k := by simpa [Value.ownBlock] using hk
    exact hok
  · simpa using World.ownsRow_made (base := base) (e := e) (size := d.sz) W #[] 0 hb (by simp [maxLen]) (by simp)

theorem kby_reads {w : World} {A : Option Addr} {n : Nat} {bs : List UInt8} (h : kby.C w A n bs) : ReadsInt w .u8 A n (bs.map fun b => (b.toNat : Int)) := by
  refine ⟨by rw [List.length_map]; exact h.1, h.2.1, fun hn => ?_⟩
  have hl := h.1
  obtain ⟨ad, e, _⟩ := h.2.2 hn
  refine ⟨ad, e, fun j hj => ?_⟩
  obtain ⟨ad', e', hc⟩ := C1_at h (i := j) (by omega)
  rw [e] at e'
  injection e' with e'
  subst e'
  rw [hc]
  simp [List.getD_eq_getElem?_getD, List.getElem?_eq_getElem (show j < bs.length by omega)]
theorem str_of_bytes (bs : List UInt8) : strOfNums (bs.map fun b => (b.toNat : Int)) = ⟨bs.toArray⟩ := by
  unfold strOfNums
  rw [List.map_map]
  have : ((fun n : Int => UInt8.ofNat n.toNat) ∘ fun b : UInt8 => (b.toNat : Int)) = id := by funext b; simp
  rw [this, List.map_id]
theorem conv_bytes {P : Program} {src dst e : TypeId} (hs : P.underlying src = some (.slice e)) (he : P.underlying e = some (.int .u8)) (hd : P.underlying dst = some .string)
    {w : World} {A : Option Addr} {n c : Nat} {bs : List UInt8} (h : kby.C w A n bs) : (convert src dst (.slice A n c)).run P w = .ok (.string ⟨bs.toArray⟩) w := by
  rw [← str_of_bytes]
  exact string_of_reads hs he hd (kby_reads h)
theorem kby_new (W : World) (b : UInt8) (e : TypeId) : kby.C (W.alloc (.cells #[.int .u8 (b.toNat : Int)] e)) (some ⟨W.heap.size, 0, none⟩) 1 [b] := by
  refine ⟨rfl, by omega, fun _ => ⟨_, rfl, fun j p hj => ?_⟩⟩
  obtain rfl : j = 0 := by
    have := (List.getElem?_eq_some_iff.1 hj).1
    simp at this; exact this
  simp at hj; subst hj
  refine ⟨[.int .u8 (b.toNat : Int)], rfl, rfl, fun i u hu => ?_⟩
  obtain rfl : i = 0 := by
    have := (List.getElem?_eq_some_iff.1 hu).1
    simp at this; exact this
  simp at hu; subst hu
  have := World.news_of_block (cs := #[Value.int .u8 (b.toNat : Int)]) (t := e) (fr := (0, 0)) (heap_alloc_new W _) 0 _ rfl
  simpa [kby, Kd.scalar] using this

section
variable {P : Program} {ops : Array Oper} {rest : List Oper} {o : Oper} {a : Act} {Q : Exit → Act → World → Prop}
/-- append of one element of one cell onto a row of the call's own. -/
theorem app1 {α : Type} (enc : α → Value) {h1 : ∀ x, (enc x).oneCell' = true} {w0 W : World} (base : Nat) (hgd : o.guard = none) (s x : Operand) (t e : TypeId) (z : Value) (bytes : Nat)
    (ho : o.op = .call { callee := .builtin .append, args := #[s, x], argTypes := #[t, t] })
    (ht : P.underlying t = some (.slice e)) (hinfo : (P.info? e).map (fun i => (i.zero, i.size, i.bytes)) = some (some z, 1, bytes)) (hz : z.cells.size = 1) (hb0 : 0 < bytes)
    (v : Value) (xs : List α) (p : α) (u : Value) (hs : a.eval s = v) (hx : a.eval x = .slice (some ⟨W.heap.size, 0, none⟩) 1 1) (hu : u = enc p)
    (HO : Aside0 ((Kd.scalar enc h1).R e W base (fun _ => True) v xs)) (HB : Aside0 (Below base w0 W)) (hbase : base ≤ w0.heap.size) (hl : (xs.length + 1) * bytes ≤ 140737488355328)
    (h : ∀ v1 w1, Aside0 ((Kd.scalar enc h1).R e w1 base (fun _ => True) v1 (xs ++ [p])) → Aside0 (Below base w0 w1) → wpList P ops Q rest (a.put o.dst v1) w1) :
    wpList P ops Q (o :: rest) a (W.alloc (.cells #[u] e)) := by
  subst hu
  obtain ⟨HO⟩ := HO
  obtain ⟨HB⟩ := HB
  have hbw : base ≤ W.heap.size := Nat.le_trans hbase HB.size
  have hR := Kd.R_mono (Kd.R_bound HO) (ok' := fun k => True ∧ k < W.heap.size) (fun k hk => ⟨trivial, hk.2.2.1⟩)
  exact Kd.R_append (Kd.scalar enc h1) base hgd s x t e z bytes ho ht hinfo hz (by show 0 < 1; omega) hb0 v xs p [enc p] (fun _ => True) (fun _ => False) hs hx rfl (fun _ h => h.elim) (fun _ _ => trivial) HO HB hbw hl (fun v1 w1 hr hb _ _ => h v1 w1 ⟨hr⟩ ⟨hb⟩)
end

theorem R_C {α : Type} {d : Kd α} {e : Nat} {w : World} {base : Nat} {ok : Nat → Prop} {v : Value} {xs : List α} (h : d.R e w base ok v xs) : ∃ A c, v = .slice A xs.length c ∧ xs.length ≤ c ∧ d.C w A xs.length xs := Kd.R_reads h

theorem C_dropO {α : Type} {enc : α → Value} {h1 : ∀ x, (enc x).oneCell' = true} {w : World} {A : Option Addr} {n : Nat} {xs : List α} (h : (Kd.scalar enc h1).C w A n xs) (k : Nat) : (Kd.scalar enc h1).C w (A.map (fun x => x.add k)) (n - k) (xs.drop k) := by
  cases A with
  | some ad => exact C_drop1 h k
  | none =>
    have h0 : n = 0 := by
      rcases Nat.eq_zero_or_pos n with h0 | h0
      · exact h0
      · obtain ⟨ad, e, _⟩ := h.2.2 h0
        cases e
    have hx : xs = [] := List.eq_nil_of_length_eq_zero (h.1.trans h0)
    subst h0 hx
    simp only [List.drop_nil, Nat.zero_sub]
    exact C_zero _ _

theorem C_take {α : Type} {d : Kd α} {w : World} {A : Option Addr} {n : Nat} {xs : List α} (h : d.C w A n xs) {m : Nat} (hm : m ≤ n) : d.C w A m (xs.take m) := by
  have h1 := h.1
  refine ⟨by rw [List.length_take]; omega, by have := h.2.1; omega, fun hp => ?_⟩
  obtain ⟨ad, e, hc⟩ := h.2.2 (by omega)
  refine ⟨ad, e, fun j p hj => hc j p ?_⟩
  rw [List.getElem?_take] at hj
  split at hj
  · exact hj
  · cases hj

end Go.Proofs.YtgabpbnndikheaaDoor
