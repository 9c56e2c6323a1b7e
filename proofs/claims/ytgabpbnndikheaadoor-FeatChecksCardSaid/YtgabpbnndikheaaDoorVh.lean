import Derived.Test.YtgabpbnndikheaaDoorVg
set_option linter.constructorNameAsVariable false
/-! The comparison of values is a total order. -/
namespace Go.Proofs.YtgabpbnndikheaaDoor

structure IsOrd {α : Type} (f : α → α → Int) : Prop where
  anti : ∀ a b, f a b = - f b a
  trans : ∀ a b c, f a b ≤ 0 → f b c ≤ 0 → f a c ≤ 0
def lex {α : Type} (f g : α → α → Int) (a b : α) : Int := if f a b = 0 then g a b else f a b
theorem IsOrd.strict {α : Type} {f : α → α → Int} (h : IsOrd f) {a b c : α} (h1 : f a b < 0) (h2 : f b c ≤ 0) : f a c < 0 := by
  have h3 := h.trans a b c (by omega) h2
  rcases Int.lt_or_eq_of_le h3 with h4 | h4
  · exact h4
  · have := h.trans b c a h2 (by rw [h.anti]; omega)
    rw [h.anti] at this
    omega
theorem IsOrd.strict' {α : Type} {f : α → α → Int} (h : IsOrd f) {a b c : α} (h1 : f a b ≤ 0) (h2 : f b c < 0) : f a c < 0 := by
  have h3 := h.trans a b c h1 (by omega)
  rcases Int.lt_or_eq_of_le h3 with h4 | h4
  · exact h4
  · have := h.trans c a b (by rw [h.anti]; omega) h1
    rw [h.anti] at this
    omega
theorem IsOrd.lex {α : Type} {f g : α → α → Int} (hf : IsOrd f) (hg : IsOrd g) : IsOrd (lex f g) := by
  refine ⟨fun a b => ?_, fun a b c h1 h2 => ?_⟩
  · unfold Proofs.YtgabpbnndikheaaDoor.lex
    have e1 := hf.anti a b
    have e2 := hg.anti a b
    by_cases h : f a b = 0
    · rw [if_pos h, if_pos (by omega)]; exact e2
    · rw [if_neg h, if_neg (by omega)]; exact e1
  · unfold Proofs.YtgabpbnndikheaaDoor.lex at h1 h2 ⊢
    by_cases e1 : f a b = 0
    · rw [if_pos e1] at h1
      by_cases e2 : f b c = 0
      · rw [if_pos e2] at h2
        have h3 := hf.trans a b c (by omega) (by omega)
        have h4 := hf.trans c b a (by rw [hf.anti]; omega) (by rw [hf.anti]; omega)
        rw [hf.anti] at h4
        rw [if_pos (by omega)]
        exact hg.trans a b c h1 h2
      · rw [if_neg e2] at h2
        have := hf.strict' (a := a) (b := b) (c := c) (by omega) (by omega)
        rw [if_neg (by omega)]; omega
    · rw [if_neg e1] at h1
      have : f b c ≤ 0 := by
        by_cases e2 : f b c = 0
        · omega
        · rw [if_neg e2] at h2; exact h2
      have := hf.strict (a := a) (b := b) (c := c) (by omega) this
      rw [if_neg (by omega)]; omega
theorem ord_ord : IsOrd ord := ⟨fun a b => by unfold ord; split <;> split <;> (try split) <;> omega, fun a b c => by unfold ord; intro h1 h2; split at h1 <;> split at h2 <;> (try split at h1) <;> (try split at h2) <;> split <;> (try split) <;> omega⟩
theorem IsOrd.on {α β : Type} {f : β → β → Int} (h : IsOrd f) (k : α → β) : IsOrd fun a b => f (k a) (k b) := ⟨fun a b => h.anti _ _, fun a b c => h.trans _ _ _⟩
theorem cmpBytes_anti : ∀ a b : List UInt8, Lib.compareBytes a b = - Lib.compareBytes b a
  | [], [] => rfl
  | [], _ :: _ => rfl
  | _ :: _, [] => rfl
  | a :: as0, b :: bs => by
    simp only [Lib.compareBytes]
    by_cases h1 : a < b
    · have h2 : ¬ b < a := UInt8.lt_asymm h1
      rw [if_pos h1, if_neg h2, if_pos h1]
    · by_cases h2 : b < a
      · rw [if_neg h1, if_pos h2, if_pos h2]; rfl
      · rw [if_neg h1, if_neg h2, if_neg h2, if_neg h1]
        exact cmpBytes_anti as0 bs
theorem cmpBytes_trans : ∀ a b c : List UInt8, Lib.compareBytes a b ≤ 0 → Lib.compareBytes b c ≤ 0 → Lib.compareBytes a c ≤ 0
  | [], _, [] => fun _ _ => by simp [Lib.compareBytes]
  | [], _, _ :: _ => fun _ _ => by simp [Lib.compareBytes]
  | _ :: _, [], _ => fun h _ => by simp [Lib.compareBytes] at h
  | _ :: _, _ :: _, [] => fun _ h => by simp [Lib.compareBytes] at h
  | a :: as0, b :: bs, c :: cs => by
    simp only [Lib.compareBytes, UInt8.lt_iff_toNat_lt]
    intro h1 h2
    by_cases e1 : a.toNat < b.toNat
    · by_cases e2 : b.toNat < c.toNat
      · rw [if_pos (by omega)]; omega
      · rw [if_neg e2] at h2
        by_cases e3 : c.toNat < b.toNat
        · rw [if_pos e3] at h2; omega
        · rw [if_pos (by omega)]; omega
    · rw [if_neg e1] at h1
      by_cases e2 : b.toNat < a.toNat
      · rw [if_pos e2] at h1; omega
      · rw [if_neg e2] at h1
        by_cases e3 : b.toNat < c.toNat
        · rw [if_pos (by omega)]; omega
        · rw [if_neg e3] at h2
          by_cases e4 : c.toNat < b.toNat
          · rw [if_pos e4] at h2; omega
          · rw [if_neg e4] at h2
            rw [if_neg (by omega), if_neg (by omega)]
            exact cmpBytes_trans as0 bs cs h1 h2
theorem cmpBytes_zero : ∀ a b : List UInt8, Lib.compareBytes a b = 0 ↔ a = b
  | [], [] => by simp [Lib.compareBytes]
  | [], _ :: _ => by simp [Lib.compareBytes]
  | _ :: _, [] => by simp [Lib.compareBytes]
  | a :: as0, b :: bs => by
    simp only [Lib.compareBytes, UInt8.lt_iff_toNat_lt, List.cons.injEq]
    by_cases h1 : a.toNat < b.toNat
    · rw [if_pos h1]; exact ⟨fun h => by omega, fun ⟨h, _⟩ => by rw [h] at h1; omega⟩
    · by_cases h2 : b.toNat < a.toNat
      · rw [if_neg h1, if_pos h2]; exact ⟨fun h => by omega, fun ⟨h, _⟩ => by rw [h] at h2; omega⟩
      · rw [if_neg h1, if_neg h2, cmpBytes_zero as0 bs]
        exact ⟨fun h => ⟨UInt8.toNat_inj.1 (by omega), h⟩, fun h => h.2⟩
theorem cmpBytes_range : ∀ a b : List UInt8, -1 ≤ Lib.compareBytes a b ∧ Lib.compareBytes a b ≤ 1
  | [], [] => by simp [Lib.compareBytes]
  | [], _ :: _ => by simp [Lib.compareBytes]
  | _ :: _, [] => by simp [Lib.compareBytes]
  | a :: as0, b :: bs => by
    simp only [Lib.compareBytes]
    split
    · omega
    · split
      · omega
      · exact cmpBytes_range as0 bs
theorem ord_range (a b : Int) : -1 ≤ ord a b ∧ ord a b ≤ 1 := by unfold ord; split <;> (try split) <;> omega
theorem ord_zero (a b : Int) : ord a b = 0 ↔ a = b := by unfold ord; split <;> (try split) <;> constructor <;> intro h <;> omega
theorem cmpVal_lex (x y : Val) : cmpVal x y = lex (fun a b : Val => ord a.kind b.kind) (lex (fun a b => ord a.n b.n) (lex (fun a b => Lib.compareBytes a.s.data.toList b.s.data.toList) (fun a b => bi a.b - bi b.b))) x y := by
  unfold cmpVal lex
  simp only [firstNZ]
  split <;> (try split) <;> (try split) <;> (try split) <;> simp_all
theorem cmpVal_ord : IsOrd cmpVal := by
  have h := (ord_ord.on Val.kind).lex ((ord_ord.on Val.n).lex (IsOrd.lex (IsOrd.on ⟨cmpBytes_anti, cmpBytes_trans⟩ (fun v : Val => v.s.data.toList)) (g := fun a b => bi a.b - bi b.b) ⟨fun a b => by omega, fun a b c h1 h2 => by omega⟩))
  have e : cmpVal = _ := funext fun x => funext fun y => cmpVal_lex x y
  rw [e]
  exact h
theorem cmpVal_range (x y : Val) : -1 ≤ cmpVal x y ∧ cmpVal x y ≤ 1 := by
  unfold cmpVal
  simp only [firstNZ]
  have h1 := ord_range x.kind y.kind
  have h2 := ord_range x.n y.n
  have h3 := cmpBytes_range x.s.data.toList y.s.data.toList
  have h4 : ∀ b, 0 ≤ bi b ∧ bi b ≤ 1 := by decide
  have h5 := h4 x.b
  have h6 := h4 y.b
  split <;> (try split) <;> (try split) <;> (try split) <;> omega
theorem cmpVal_zero (x y : Val) : (cmpVal x y == 0) = sameB x y := by
  have hb : ∀ a b, bi a - bi b = 0 ↔ a = b := by decide
  have h3 := cmpBytes_zero x.s.data.toList y.s.data.toList
  have h1 := ord_zero x.kind y.kind
  have h2 := ord_zero x.n y.n
  have h4 := hb x.b y.b
  unfold cmpVal sameB
  simp only [firstNZ, ByteArray.toList_eq]
  rw [Bool.eq_iff_iff]
  simp only [beq_iff_eq, Bool.and_eq_true, ← h1, ← h2, ← h3, ← h4]
  split <;> (try split) <;> (try split) <;> (try split) <;> simp_all
end Go.Proofs.YtgabpbnndikheaaDoor
