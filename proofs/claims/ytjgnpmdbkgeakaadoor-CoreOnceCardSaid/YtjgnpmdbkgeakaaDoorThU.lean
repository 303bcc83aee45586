/- THEORY, part U: words for plain laws. No condition. -/
import Derived.Test.YtjgnpmdbkgeakaaDoorThT
import Derived.Test.YtjgnpmdbkgeakaaDoorThW
set_option linter.unusedVariables false
set_option linter.unusedSimpArgs false
namespace Go.Proofs.YtjgnpmdbkgeakaaDoor.Th
open Go

section
variable {α β γ : Type}
@[simp] theorem sel_true (a b : α) : sel true a b = a := rfl
@[simp] theorem sel_false (a b : α) : sel false a b = b := rfl
theorem sel_dec {p : Prop} [Decidable p] (a b : α) : sel (decide p) a b = if p then a else b := by
  by_cases h : p <;> simp [sel, h]
theorem sel_not (c : Bool) (a b : α) : sel (!c) a b = sel c b a := by cases c <;> rfl
theorem sel_pos {p : Prop} [Decidable p] (h : p) (a b : α) : sel (decide p) a b = a := by simp [sel, h]
theorem sel_neg {p : Prop} [Decidable p] (h : ¬p) (a b : α) : sel (decide p) a b = b := by simp [sel, h]
theorem sel_eq (c : Bool) (a b : α) : sel c a b = if c = true then a else b := by cases c <;> rfl
@[simp] theorem ocall_some (x : α) (f : α → Option β) : ocall (some x) f = f x := rfl
@[simp] theorem esel_inl (x : α) (f : α → γ) (g : β → γ) : esel (.inl x) f g = f x := rfl
@[simp] theorem esel_inr (x : β) (f : α → γ) (g : β → γ) : esel (.inr x) f g = g x := rfl
end

theorem wrap_of {k : IntKind} {n : Int} (h1 : k.min ≤ n) (h2 : n ≤ k.max) : k.wrap n = n := by
  cases k <;> simp [IntKind.wrap, IntKind.bits, IntKind.signed, IntKind.min, IntKind.max] at h1 h2 ⊢ <;> (try split) <;> omega

theorem wrap64 {n : Int} (h1 : -9223372036854775808 ≤ n) (h2 : n ≤ 9223372036854775807) : IntKind.i64.wrap n = n :=
  wrap_of (by simpa [IntKind.min, IntKind.bits, IntKind.signed] using h1) (by simpa [IntKind.max, IntKind.bits, IntKind.signed] using h2)
theorem wrapu64 {n : Int} (h1 : 0 ≤ n) (h2 : n ≤ 18446744073709551615) : IntKind.u64.wrap n = n :=
  wrap_of (by simpa [IntKind.min, IntKind.bits, IntKind.signed] using h1) (by simpa [IntKind.max, IntKind.bits, IntKind.signed] using h2)
theorem wrapu8 {n : Int} (h1 : 0 ≤ n) (h2 : n ≤ 255) : IntKind.u8.wrap n = n :=
  wrap_of (by simpa [IntKind.min, IntKind.bits, IntKind.signed] using h1) (by simpa [IntKind.max, IntKind.bits, IntKind.signed] using h2)

theorem maxLen_eq : maxLen = 9223372036854775807 := rfl
theorem good_i64 {n : Int} (h : Ty.Good (.int .i64) n) : -9223372036854775808 ≤ n ∧ n ≤ 9223372036854775807 := by
  simpa [Ty.Good, IntKind.min, IntKind.max, IntKind.bits, IntKind.signed] using h
theorem good_u64 {n : Int} (h : Ty.Good (.int .u64) n) : 0 ≤ n ∧ n ≤ 18446744073709551615 := by
  simpa [Ty.Good, IntKind.min, IntKind.max, IntKind.bits, IntKind.signed] using h
theorem good_u8 {n : Int} (h : Ty.Good (.int .u8) n) : 0 ≤ n ∧ n ≤ 255 := by
  simpa [Ty.Good, IntKind.min, IntKind.max, IntKind.bits, IntKind.signed] using h

theorem good_u16 {n : Int} (h : Ty.Good (.int .u16) n) : 0 ≤ n ∧ n ≤ 65535 := by
  simpa [Ty.Good, IntKind.min, IntKind.max, IntKind.bits, IntKind.signed] using h
theorem good_u32 {n : Int} (h : Ty.Good (.int .u32) n) : 0 ≤ n ∧ n ≤ 4294967295 := by
  simpa [Ty.Good, IntKind.min, IntKind.max, IntKind.bits, IntKind.signed] using h
theorem good_i16 {n : Int} (h : Ty.Good (.int .i16) n) : -32768 ≤ n ∧ n ≤ 32767 := by
  simpa [Ty.Good, IntKind.min, IntKind.max, IntKind.bits, IntKind.signed] using h
theorem wrapu32 {n : Int} (h1 : 0 ≤ n) (h2 : n ≤ 4294967295) : IntKind.u32.wrap n = n :=
  wrap_of (by simpa [IntKind.min, IntKind.bits, IntKind.signed] using h1) (by simpa [IntKind.max, IntKind.bits, IntKind.signed] using h2)

theorem ofNat_len {α : Type} (l : List α) : Int.ofNat l.length = (l.length : Int) := rfl
theorem toNat_ofNat (n : Nat) : Int.toNat (Int.ofNat n) = n := rfl

theorem getD_of {α : Type} {l : List α} {i : Nat} (h : i < l.length) (d : α) : l.getD i d = l[i] := by simp [List.getD, h]

/-- bytes as a text and back -/
theorem ofBytes_inj {a b : List Int} (ha : ∀ x ∈ a, 0 ≤ x ∧ x ≤ 255) (hb : ∀ x ∈ b, 0 ≤ x ∧ x ≤ 255) : ofBytes a = ofBytes b ↔ a = b := by
  constructor
  · intro h
    have key : ∀ (l : List Int), (∀ x ∈ l, 0 ≤ x ∧ x ≤ 255) → (ofBytes l).map (fun c => (c.toNat : Int)) = l := by
      intro l
      induction l with
      | nil => intro _; rfl
      | cons x l ih =>
        intro hl
        obtain ⟨h1, h2⟩ := hl x (.head _)
        have : (UInt8.ofNat x.toNat).toNat = x.toNat := by
          rw [UInt8.toNat_ofNat']
          omega
        have e := ih fun y hy => hl y (.tail _ hy)
        simp only [ofBytes, List.map_cons, List.map_map] at e ⊢
        rw [this, e]
        congr 1
        omega
    rw [← key a ha, ← key b hb, h]
  · intro h; rw [h]

end Go.Proofs.YtjgnpmdbkgeakaaDoor.Th
