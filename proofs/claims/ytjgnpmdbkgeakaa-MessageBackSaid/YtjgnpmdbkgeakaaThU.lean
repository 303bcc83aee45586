/- THEORY, parts T U: what steps of the model do to plain values. No condition. -/
import Derived.Test.YtjgnpmdbkgeakaaThO
import Derived.WalkKit
import Derived.ProofKit
import Derived.OpenShut
import Derived.ShutString
import Derived.ChangeOld
import Derived.SizedLaws
import Derived.ChangeArms
set_option linter.unusedVariables false
set_option linter.unusedSimpArgs false
namespace Go.Proofs.Ytjgnpmdbkgeakaa.Th
open Go Go.RowKit Go.WideShapes

def ru (n a : Nat) : Nat := (n + a - 1) / a * a
def Ty.align : Ty → Nat
  | .int k => k.bits / 8
  | .bool => 1
  | .st f => f.align
  | .nil => 1
  | .cons a b => max a.align b.align
  | _ => 8
def Ty.place : Ty → Nat → Nat
  | .int k, o => ru o (k.bits / 8) + k.bits / 8
  | .bool, o => o + 1
  | .str, o => ru o 8 + 16
  | .flt, o => ru o 8 + 8
  | .cpx, o => ru o 8 + 16
  | .slice _, o => ru o 8 + 24
  | .st f, o => ru (f.place (ru o f.align)) f.align
  | .nil, o => o
  | .cons a b, o => b.place (a.place o)
  | .ifc _ _, o => ru o 8 + 16
  | .clo _ _, o => ru o 8 + 8
  | .ref _, o => ru o 8 + 8
def Ty.bytes (T : Ty) : Nat := T.place 0

def Ty.Good : (T : Ty) → T.den → Prop
  | .int k, n => k.min ≤ (show Int from n) ∧ (show Int from n) ≤ k.max
  | .bool, _ => True
  | .str, s => List.length (α := UInt8) s ≤ 140737488351232
  | .flt, _ => True
  | .cpx, _ => True
  | .slice e, l => List.length (α := e.den) l ≤ maxLen ∧ List.length (α := e.den) l * e.bytes ≤ 140737488351232 ∧ ∀ x : e.den, x ∈ (show List e.den from l) → e.Good x
  | .st f, x => f.Good x
  | .nil, _ => True
  | .cons a b, x => a.Good x.1 ∧ b.Good x.2
  | .ifc _ _, _ => True
  | .clo _ _, _ => True
  | .ref _, _ => True

def fits (P : Program) : Ty → Bool → TypeId → List Field → Nat → Bool
  | .int k, row, t, _, _ => !row && match P.underlying t with
    | some (.int k') => decide (k' = k)
    | _ => false
  | .bool, row, t, _, _ => !row && match P.underlying t with
    | some .bool => true
    | _ => false
  | .str, row, t, _, _ => !row && match P.underlying t with
    | some .string => true
    | _ => false
  | .slice e, row, t, _, _ => !row && match P.underlying t with
    | some (.slice te) => fits P e false te [] 0 && (Nat.beq (P.cellsOf te) e.size && Nat.beq (P.bytesOf te) e.bytes)
    | _ => false
  | .st f, row, t, _, _ => !row && match P.underlying t with
    | some (.struct fs) => fits P f true 0 fs.toList 0 && Nat.beq (P.cellsOf t) f.size
    | _ => false
  | .nil, row, _, fs, _ => row && fs.isEmpty
  | .cons a b, row, _, fs, off => row && match fs with
    | fd :: rest => Nat.beq fd.offset off && (fits P a false fd.type [] 0 && (Nat.beq (P.cellsOf fd.type) a.size && fits P b true 0 rest (off + a.size)))
    | [] => false
  | _, _, _, _, _ => false

section
variable {H : Type} {enc : TypeId × Value → H} {P : Program} {w : World} {base : Nat} {spare : Nat → Bool} {held : Bool}

abbrev Old (w : World) : Nat → Nat → Prop := fun k _ => k < w.heap.size

theorem cell_old {a : Addr} {v : Value} (h : w.cell? a = some v) : Cell w (Old w) a v := ⟨h, World.block_lt_of_cell? w a h⟩

theorem pick_list {α : Type} (R : Nat → α → Prop) : ∀ n, (∀ i, i < n → ∃ x, R i x) → ∃ l : List α, l.length = n ∧ ∀ i x, l[i]? = some x → R i x
  | 0, _ => ⟨[], rfl, fun i x h => by simp at h⟩
  | n + 1, h => by
    obtain ⟨l, h1, h2⟩ := pick_list R n fun i hi => h i (by omega)
    obtain ⟨y, hy⟩ := h n (by omega)
    refine ⟨l ++ [y], by simp [h1], fun i x hx => ?_⟩
    rcases Nat.lt_or_ge i n with hlt | hge
    · rw [List.getElem?_append_left (by omega)] at hx; exact h2 i x hx
    · rw [List.getElem?_append_right (by omega)] at hx
      have : i - l.length = 0 := by
        have := (List.getElem?_eq_some_iff.1 hx).1
        simp at this; omega
      rw [this] at hx
      simp at hx
      subst hx
      have : i = n := by omega
      subst this; exact hy

theorem weights_slice {e t : TypeId} (ht : P.underlying t = some (.slice e)) (elems rest : List (DataW H)) :
    DataW.weights P t (.slice elems rest) = (elems.length + rest.length) * P.bytesOf e :: (DataW.weightsAll P e elems ++ DataW.weightsAll P e rest) := by
  simp only [DataW.weights, ht]

theorem weights_agg {t : TypeId} {fs : Array Field} (ht : P.underlying t = some (.struct fs)) (parts : List (DataW H)) :
    DataW.weights P t (.agg parts) = DataW.weightsEach P (fs.toList.map (·.type)) parts := by
  simp only [DataW.weights, ht]

theorem weightsAll_mem {e : TypeId} : ∀ {l : List (DataW H)} {d : DataW H}, d ∈ l → ∀ n ∈ d.weights P e, n ∈ DataW.weightsAll P e l
  | x :: l, d, h, n, hn => by
    simp only [DataW.weightsAll, List.mem_append]
    rcases List.mem_cons.1 h with rfl | h
    · exact .inl hn
    · exact .inr (weightsAll_mem h n hn)

theorem open_TR : ∀ (T : Ty),
    (∀ (t : TypeId) (cs : List Value) (fuel : Nat) (x : DataW H × List MemPlace), fits P T false t [] 0 = true → DataW.trod enc P w base spare held fuel t cs = some x → (∀ n ∈ x.1.weights P t, n ≤ reachBytes) →
      ∃ v : T.den, TR w (Old w) T v cs ∧ T.Good v) ∧
    (∀ (fs : List Field) (off : Nat) (cs : List Value) (ds : List (DataW H × List MemPlace)), fits P T true 0 fs off = true → ds.length = fs.length →
      (∀ (i : Nat) (f : Field), fs[i]? = some f → ∃ fuel, DataW.trod enc P w base spare held fuel f.type ((cs.drop f.offset).take (P.cellsOf f.type)) = ds[i]?) →
      (∀ n ∈ DataW.weightsEach P (fs.map (·.type)) (ds.map (·.1)), n ≤ reachBytes) → cs.length = off + T.size → ∃ v : T.den, TR w (Old w) T v (cs.drop off) ∧ T.Good v) := by
  intro T
  induction T with
  | int k =>
    refine ⟨fun t cs fuel x hf h _ => ?_, fun fs off cs ds hf => by simp [fits] at hf⟩
    simp only [fits, Bool.not_false, Bool.true_and] at hf
    split at hf
    · rename_i k' ht
      have : k' = k := by simpa using hf
      subst this
      obtain ⟨n, rfl, _, hw⟩ := DataW.trod_int ht h
      exact ⟨n, rfl, (by simpa [Lit.wf] using hw : k'.min ≤ n ∧ n ≤ k'.max)⟩
    · cases hf
  | bool =>
    refine ⟨fun t cs fuel x hf h _ => ?_, fun fs off cs ds hf => by simp [fits] at hf⟩
    simp only [fits, Bool.not_false, Bool.true_and] at hf
    split at hf
    · rename_i ht
      obtain ⟨b, rfl, _⟩ := DataW.trod_bool ht h
      exact ⟨b, rfl, trivial⟩
    · cases hf
  | str =>
    refine ⟨fun t cs fuel x hf h hw => ?_, fun fs off cs ds hf => by simp [fits] at hf⟩
    simp only [fits, Bool.not_false, Bool.true_and] at hf
    split at hf
    · rename_i ht
      obtain ⟨s, rfl, rfl, _⟩ := DataW.trod_string ht h
      have h1 := hw s.data.toList.length (by simp [DataW.weights])
      refine ⟨s.data.toList, ?_, h1⟩
      show [Value.string s] = [strV s.data.toList]
      rw [strV_data]
    · cases hf
  | flt => exact ⟨fun t cs fuel x hf => by simp [fits] at hf, fun fs off cs ds hf => by simp [fits] at hf⟩
  | cpx => exact ⟨fun t cs fuel x hf => by simp [fits] at hf, fun fs off cs ds hf => by simp [fits] at hf⟩
  | ifc _ _ _ => exact ⟨fun t cs fuel x hf => by simp [fits] at hf, fun fs off cs ds hf => by simp [fits] at hf⟩
  | clo _ _ _ => exact ⟨fun t cs fuel x hf => by simp [fits] at hf, fun fs off cs ds hf => by simp [fits] at hf⟩
  | ref _ _ => exact ⟨fun t cs fuel x hf => by simp [fits] at hf, fun fs off cs ds hf => by simp [fits] at hf⟩
  | nil =>
    refine ⟨fun t cs fuel x hf => by simp [fits] at hf, fun fs off cs ds hf hl h hw hc => ⟨(), ?_, trivial⟩⟩
    show cs.drop off = []
    apply List.drop_eq_nil_of_le
    simp [Ty.size] at hc; omega
  | slice e ih =>
    refine ⟨fun t cs fuel x hf h hw => ?_, fun fs off cs ds hf => by simp [fits] at hf⟩
    simp only [fits, Bool.not_false, Bool.true_and] at hf
    split at hf
    · rename_i te ht
      simp only [Bool.and_eq_true] at hf
      obtain ⟨hf1, hf2, hf3⟩ := hf
      have hsz : P.cellsOf te = e.size := Nat.eq_of_beq_eq_true hf2
      have hby : P.bytesOf te = e.bytes := Nat.eq_of_beq_eq_true hf3
      rcases DataW.trod_slice ht h with ⟨rfl, _⟩ | ⟨a, len, cap, elems, rest, n, rfl, rfl, rfl, hb, hl, hcm, hel, hget, _, _⟩
      · exact ⟨[], TR_nilsl _ _ _, by simp [Ty.Good, maxLen]⟩
      · rw [weights_slice ht] at hw
        have hw0 := hw _ (.head _)
        have key : ∀ j, j < len → ∃ y : e.den, e.Good y ∧ ∃ vs : List Value, vs.length = e.size ∧ (∀ (i : Nat) (v : Value), vs[i]? = some v → Cell w (Old w) (a.add (j * e.size + i)) v) ∧ TR w (Old w) e y vs := by
          intro j hj
          have h1 := hget j hj
          have hje : j < elems.length := by omega
          rw [List.getElem?_eq_getElem hje] at h1
          obtain ⟨vs, hv1, hv2⟩ := Option.bind_eq_some_iff.1 h1
          obtain ⟨_, c1, c2⟩ := World.cells?_some hv1
          rw [hsz] at c1 c2
          obtain ⟨y, hy, hg⟩ := ih.1 te vs n elems[j] hf1 hv2 (fun m hm => hw m (.tail _ (List.mem_append.2 (.inl (weightsAll_mem (List.mem_map.2 ⟨elems[j], List.getElem_mem _, rfl⟩) m hm)))))
          refine ⟨y, hg, vs, c1, fun i v hv => ?_, hy⟩
          have hi : i < e.size := by rw [← c1]; exact (List.getElem?_eq_some_iff.1 hv).1
          have h2 := c2 i hi
          rw [add_add, hv] at h2
          exact cell_old h2
        obtain ⟨l, hl1, hl2⟩ := pick_list (fun j (y : e.den) => e.Good y ∧ ∃ vs : List Value, vs.length = e.size ∧ (∀ (i : Nat) (v : Value), vs[i]? = some v → Cell w (Old w) (a.add (j * e.size + i)) v) ∧ TR w (Old w) e y vs) len key
        refine ⟨l, ⟨some a, cap, by rw [hl1], ⟨by rw [hl1]; exact hl, fun h => by cases h⟩, fun j y hj => ?_⟩, by rw [hl1]; omega, ?_, fun y hy => ?_⟩
        · obtain ⟨_, vs, v1, v2, v3⟩ := hl2 j y hj
          exact ⟨a, vs, rfl, v1, v2, v3⟩
        · rw [hl1, ← hby]
          refine Nat.le_trans (Nat.mul_le_mul_right _ ?_) hw0
          simp; omega
        · obtain ⟨i, hi⟩ := List.mem_iff_getElem?.1 hy
          exact (hl2 i y hi).1
    · cases hf
  | st f ih =>
    refine ⟨fun t cs fuel x hf h hw => ?_, fun fs off cs ds hf => by simp [fits] at hf⟩
    simp only [fits, Bool.not_false, Bool.true_and] at hf
    split at hf
    · rename_i fs ht
      simp only [Bool.and_eq_true] at hf
      obtain ⟨hf1, hf2⟩ := hf
      have hsz : P.cellsOf t = f.size := Nat.eq_of_beq_eq_true hf2
      obtain ⟨xs, n, rfl, rfl, hc, hx, hg⟩ := DataW.trod_struct ht h
      rw [weights_agg ht] at hw
      obtain ⟨v, hv, hG⟩ := ih.2 fs.toList 0 cs xs hf1 (by simpa using hx) (fun i fd hi => ⟨n, hg i fd (by simpa using hi)⟩) hw (by rw [hc, hsz]; omega)
      exact ⟨v, (by simpa using hv : TR w (Old w) f v cs), hG⟩
    · cases hf
  | cons a b iha ihb =>
    refine ⟨fun t cs fuel x hf => by simp [fits] at hf, fun fs off cs ds hf hl h hw hc => ?_⟩
    simp only [fits, Bool.true_and] at hf
    cases fs with
    | nil => cases hf
    | cons fd rest =>
      cases ds with
      | nil => simp at hl
      | cons d ds =>
        simp only [Bool.and_eq_true] at hf
        obtain ⟨hf1, hf2, hf3, hf4⟩ := hf
        have hoff : fd.offset = off := Nat.eq_of_beq_eq_true hf1
        have hsz : P.cellsOf fd.type = a.size := Nat.eq_of_beq_eq_true hf3
        simp only [Ty.size] at hc
        obtain ⟨fuel, h0⟩ := h 0 fd rfl
        simp only [List.map_cons, DataW.weightsEach] at hw
        obtain ⟨v1, hv1, hg1⟩ := iha.1 fd.type _ fuel d hf2 h0 (fun m hm => hw m (List.mem_append.2 (.inl hm)))
        obtain ⟨v2, hv2, hg2⟩ := ihb.2 rest (off + a.size) cs ds hf4 (by simpa using hl) (fun i f hi => by simpa using h (i + 1) f (by simpa using hi)) (fun m hm => hw m (List.mem_append.2 (.inr hm))) (by omega)
        refine ⟨(v1, v2), ⟨_, _, ?_, hv1, hv2⟩, hg1, hg2⟩
        rw [hsz, hoff, ← List.drop_drop]
        exact (List.take_append_drop _ _).symm

theorem okWide_st {fs : Array Field} {r : Reach} {t : TypeId} {v : Value} (ht : P.underlying t = some (.struct fs)) (h : Value.okWide P w r base t v) : ∃ cs, v = .agg cs := by
  simp only [Value.okWide, ht] at h
  obtain ⟨cs, h, _⟩ := h
  exact ⟨cs, h⟩

theorem open_arg {T : Ty} {t : TypeId} {v : Value} {d : DataW H} {ps : List MemPlace} {r : Reach} {b0 : Nat} (hf : fits P T false t [] 0 = true) (hval : Value.okWide P w r b0 t v) (h : DataW.Trod enc P w base spare held t v d ps)
    (hw : ∀ n ∈ d.weights P t, n ≤ reachBytes) : ∃ x : T.den, PV w (Old w) (T.av x) v ∧ T.Good x := by
  obtain ⟨fuel, h⟩ := h
  obtain ⟨x, hx, hg⟩ := (open_TR T).1 t _ fuel (d, ps) hf h hw
  refine ⟨x, ?_, hg⟩
  have one : ∀ u : Value, u.oneCell' = true → v = u → u.cells = #[u] → All2 (PR w (Old w)) (T.cells x) [u] → PV w (Old w) ((T.cells x).headD .undef) v := by
    intro u _ e _ h2
    subst e
    cases hc : T.cells x with
    | nil => rw [hc] at h2; exact h2.elim
    | cons c cs => rw [hc] at h2; exact .inl h2.1
  have hcp := cells_PR hx
  cases T with
  | int k =>
    simp only [fits, Bool.not_false, Bool.true_and] at hf
    split at hf
    · rename_i k' ht
      obtain ⟨n, rfl⟩ := okWide_int ht hval
      exact one _ rfl rfl rfl hcp
    · cases hf
  | bool =>
    simp only [fits, Bool.not_false, Bool.true_and] at hf
    split at hf
    · rename_i ht
      obtain ⟨n, rfl⟩ := okWide_bool ht hval
      exact one _ rfl rfl rfl hcp
    · cases hf
  | str =>
    simp only [fits, Bool.not_false, Bool.true_and] at hf
    split at hf
    · rename_i ht
      obtain ⟨n, rfl⟩ := okWide_string ht hval
      exact one _ rfl rfl rfl hcp
    · cases hf
  | slice e =>
    simp only [fits, Bool.not_false, Bool.true_and] at hf
    split at hf
    · rename_i te ht
      obtain ⟨a, n, c, rfl⟩ := okWide_slice ht hval
      exact one _ rfl rfl rfl hcp
    · cases hf
  | st f =>
    simp only [fits, Bool.not_false, Bool.true_and] at hf
    split at hf
    · rename_i fs ht
      obtain ⟨cs, rfl⟩ := okWide_st ht hval
      exact .inr ⟨_, cs.toList, rfl, by simp, hcp⟩
    · cases hf
  | _ => simp [fits] at hf

theorem law_of {n : FuncId} {args : List AV} (hc : CallOK P n args (.bool true)) {us : List Value} {W : World} (hgl : GlobOK W (Old W)) (h : All2 (PV W (Old W)) args us) :
    Calls P n us.toArray W fun e W' => e = .returned (.bool true) ∧ Below W.heap.size W W' := by
  rcases hc with ⟨_, hc⟩ | ⟨_, _, _, _, _, e, _⟩ | ⟨_, _, _, _, _, e, _⟩
  case inr.inl => cases e
  case inr.inr => cases e
  refine (hc.2 W (Old W) us (fun _ _ h => h) hgl h).mono ?_
  rintro e W' ⟨r, pr', rfl, hb, _, _, hr⟩
  obtain ⟨b, hr⟩ := hr
  refine ⟨?_, hb⟩
  rcases hr.1 with h1 | ⟨_, _, h1, _⟩
  · rw [show r = .bool true from h1]
  · cases h1

theorem weights_of {ts : List TypeId} {ds : List (DataW H)} (h : (DataW.weightsEach P ts ds).all (· ≤ reachBytes) = true) {j : Nat} {t : TypeId} {d : DataW H} (ht : ts[j]? = some t) (hd : ds[j]? = some d) : ∀ n ∈ d.weights P t, n ≤ reachBytes :=
  fun n hn => by simpa using List.all_eq_true.1 h n (DataW.weights_mem_each ht hd n hn)

end
end Go.Proofs.Ytjgnpmdbkgeakaa.Th
set_option linter.unusedVariables false
set_option linter.unusedSimpArgs false
namespace Go.Proofs.Ytjgnpmdbkgeakaa.Th
open Go

section
variable {α β γ : Type}
@[simp] theorem sel_true (a b : α) : sel true a b = a := rfl
@[simp] theorem sel_false (a b : α) : sel false a b = b := rfl
theorem sel_dec {p : Prop} [Decidable p] (a b : α) : sel (decide p) a b = if p then a else b := by
  by_cases h : p <;> simp [sel, h]
theorem sel_not (c : Bool) (a b : α) : sel (!c) a b = sel c b a := by cases c <;> rfl
theorem sel_pos {p : Prop} [Decidable p] (h : p) (a b : α) : sel (decide p) a b = a := by simp [sel, h]
theorem sel_neg {p : Prop} [Decidable p] (h : ¬p) (a b : α) : sel (decide p) a b = b := by simp [sel, h]
theorem sel_eq (c : Bool) (a b : α) : sel c a b = if c = true then a else b := by cases c <;> rfl
@[simp] theorem ocall_some (x : α) (f : α → Option β) : ocall (some x) f = f x := rfl
@[simp] theorem esel_inl (x : α) (f : α → γ) (g : β → γ) : esel (.inl x) f g = f x := rfl
@[simp] theorem esel_inr (x : β) (f : α → γ) (g : β → γ) : esel (.inr x) f g = g x := rfl
end

theorem wrap_of {k : IntKind} {n : Int} (h1 : k.min ≤ n) (h2 : n ≤ k.max) : k.wrap n = n := by
  cases k <;> simp [IntKind.wrap, IntKind.bits, IntKind.signed, IntKind.min, IntKind.max] at h1 h2 ⊢ <;> (try split) <;> omega

theorem wrap64 {n : Int} (h1 : -9223372036854775808 ≤ n) (h2 : n ≤ 9223372036854775807) : IntKind.i64.wrap n = n :=
  wrap_of (by simpa [IntKind.min, IntKind.bits, IntKind.signed] using h1) (by simpa [IntKind.max, IntKind.bits, IntKind.signed] using h2)
theorem wrapu64 {n : Int} (h1 : 0 ≤ n) (h2 : n ≤ 18446744073709551615) : IntKind.u64.wrap n = n :=
  wrap_of (by simpa [IntKind.min, IntKind.bits, IntKind.signed] using h1) (by simpa [IntKind.max, IntKind.bits, IntKind.signed] using h2)
theorem wrapu8 {n : Int} (h1 : 0 ≤ n) (h2 : n ≤ 255) : IntKind.u8.wrap n = n :=
  wrap_of (by simpa [IntKind.min, IntKind.bits, IntKind.signed] using h1) (by simpa [IntKind.max, IntKind.bits, IntKind.signed] using h2)

theorem maxLen_eq : maxLen = 9223372036854775807 := rfl
theorem good_i64 {n : Int} (h : Ty.Good (.int .i64) n) : -9223372036854775808 ≤ n ∧ n ≤ 9223372036854775807 := by
  simpa [Ty.Good, IntKind.min, IntKind.max, IntKind.bits, IntKind.signed] using h
theorem good_u64 {n : Int} (h : Ty.Good (.int .u64) n) : 0 ≤ n ∧ n ≤ 18446744073709551615 := by
  simpa [Ty.Good, IntKind.min, IntKind.max, IntKind.bits, IntKind.signed] using h
theorem good_u8 {n : Int} (h : Ty.Good (.int .u8) n) : 0 ≤ n ∧ n ≤ 255 := by
  simpa [Ty.Good, IntKind.min, IntKind.max, IntKind.bits, IntKind.signed] using h

theorem good_u16 {n : Int} (h : Ty.Good (.int .u16) n) : 0 ≤ n ∧ n ≤ 65535 := by
  simpa [Ty.Good, IntKind.min, IntKind.max, IntKind.bits, IntKind.signed] using h
theorem good_u32 {n : Int} (h : Ty.Good (.int .u32) n) : 0 ≤ n ∧ n ≤ 4294967295 := by
  simpa [Ty.Good, IntKind.min, IntKind.max, IntKind.bits, IntKind.signed] using h
theorem good_i16 {n : Int} (h : Ty.Good (.int .i16) n) : -32768 ≤ n ∧ n ≤ 32767 := by
  simpa [Ty.Good, IntKind.min, IntKind.max, IntKind.bits, IntKind.signed] using h
theorem wrapu32 {n : Int} (h1 : 0 ≤ n) (h2 : n ≤ 4294967295) : IntKind.u32.wrap n = n :=
  wrap_of (by simpa [IntKind.min, IntKind.bits, IntKind.signed] using h1) (by simpa [IntKind.max, IntKind.bits, IntKind.signed] using h2)

theorem ofNat_len {α : Type} (l : List α) : Int.ofNat l.length = (l.length : Int) := rfl
theorem toNat_ofNat (n : Nat) : Int.toNat (Int.ofNat n) = n := rfl

theorem getD_of {α : Type} {l : List α} {i : Nat} (h : i < l.length) (d : α) : l.getD i d = l[i] := by simp [List.getD, h]

theorem ofBytes_inj {a b : List Int} (ha : ∀ x ∈ a, 0 ≤ x ∧ x ≤ 255) (hb : ∀ x ∈ b, 0 ≤ x ∧ x ≤ 255) : ofBytes a = ofBytes b ↔ a = b := by
  constructor
  · intro h
    have key : ∀ (l : List Int), (∀ x ∈ l, 0 ≤ x ∧ x ≤ 255) → (ofBytes l).map (fun c => (c.toNat : Int)) = l := by
      intro l
      induction l with
      | nil => intro _; rfl
      | cons x l ih =>
        intro hl
        obtain ⟨h1, h2⟩ := hl x (.head _)
        have : (UInt8.ofNat x.toNat).toNat = x.toNat := by
          rw [UInt8.toNat_ofNat']
          omega
        have e := ih fun y hy => hl y (.tail _ hy)
        simp only [ofBytes, List.map_cons, List.map_map] at e ⊢
        rw [this, e]
        congr 1
        omega
    rw [← key a ha, ← key b hb, h]
  · intro h; rw [h]

end Go.Proofs.Ytjgnpmdbkgeakaa.Th
