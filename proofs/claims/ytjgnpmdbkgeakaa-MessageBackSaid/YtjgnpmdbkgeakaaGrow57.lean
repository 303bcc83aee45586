/- What slices.Grow answers to nil: a row with no element, and room: walked by hand. -/
import Derived.Shelf.RegionOpenPlain
import Derived.WalkKit
import Derived.Lib.Walk
import Derived.Lib.SliceRun
import Derived.Lib.AppendZerosOnto
import Derived.Test.YtjgnpmdbkgeakaaThU
import Derived.Test.YtjgnpmdbkgeakaaProg
set_option linter.unusedVariables false
set_option linter.unusedSimpArgs false
namespace Go.Proofs.Ytjgnpmdbkgeakaa.Grow57
open Go Go.RowKit Go.Shelf Go.Lib Go.Proofs Go.Proofs.Ytjgnpmdbkgeakaa Th

def Post (n : Nat) (z : Value) (w : World) (e : Ending) (w' : World) : Prop := (n = 0 ∧ e = .returned (.slice none 0 0) ∧ w' = w) ∨
      (0 < n ∧ ∃ G us, e = .returned (.slice (some ⟨w.heap.size, 0, none⟩) 0 G) ∧ w' = w.drew.alloc (.cells us 5) ∧ us = Builtin.zeroCells z.cells n ++ Builtin.zeroCells z.cells (G - n) ∧ n ≤ G)

set_option maxHeartbeats 4000000 in
set_option maxRecDepth 100000 in
theorem walk (i0 : TypeInfo) (z : Value) (hi0 : Try.prog.info? 5 = some i0) (hz0 : i0.zero = some z) (hs0 : 0 < i0.size) (n : Nat) (w : World) (hbig : n * i0.bytes ≤ 140737488355328) (h63 : n ≤ 4611686018427387904) :
    Calls Try.prog 57 #[.slice none 0 0, .int .i64 n] w (Post n z w) := by
  by_cases hn : n = 0
  · subst hn
    go_enter Try.func57, Try.ntmps57
    go_wp2
    go_ret
    exact .inl ⟨rfl, rfl, rfl⟩
  have hts : Try.prog.underlying 22 = some (.slice 5) := by kernel_rfl
  have hti : Try.prog.underlying 3 = some (.int .i64) := by kernel_rfl
  have h1 : ¬ ((n : Int) < 0) := by omega
  have h4 : (n : Int) > 0 := by omega
  have hold : (Builtin.firstCells i0.size 0 (.slice none 0 0)).run Try.prog w.drew = .ok ([] : List Value).toArray w.drew := run_firstCells_none w.drew i0.size 0 0 0
  have hrz : ∀ ty, (Builtin.append_ #[22, 3] ty #[.slice none 0 0, .int .i64 (n : Int)]).run Try.prog w =
      .ok (.slice (some ⟨w.heap.size, 0, none⟩) n (grownCap w n 0 5)) (w.drew.alloc (.cells (([] : List Value).toArray ++ Builtin.zeroCells z.cells n ++ Builtin.zeroCells z.cells (grownCap w n 0 5 - n)) 5)) := fun ty => by
    have h := Lib.run_append_grow_zeros w 22 3 ty 5 i0 z .i64 .i64 hts hti hi0 hz0 none 0 0 [] hold n (by omega) hs0 (by omega) (by omega) (by omega) (by rw [Nat.zero_add]; exact growslice_fits (by omega) hbig)
    rw [Nat.zero_add] at h
    exact h
  have hGn : n ≤ grownCap w n 0 5 := grownCap_ge w _ _ _
  obtain ⟨G, hG⟩ : ∃ G, G = grownCap w n 0 5 := ⟨_, rfl⟩
  rw [← hG] at hrz hGn
  obtain ⟨ROW, hROW⟩ : ∃ ROW : Array Value, ROW = ([] : List Value).toArray ++ Builtin.zeroCells z.cells n ++ Builtin.zeroCells z.cells (G - n) := ⟨_, rfl⟩
  rw [← hROW] at hrz
  have hpost : Post n z w (.returned (.slice (some ⟨w.heap.size, 0, none⟩) 0 G)) (w.drew.alloc (.cells ROW 5)) := .inr ⟨by omega, G, _, rfl, rfl, by rw [hROW]; simp, hGn⟩
  clear hROW
  have hG63 : G ≤ 9223372036854775807 := by
    have := grownCap_le_maxLen w n 0 5 (by unfold maxLen; omega)
    rw [← hG] at this
    unfold maxLen at this
    omega
  have hw : IntKind.i64.wrap (n : Int) = (n : Int) := by rw [IntKind.wrap_i64]; omega
  clear hold hG
  go_enter Try.func57, Try.ntmps57
  go_wp2_with (at_builtin; refine Lib.wpList_append_run _ rfl _ _ _ _ rfl _ _ rfl rfl _ _ (hrz _) ?_)
  all_goals (go_ret; exact hpost)

theorem calls {ei : TInfo} {d : TypeDesc} {i0 : TypeInfo} {z : Value} (E : TypeIs Try.prog 5 ei i0 d z) (hs0 : 0 < ei.size) (n : Int) (h0 : 0 ≤ n) (hbig : n * (ei.bytes : Int) ≤ 140737488355328) (h63 : n ≤ 4611686018427387904) :
    CallOK Try.prog 57 [.nilsl, .int .i64 n] (.own ei.ty []) := by
  refine .inl ⟨rfl, ⟨_, Try.func57, rfl, rfl⟩, fun w pr us hlt hgl ha => ?_⟩
  obtain ⟨u1, u2, rfl⟩ : ∃ u1 u2, us = [u1, u2] := by
    have := ha.len
    match us, this with
    | [u1, u2], _ => exact ⟨u1, u2, rfl⟩
  obtain ⟨p1, p2, _⟩ := ha
  have e1 : u1 = .slice none 0 0 := by
    rcases p1 with h | ⟨cs, us, h, _⟩
    · exact h
    · cases h
  have e2 : u2 = .int .i64 n := by
    rcases p2 with h | ⟨cs, us, h, _⟩
    · exact h
    · cases h
  subst e1 e2
  obtain ⟨m, rfl⟩ : ∃ m : Nat, n = m := ⟨n.toNat, by omega⟩
  have hzsz : z.cells.size = ei.size := by have := (z0s_LR (w := w) (g := ⟨fun _ _ => False, fun _ => none, fun _ => none⟩) E.zrel).len; have := E.zlen; simp at *; omega
  refine (walk i0 z E.info E.zero (by rw [E.size]; exact hs0) m w (by rw [E.bytes]; have : ((m * ei.bytes : Nat) : Int) ≤ 140737488355328 := by rw [Int.natCast_mul]; exact hbig
                                                                      omega) (by omega)).mono ?_
  rintro e w' (⟨rfl, rfl, rfl⟩ | ⟨hm, G, us, rfl, rfl, rfl, hG⟩)
  · exact ⟨_, pr, rfl, Below.refl _ _, fun _ _ _ => Iff.rfl, hlt, none, ⟨.slice none 0 0, none, ei.ty.size⟩, ⟨rfl, .inl ⟨rfl, rfl, rfl⟩⟩, rfl, rfl, fun k hk => by cases hk⟩
  · refine ⟨_, pr, rfl, ((Below.refl _ w).drew).alloc (Nat.le_refl _) _, fun _ _ _ => Iff.rfl, fun k o p => ?_, some w.heap.size, ⟨.slice (some ⟨w.heap.size, 0, none⟩) 0 G, some w.heap.size, ei.ty.size⟩,
      ⟨rfl, .inr ⟨w.heap.size, G, rfl, rfl, ?_⟩⟩, rfl, rfl, fun k hk => ?_⟩
    · have h1 : (w.drew.alloc (.cells (Builtin.zeroCells z.cells m ++ Builtin.zeroCells z.cells (G - m)) 5)).heap.size = w.heap.size + 1 := by show (w.heap.push _).size = _; simp
      rw [h1]; have := hlt k o p; omega
    · refine ⟨bd0_mine.2 (Nat.le_refl _), Nat.zero_le _, ⟨_, 5, (0, 0), alloc_new w.drew _, thawed0 _, ?_, fun j x hj => by simp at hj⟩, fun o p => absurd (hlt _ _ p) (by omega), fun h => (by cases h), fun _ o p => absurd (hlt _ _ p) (by omega)⟩
      rw [E.tysz]
      simp only [Array.size_append, size_zeroCells, hzsz]
      rw [← Nat.add_mul]
      exact Nat.mul_le_mul_right _ (by omega)
    · cases hk; show _ < (w.heap.push _).size; simp
end Go.Proofs.Ytjgnpmdbkgeakaa.Grow57
