/- What signs of a field's value answer: a loop over a text's runes, walked by hand. -/
import Derived.WalkKit
import Derived.OwnWalkIn
import Derived.TacticsIn
import Derived.TacticsInMore
import Derived.BigFrameIn
import Derived.LoopNIn
import Derived.LoopIn
import Derived.Lib.OthersKept
import Derived.Laws.RangeAny
import Derived.Test.YtjgnpmdbkgeakaaThU
import Derived.Test.YtjgnpmdbkgeakaaProg
set_option linter.unusedVariables false
set_option linter.unusedSimpArgs false
namespace Go.Proofs.Ytjgnpmdbkgeakaa.Signs
open Go Go.RowKit Go.Proofs Go.Proofs.Ytjgnpmdbkgeakaa Th Go.Lib

attribute [local go_sem] Oper.semAt_some

def plain (c : UInt8) : Bool := decide (32 ≤ c.toNat) && decide (c.toNat ≤ 126)
def signsOf (kind : Int) (d : Bool) (b : List UInt8) : Bool := if kind = 1 ∨ kind = 3 then d else b.all plain

theorem all_of {bs : ByteArray} (h : ∀ (i : Nat) (h : i < bs.size), plain bs[i] = true) : bs.data.toList.all plain = true := by
  rw [List.all_eq_true]
  intro x hx
  obtain ⟨i, hi, rfl⟩ := List.getElem_of_mem hx
  have hi' : i < bs.size := by rw [Array.length_toList] at hi; exact hi
  have e : bs.data.toList[i] = bs[i] := by rw [Array.getElem_toList]; rfl
  rw [e]; exact h i hi'

theorem not_all {bs : ByteArray} {i : Nat} (h : i < bs.size) (hp : plain bs[i] = false) : bs.data.toList.all plain = false := by
  rw [Bool.eq_false_iff]
  intro ha
  rw [List.all_eq_true] at ha
  have := ha bs[i] (by
    have hi : i < bs.data.toList.length := by rw [Array.length_toList]; exact h
    have e : bs.data.toList[i] = bs[i] := by rw [Array.getElem_toList]; rfl
    rw [← e]; exact List.getElem_mem _)
  rw [hp] at this; cases this

theorem iterPos_of' {w : World} {k : Nat} {s : ByteArray} {p : Nat} (h : w.heap[k]? = some (.stringIter s p)) : w.iterPos k = p := by simp [World.iterPos, h]

set_option maxRecDepth 100000 in
set_option maxHeartbeats 2000000 in
theorem signs_in (n : Nat) (hn : 3 ≤ n) (f kind size : Int) (bs : ByteArray) (hlen : bs.size ≤ 9223372036854775807) (d : Bool) (w : World)
    (hIs : ∀ w1 : World, Below w.heap.size w w1 → Calls Try.prog 50 #[.string bs] w1 fun e w' => e = .returned (.bool d) ∧ Below w1.heap.size w1 w') :
    CallsIn Fence.wide n Try.prog 33 #[.agg #[.int .i64 f, .int .i64 kind, .int .i64 size], .string bs] w fun e W' => e = .returned (.bool (signsOf kind d bs.data.toList)) ∧ Below w.heap.size w W' := by
  have h1 : 1 ≤ n := by omega
  refine callsIn_of_wp Try.func33 rfl trivial ?_ rfl
  simp only [Try.ntmps33, List.size_toArray, List.length_cons, List.length_nil, Nat.reduceAdd, Nat.reduceSub, Array.replicate_succ, Array.replicate_zero, List.push_toArray, List.append_toArray, List.nil_append, List.cons_append]
  by_cases k1 : kind = 1
  · subst k1
    gi_wp2
    refine ⟨trivial, (callsIn_wide.2 (hIs _ ((Below.refl _ w).alloc (Nat.le_refl _) _))).mono ?_⟩
    rintro e w' ⟨rfl, hb⟩
    dsimp only
    gi_wp2
    go_ret
    refine ⟨by simp [signsOf], ((Below.refl _ w).alloc (Nat.le_refl _) _).trans (hb.mono (by simp))⟩
  by_cases k3 : kind = 3
  · subst k3
    gi_wp2
    refine ⟨trivial, (callsIn_wide.2 (hIs _ ((Below.refl _ w).alloc (Nat.le_refl _) _))).mono ?_⟩
    rintro e w' ⟨rfl, hb⟩
    dsimp only
    gi_wp2
    go_ret
    refine ⟨by simp [signsOf], ((Below.refl _ w).alloc (Nat.le_refl _) _).trans (hb.mono (by simp))⟩
  · gi_wp2
    · exfalso; simp_all
    have hit : (((w.alloc (Obj.cells #[Value.int IntKind.i64 f, Value.int IntKind.i64 kind, Value.int IntKind.i64 size] 25)).iter bs 0)).heap[w.heap.size + 1]? = some (.stringIter bs 0) := by
      have := World.iter_heap (w.alloc (Obj.cells #[Value.int IntKind.i64 f, Value.int IntKind.i64 kind, Value.int IntKind.i64 size] 25)) bs 0
      rwa [World.size_alloc] at this
    have hbl : Below w.heap.size w ((w.alloc (Obj.cells #[Value.int IntKind.i64 f, Value.int IntKind.i64 kind, Value.int IntKind.i64 size] 25)).iter bs 0) :=
      ((Below.refl _ w).alloc (Nat.le_refl _) _).alloc (by simp) _
    generalize ((w.alloc (Obj.cells #[Value.int IntKind.i64 f, Value.int IntKind.i64 kind, Value.int IntKind.i64 size] 25)).iter bs 0) = W0 at hit hbl ⊢
    gi_loopw [] (fun wr => ∃ pos, pos ≤ bs.size ∧ (∀ (i : Nat) (h : i < bs.size), i < pos → plain bs[i] = true) ∧ wr.heap[w.heap.size + 1]? = some (.stringIter bs pos) ∧ Below w.heap.size w wr)
      (fun wr => bs.size - wr.iterPos (w.heap.size + 1))
    case atStart => exact ⟨0, by omega, fun i h hi => by omega, hit, hbl⟩
    case round =>
      obtain ⟨pos, hp, hall, hhe, hb⟩ := hrel
      by_cases hlt : pos < bs.size
      · by_cases hpl : plain (bs[pos]'hlt) = true
        · have hpl' := hpl
          simp only [plain, Bool.and_eq_true, decide_eq_true_eq] at hpl'
          have hnext := run_next_ascii_at (P := Try.prog) wr (w.heap.size + 1) bs pos 0 hhe hlt (by omega)
          have c1 : ¬ (((bs[pos]'hlt).toNat : Int) < 32) := by omega
          have c2 : ¬ (126 < ((bs[pos]'hlt).toNat : Int)) := by omega
          gi_wp2
          go_roundw
          case rel =>
            refine ⟨pos + 1, by omega, fun i h hi => ?_, iterAt_heap wr (w.heap.size + 1) bs pos (pos + 1) hhe, below_iterAt hb (by omega) _ _⟩
            by_cases e : i = pos
            · subst e; exact hpl
            · exact hall i h (by omega)
          case measure =>
            rw [iterPos_of' hhe, iterPos_of' (iterAt_heap wr (w.heap.size + 1) bs pos (pos + 1) hhe)]
            omega
        · have hpf : plain (bs[pos]'hlt) = false := by simpa using hpl
          have fin : bs.data.toList.all plain = false := not_all hlt hpf
          have fin2 : signsOf kind d bs.data.toList = false := by unfold signsOf; rw [if_neg (by simp [k1, k3]), fin]
          by_cases hasc : (bs[pos]'hlt).toNat < 128
          · have hnext := run_next_ascii_at (P := Try.prog) wr (w.heap.size + 1) bs pos 0 hhe hlt hasc
            have hcc : ((bs[pos]'hlt).toNat : Int) < 32 ∨ 126 < ((bs[pos]'hlt).toNat : Int) := by
              simp only [plain, Bool.and_eq_false_iff, decide_eq_false_iff_not] at hpf
              omega
            rcases hcc with c1 | c1
            · gi_wp2
              go_ret
              first | exact ⟨(congrArg (fun x => Ending.returned (Value.bool x)) fin2).symm, below_iterAt hb (by omega) _ _⟩ | exact ⟨rfl, below_iterAt hb (by omega) _ _⟩
            · have c2 : ¬ (((bs[pos]'hlt).toNat : Int) < 32) := by omega
              gi_wp2
              go_ret
              first | exact ⟨(congrArg (fun x => Ending.returned (Value.bool x)) fin2).symm, below_iterAt hb (by omega) _ _⟩ | exact ⟨rfl, below_iterAt hb (by omega) _ _⟩
          · have hnext := run_next_any_at (P := Try.prog) wr (w.heap.size + 1) bs pos 0 hhe hlt
            have hhi := (decode_high bs pos hlt (by omega)).1
            have c1 : ¬ (((Utf8.decode bs pos).1 : Int) < 32) := by omega
            have c2 : 126 < ((Utf8.decode bs pos).1 : Int) := by omega
            gi_wp2
            go_ret
            first | exact ⟨(congrArg (fun x => Ending.returned (Value.bool x)) fin2).symm, below_iterAt hb (by omega) _ _⟩ | exact ⟨rfl, below_iterAt hb (by omega) _ _⟩
      · have hnext := run_next_end_at (P := Try.prog) wr (w.heap.size + 1) bs pos 0 hhe hlt
        have fin : bs.data.toList.all plain = true := all_of fun i h => hall i h (by omega)
        have fin2 : signsOf kind d bs.data.toList = true := by unfold signsOf; rw [if_neg (by simp [k1, k3]), fin]
        gi_wp2
        go_ret
        first | exact ⟨(congrArg (fun x => Ending.returned (Value.bool x)) fin2).symm, hb⟩ | exact ⟨rfl, hb⟩

/-- the contract -/
theorem fn33 (f kind size : Int) (b : List UInt8) (hlen : b.length ≤ 9223372036854775807) (d : Bool) (hIs : CallOK Try.prog 50 [.str b] (.bool d)) :
    CallOK Try.prog 33 [.agg [.int .i64 f, .int .i64 kind, .int .i64 size], .str b] (.bool (signsOf kind d b)) := by
  refine .inl ⟨rfl, ⟨_, Try.func33, by kernel_rfl, by kernel_rfl⟩, fun w pr us hpr hgl ha => ?_⟩
  obtain ⟨u1, us1, rfl, h1, h2⟩ : ∃ u1 us1, us = u1 :: us1 ∧ PV w pr (.agg [.int .i64 f, .int .i64 kind, .int .i64 size]) u1 ∧ All2 (PV w pr) [.str b] us1 := by
    cases us with
    | nil => exact ha.elim
    | cons u us => exact ⟨u, us, rfl, ha.1, ha.2⟩
  obtain ⟨u2, us2, rfl, h3, h4⟩ : ∃ u1 us', us1 = u1 :: us' ∧ PV w pr (.str b) u1 ∧ All2 (PV w pr) [] us' := by
    cases us1 with
    | nil => exact h2.elim
    | cons u us => exact ⟨u, us, rfl, h2.1, h2.2⟩
  have e1 : u1 = .agg #[.int .i64 f, .int .i64 kind, .int .i64 size] := by
    rcases h1 with h | ⟨cs, vs, hc, hv, hr⟩
    · exact h.elim
    · cases hc
      match vs, hr with
      | [a, b, c], ⟨p, q, r, _⟩ => rw [hv, show a = _ from p, show b = _ from q, show c = _ from r]
  have e2 : u2 = strV b := by rcases h3 with h | ⟨_, _, h, _⟩ <;> first | exact h | cases h
  have e3 : us2 = [] := by cases us2 with | nil => rfl | cons _ _ => exact h4.elim
  subst e1 e2 e3
  have hIs' : ∀ w1 : World, Below w.heap.size w w1 → Calls Try.prog 50 #[strV b] w1 fun e w' => e = .returned (.bool d) ∧ Below w1.heap.size w1 w' := by
    intro w1 hb1
    rcases hIs with ⟨_, hIs⟩ | ⟨_, _, _, _, _, e, _⟩ | ⟨_, _, _, _, _, e, _⟩
    case inr.inl => cases e
    case inr.inr => cases e
    refine (hIs.2 w1 pr [strV b] (fun k o h => Nat.lt_of_lt_of_le (hpr k o h) hb1.size) (hgl.keeps fun k o p => ⟨p, cell_heap (hb1.block k (hpr k o p)) o⟩) ⟨.inl rfl, trivial⟩).mono ?_
    rintro e w' ⟨r, pr', rfl, hb, _, _, hr⟩
    obtain ⟨bb, hr⟩ := hr
    refine ⟨?_, hb⟩
    rcases hr.1 with h1 | ⟨_, _, h1, _⟩
    · rw [show r = .bool d from h1]
    · cases h1
  have := signs_in 10 (by omega) f kind size ⟨b.toArray⟩ (by simpa [ByteArray.size] using hlen) d w hIs'
  refine (callsIn_wide.1 this).mono ?_
  rintro e W' ⟨rfl, hb⟩
  exact ⟨_, pr, rfl, hb, fun _ _ _ => Iff.rfl, fun k o h => Nat.lt_of_lt_of_le (hpr k o h) hb.size, none, .inl rfl, rfl⟩

end Go.Proofs.Ytjgnpmdbkgeakaa.Signs
