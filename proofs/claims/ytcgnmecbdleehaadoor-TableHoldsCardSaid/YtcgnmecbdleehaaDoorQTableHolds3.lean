/- THE CLAIM'S TEXTS, part 3: what its proof needs of the theory, the functions, their equations and the laws. No condition. -/
import Derived.Test.YtcgnmecbdleehaaDoorQTableHolds2
import Derived.Lib.OthersKept
import Derived.Laws.RangeAny
import Derived.Shelf.RegionOpenPlain
import Derived.Lib.Walk
import Derived.Lib.SliceRun
import Derived.Lib.AppendZerosOnto
import Derived.Laws.MakeOwn
import Derived.Laws.CopyOwn
import Derived.Deep.LoopGhost
import Derived.Deep.RegionLaw
import Derived.Lib.AppendZeros
import Derived.Laws.Externs
import Derived.Lib.Overlaps
import Derived.Shelf.SlSortCmp.WholeK
import Derived.Shelf.SlGeneric
import Derived.KernelRfl
import Derived.Shelf.Small.Bits
section
set_option linter.unusedVariables false
set_option linter.unusedSimpArgs false
namespace Go.Proofs.YtcgnmecbdleehaaDoor.Sum
open Go Go.RowKit Go.Shelf Go.Proofs Go.Proofs.YtcgnmecbdleehaaDoor Th
attribute [local go_sem] Oper.semAt_some
structure At0 (w : World) (tw : Bool) (b : List UInt8) (cap : Nat) (W : World) : Prop where
  size : W.heap.size = w.heap.size + 4
  below : Below w.heap.size w W
  tw : W.cell? ⟨w.heap.size, 0, none⟩ = some (.bool tw) ∧ W.frozen? ⟨w.heap.size, 0, none⟩ = false
  n : W.cell? ⟨w.heap.size + 1, 0, none⟩ = some (.int .i64 0) ∧ W.frozen? ⟨w.heap.size + 1, 0, none⟩ = false
  bytes : ∀ (i : Nat) (h : i < (toBytes b).length), W.cell? ((⟨w.heap.size + 2, 0, none⟩ : Addr).add i) = some (.int .u8 (toBytes b)[i])
  box : W.cell? ⟨w.heap.size + 3, 0, none⟩ = some (.slice (some ⟨w.heap.size + 2, 0, none⟩) (toBytes b).length cap)
theorem at0 (w : World) (tw : Bool) (b : List UInt8) (cap : Nat) (us : Array Value) (e1 e2 e3 e4 : TypeId) (fr : Nat × Nat) (hus : ∀ (i : Nat) (h : i < b.length), us[i]? = some (.int .u8 (b[i].toNat : Int))) :
    At0 w tw b cap ((((w.alloc (.cells #[.bool tw] e1)).alloc (.cells #[.int .i64 0] e2)).alloc (.cells us e3 fr)).drew.alloc (.cells #[.slice (some ⟨w.heap.size + 1 + 1, 0, none⟩) b.length cap] e4)) := by
  generalize hW : ((((w.alloc (.cells #[.bool tw] e1)).alloc (.cells #[.int .i64 0] e2)).alloc (.cells us e3 fr)).drew.alloc (.cells #[.slice (some ⟨w.heap.size + 1 + 1, 0, none⟩) b.length cap] e4)) = W
  have hh : W.heap = (((w.heap.push (.cells #[.bool tw] e1)).push (.cells #[.int .i64 0] e2)).push (.cells us e3 fr)).push (.cells #[.slice (some ⟨w.heap.size + 1 + 1, 0, none⟩) b.length cap] e4) := by rw [← hW]; rfl
  have g0 : W.heap[w.heap.size]? = some (.cells #[.bool tw] e1) := by rw [hh]; simp only [Array.getElem?_push, Array.size_push]; rw [if_neg (by omega), if_neg (by omega), if_neg (by omega), if_pos trivial]
  have g1 : W.heap[w.heap.size + 1]? = some (.cells #[.int .i64 0] e2) := by rw [hh]; simp only [Array.getElem?_push, Array.size_push]; rw [if_neg (by omega), if_neg (by omega), if_pos trivial]
  have g2 : W.heap[w.heap.size + 2]? = some (.cells us e3 fr) := by rw [hh]; simp only [Array.getElem?_push, Array.size_push]; rw [if_neg (by omega), if_pos trivial]
  have g3 : W.heap[w.heap.size + 3]? = some (.cells #[.slice (some ⟨w.heap.size + 1 + 1, 0, none⟩) b.length cap] e4) := by rw [hh]; simp only [Array.getElem?_push, Array.size_push]; rw [if_pos trivial]
  have hl : (toBytes b).length = b.length := by simp [toBytes]
  refine ⟨by rw [hh]; simp, ?_, ⟨by rw [cell_of g0]; rfl, frozen_of g0 (thawed0 _) (by simp)⟩, ⟨by rw [cell_of g1]; rfl, frozen_of g1 (thawed0 _) (by simp)⟩, fun i h => ?_, by rw [cell_of g3, hl]; rfl⟩
  · rw [← hW]
    refine (((((Below.refl _ w).alloc (Nat.le_refl _) _).alloc (by simp) _).alloc (by simp; omega) _).drew).alloc ?_ _
    show _ ≤ (((w.alloc _).alloc _).alloc _).heap.size
    simp; omega
  · rw [addr_add, cell_of g2, Nat.zero_add, hus i (by omega)]
    simp [toBytes]
theorem round_post {w WW W : World} {tw : Bool} {b : List UInt8} {cap : Nat} (A : At0 w tw b cap WW) {pre : List (Int × Int)} {x : Int × Int} {p : Int × Bool} {v : Int} {c : Bool} {ac : Act}
    (hsn : sumOf (pre ++ [x]) tw = (v, c)) (ht : W.cell? ⟨w.heap.size, 0, none⟩ = some (.bool p.2)) (htf : W.frozen? ⟨w.heap.size, 0, none⟩ = false)
    (hc : W.cell? ⟨w.heap.size + 1, 0, none⟩ = some (.int .i64 p.1)) (hf : W.frozen? ⟨w.heap.size + 1, 0, none⟩ = false) (hb : Below w.heap.size w W) :
    ownPostK (Keep2 (w.heap.size + 3) (w.heap.size + 2)) (fun pre W => (W.cell? ⟨w.heap.size, 0, none⟩ = some (.bool (sumOf pre tw).2) ∧ W.frozen? ⟨w.heap.size, 0, none⟩ = false) ∧ (W.cell? ⟨w.heap.size + 1, 0, none⟩ = some (.int .i64 (sumOf pre tw).1) ∧ W.frozen? ⟨w.heap.size + 1, 0, none⟩ = false) ∧ Below w.heap.size w W)
      (fun _ _ _ => False) (pre ++ [x]) W .normal ac ((W.setCell ⟨w.heap.size + 1, 0, none⟩ (.int .i64 v)).setCell ⟨w.heap.size, 0, none⟩ (.bool c)) := by
  refine ⟨(KeepsOthers.setCell _ _ _).trans (KeepsOthers.setCell _ _ _), fun k hk => ?_, ⟨?_, ?_⟩, ⟨?_, ?_⟩, (hb.setCell (by simp) _).setCell (by simp) _⟩
  · rw [Below.heap_setCell _ _ _ _ (by simp; omega), Below.heap_setCell _ _ _ _ (by simp; omega)]
  · rw [hsn]
    refine World.cell?_setCell_same' _ _ _ ?_
    rw [World.cell?_of_block (Below.heap_setCell _ _ _ _ (by simp)), ht]; rfl
  · rw [World.frozen?_setCell, World.frozen?_setCell]; exact htf
  · rw [hsn, World.cell?_of_block (Below.heap_setCell _ _ _ _ (by simp))]
    refine World.cell?_setCell_same' _ _ _ ?_
    rw [hc]; rfl
  · rw [World.frozen?_setCell, World.frozen?_setCell]; exact hf
set_option maxRecDepth 100000 in
set_option maxHeartbeats 2000000 in
theorem sum_in (n : Nat) (hn : 3 ≤ n) (b : List UInt8) (hlen : b.length ≤ 9223372036854775807) (tw : Bool) (w : World) :
    CallsIn Fence.wide n Tryd.prog 73 #[strV b, .bool tw] w fun e W' => e = .returned (.int .i64 (sumOf (backs (toBytes b)) tw).1) ∧ Below w.heap.size w W' := by
  have h1 : 1 ≤ n := by omega
  refine callsIn_of_wp_marks Tryd.func73 rfl trivial ?_ rfl
  simp only [Tryd.ntmps73, List.size_toArray, List.length_cons, List.length_nil, Nat.reduceAdd, Nat.reduceSub, Array.replicate_succ, Array.replicate_zero, List.push_toArray, List.append_toArray, List.nil_append, List.cons_append]
  gi_wp2
  obtain ⟨cap, us, hcap, hus, hrun⟩ := run_s2b Tryd.prog (src := 9) (dst := 59) (e := 5) ⟨_, Tryd.underlying9⟩ Tryd.underlying59 Tryd.underlying5 b ((w.alloc (.cells #[.bool tw] 4)).alloc (.cells #[.int .i64 0] 3))
  rw [hrun]
  simp only [Result.andThen_ok]
  gi_wp2
  refine ⟨trivial, (back_in Fence.wide (n - 1) trivial rfl _ _ _ _).mono ?_⟩
  rintro e w' ⟨rfl, rfl⟩
  dsimp only
  gi_wp2
  have A := at0 w tw b cap us 4 3 5 59 (us.size, us.size + 1) hus
  have hs : (((w.alloc (Obj.cells #[Value.bool tw] 4)).alloc (Obj.cells #[Value.int IntKind.i64 0] 3)).alloc (Obj.cells us 5 (us.size, us.size + 1))).drew.heap.size = w.heap.size + 3 := by
    show (((w.alloc _).alloc _).alloc _).heap.size = _
    simp
  rw [hs]
  generalize ((((w.alloc (Obj.cells #[Value.bool tw] 4)).alloc (Obj.cells #[Value.int IntKind.i64 0] 3)).alloc (Obj.cells us 5 (us.size, us.size + 1))).drew.alloc (Obj.cells #[Value.slice (some { block := w.heap.size + 1 + 1, off := 0 }) b.length cap] 59)) = WW at A ⊢
  have hlen' : (toBytes b).length = b.length := by simp [toBytes]
  refine wpIn_rangeFunc_ownF rfl h1 (gf := 121) (lb := #[.pointer (some ⟨w.heap.size + 3, 0, none⟩)]) rfl trivial (enters_of Tryd.func121 (by kernel_rfl) rfl)
    (encs := fun x : Int × Int => #[.int .i64 x.1, .int .u8 x.2]) (Kp := Keep2 (w.heap.size + 3) (w.heap.size + 2)) (S := fun ys => ys = backs (toBytes b)) (Sp := fun _ => True) (N := (toBytes b).length) (w0 := WW)
    (fun l J Jx W hW _ _ hY h0 => back1_in Fence.wide (n - 1) trivial rfl (by omega) l (w.heap.size + 3) (toBytes b) ⟨w.heap.size + 2, 0, none⟩ cap J Jx hY W ((hW.cell (p := ⟨w.heap.size + 3, 0, none⟩) (by rw [A.size]; show w.heap.size + 3 < _; omega)).trans A.box)
      (fun i h => (hW.cell (p := (⟨w.heap.size + 2, 0, none⟩ : Addr).add i) (by rw [A.size, addr_add]; show w.heap.size + 2 < _; omega)).trans (A.bytes i h)) (by rw [hlen']; exact hlen) h0)
    (fun h k b hb => (k b hb).trans (h b hb))
    (fun W l o o' hl _ _ _ b hb => World.putObj_heap_other (by rw [A.size] at hl; omega))
    (Below.refl _ _) (fun _ => rfl)
    (fun pre W => (W.cell? ⟨w.heap.size, 0, none⟩ = some (.bool (sumOf pre tw).2) ∧ W.frozen? ⟨w.heap.size, 0, none⟩ = false) ∧ (W.cell? ⟨w.heap.size + 1, 0, none⟩ = some (.int .i64 (sumOf pre tw).1) ∧ W.frozen? ⟨w.heap.size + 1, 0, none⟩ = false) ∧ Below w.heap.size w W)
    (fun _ _ _ => False) ?own (fun _ _ _ _ _ hs _ _ => hs) ⟨A.tw, A.n, A.below⟩
    (fun x => { tmps := #[strV b, .bool tw, undef, .pointer (some ⟨w.heap.size, 0, none⟩), .int .i64 0, .pointer (some ⟨w.heap.size + 1, 0, none⟩), undef, .int .u8 x.2, undef, strV b, .slice (some ⟨w.heap.size + 1 + 1, 0, none⟩) b.length cap, .func (.func 121) #[] #[.pointer (some ⟨w.heap.size + 3, 0, none⟩)], .int .i64 x.1, .int .u8 x.2, undef, undef, undef, undef, undef, undef, undef, undef, undef, undef, undef, undef, undef, undef, undef, undef], defers := [] }) ?assign ?body ?done ?stop
  case own =>
    refine fun s A' B' row hs hg hr => ⟨⟨cell_kept hs.1.1 hg fun r e => (hr r e).2, (frozen_kept hs.1.1 hg fun r e => (hr r e).2).trans hs.1.2⟩, ⟨cell_kept hs.2.1.1 hg fun r e => (hr r e).2, (frozen_kept hs.2.1.1 hg fun r e => (hr r e).2).trans hs.2.1.2⟩, ?_⟩
    exact hs.2.2.grown hg hs.2.2.size (fun k e => by have := (hr k e).1; rw [A.size] at this; omega)
  case assign =>
    intro l x W K hK
    gi_wp2_with (rw [Oper.semAt_eq _ _ _ (fun c h => by cases h)]; go_simp; try go_bits)
    exact hK
  case body =>
    rintro l pre x W ⟨⟨ht, htf⟩, ⟨hc, hf⟩, hb⟩ _
    have hsn := sumOf_snoc pre x tw
    generalize hp : sumOf pre tw = p at ht hc hsn
    obtain ⟨p1, p2⟩ := p
    simp only [] at ht hc
    cases p2
    · gi_wp2_with (rw [Oper.semAt_eq _ _ _ (fun c h => by cases h)]; go_simp; try go_bits)
      exact round_post (p := (p1, false)) A hsn ht htf hc hf hb
    · gi_wp2_with (rw [Oper.semAt_eq _ _ _ (fun c h => by cases h)]; go_simp; try go_bits)
      exact round_post (p := (p1, true)) A hsn ht htf hc hf hb
  case done =>
    rintro D xs W hD rfl ⟨⟨ht, htf⟩, ⟨hc, hf⟩, hb⟩ hK
    gi_wp2
    refine ⟨by simp, .inl ⟨_, _, rfl, run_takeDeferred hK, ?_⟩⟩
    exact ⟨_, results_tmp rfl _ _ _, rfl, hb.grown (grownBy_putObj' W D _) hb.size (fun k e => by cases e; rw [A.size] at hD; omega)⟩
  case stop =>
    rintro D c pre W _ _ h _
    exact h.elim
theorem fn73 (b : List UInt8) (hlen : b.length ≤ 9223372036854775807) (tw : Bool) : CallOK false Tryd.prog 73 [.str b, .bool tw] (.int .i64 (sumOf (backs (toBytes b)) tw).1) := by
  refine .inl ⟨rfl, ⟨_, Tryd.func73, by kernel_rfl, by kernel_rfl⟩, fun w pr us hpr _ ha => ?_⟩
  obtain ⟨u1, us1, rfl, h1, h2⟩ : ∃ u1 us1, us = u1 :: us1 ∧ PV w pr (.str b) u1 ∧ All2 (PV w pr) [.bool tw] us1 := by
    cases us with
    | nil => exact ha.elim
    | cons u us => exact ⟨u, us, rfl, ha.1, ha.2⟩
  obtain ⟨u2, us2, rfl, h3, h4⟩ : ∃ u1 us', us1 = u1 :: us' ∧ PV w pr (.bool tw) u1 ∧ All2 (PV w pr) [] us' := by
    cases us1 with
    | nil => exact h2.elim
    | cons u us => exact ⟨u, us, rfl, h2.1, h2.2⟩
  have e1 : u1 = strV b := by rcases h1 with h | ⟨_, _, h, _⟩ <;> first | exact h | cases h
  have e2 : u2 = .bool tw := by rcases h3 with h | ⟨_, _, h, _⟩ <;> first | exact h | cases h
  have e3 : us2 = [] := by cases us2 with | nil => rfl | cons _ _ => exact h4.elim
  subst e1 e2 e3
  refine (callsIn_wide.1 (sum_in 10 (by omega) b hlen tw w)).mono ?_
  rintro e W' ⟨rfl, hb⟩
  exact ⟨_, pr, rfl, .of0 hb, fun _ _ _ => Iff.rfl, fun k o h => Nat.lt_of_lt_of_le (hpr k o h) hb.size, none, .inl rfl, rfl⟩
end Go.Proofs.YtcgnmecbdleehaaDoor.Sum
end
section
set_option linter.unusedVariables false
set_option linter.unusedSimpArgs false
namespace Go.Proofs.YtcgnmecbdleehaaDoor.Signs
open Go Go.RowKit Go.Proofs Go.Proofs.YtcgnmecbdleehaaDoor Th Go.Lib
attribute [local go_sem] Oper.semAt_some
def plain (c : UInt8) : Bool := decide (32 ≤ c.toNat) && decide (c.toNat ≤ 126)
def signsOf (kind : Int) (d : Bool) (b : List UInt8) : Bool := if kind = 1 ∨ kind = 3 then d else b.all plain
theorem all_of {bs : ByteArray} (h : ∀ (i : Nat) (h : i < bs.size), plain bs[i] = true) : bs.data.toList.all plain = true := by
  rw [List.all_eq_true]
  intro x hx
  obtain ⟨i, hi, rfl⟩ := List.getElem_of_mem hx
  have hi' : i < bs.size := by rw [Array.length_toList] at hi; exact hi
  have e : bs.data.toList[i] = bs[i] := by rw [Array.getElem_toList]; rfl
  rw [e]; exact h i hi'
theorem not_all {bs : ByteArray} {i : Nat} (h : i < bs.size) (hp : plain bs[i] = false) : bs.data.toList.all plain = false := by
  rw [Bool.eq_false_iff]
  intro ha
  rw [List.all_eq_true] at ha
  have := ha bs[i] (by
    have hi : i < bs.data.toList.length := by rw [Array.length_toList]; exact h
    have e : bs.data.toList[i] = bs[i] := by rw [Array.getElem_toList]; rfl
    rw [← e]; exact List.getElem_mem _)
  rw [hp] at this; cases this
theorem iterPos_of' {w : World} {k : Nat} {s : ByteArray} {p : Nat} (h : w.heap[k]? = some (.stringIter s p)) : w.iterPos k = p := by simp [World.iterPos, h]
set_option maxRecDepth 100000 in
set_option maxHeartbeats 2000000 in
theorem signs_in (n : Nat) (hn : 3 ≤ n) (f kind size : Int) (bs : ByteArray) (hlen : bs.size ≤ 9223372036854775807) (d : Bool) (w : World)
    (hIs : ∀ w1 : World, Below w.heap.size w w1 → Calls Tryd.prog 72 #[.string bs] w1 fun e w' => e = .returned (.bool d) ∧ Below w1.heap.size w1 w') :
    CallsIn Fence.wide n Tryd.prog 76 #[.agg #[.int .i64 f, .int .i64 kind, .int .i64 size], .string bs] w fun e W' => e = .returned (.bool (signsOf kind d bs.data.toList)) ∧ Below w.heap.size w W' := by
  have h1 : 1 ≤ n := by omega
  refine callsIn_of_wp Tryd.func76 rfl trivial ?_ rfl
  simp only [Tryd.ntmps76, List.size_toArray, List.length_cons, List.length_nil, Nat.reduceAdd, Nat.reduceSub, Array.replicate_succ, Array.replicate_zero, List.push_toArray, List.append_toArray, List.nil_append, List.cons_append]
  by_cases k1 : kind = 1
  · subst k1
    gi_wp2
    refine ⟨trivial, (callsIn_wide.2 (hIs _ ((Below.refl _ w).alloc (Nat.le_refl _) _))).mono ?_⟩
    rintro e w' ⟨rfl, hb⟩
    dsimp only
    gi_wp2
    go_ret
    refine ⟨by simp [signsOf], ((Below.refl _ w).alloc (Nat.le_refl _) _).trans (hb.mono (by simp))⟩
  by_cases k3 : kind = 3
  · subst k3
    gi_wp2
    refine ⟨trivial, (callsIn_wide.2 (hIs _ ((Below.refl _ w).alloc (Nat.le_refl _) _))).mono ?_⟩
    rintro e w' ⟨rfl, hb⟩
    dsimp only
    gi_wp2
    go_ret
    refine ⟨by simp [signsOf], ((Below.refl _ w).alloc (Nat.le_refl _) _).trans (hb.mono (by simp))⟩
  · gi_wp2
    · exfalso; simp_all
    have hit : (((w.alloc (Obj.cells #[Value.int IntKind.i64 f, Value.int IntKind.i64 kind, Value.int IntKind.i64 size] 111)).iter bs 0)).heap[w.heap.size + 1]? = some (.stringIter bs 0) := by
      have := World.iter_heap (w.alloc (Obj.cells #[Value.int IntKind.i64 f, Value.int IntKind.i64 kind, Value.int IntKind.i64 size] 111)) bs 0
      rwa [World.size_alloc] at this
    have hbl : Below w.heap.size w ((w.alloc (Obj.cells #[Value.int IntKind.i64 f, Value.int IntKind.i64 kind, Value.int IntKind.i64 size] 111)).iter bs 0) :=
      ((Below.refl _ w).alloc (Nat.le_refl _) _).alloc (by simp) _
    generalize ((w.alloc (Obj.cells #[Value.int IntKind.i64 f, Value.int IntKind.i64 kind, Value.int IntKind.i64 size] 111)).iter bs 0) = W0 at hit hbl ⊢
    gi_loopw [] (fun wr => ∃ pos, pos ≤ bs.size ∧ (∀ (i : Nat) (h : i < bs.size), i < pos → plain bs[i] = true) ∧ wr.heap[w.heap.size + 1]? = some (.stringIter bs pos) ∧ Below w.heap.size w wr)
      (fun wr => bs.size - wr.iterPos (w.heap.size + 1))
    case atStart => exact ⟨0, by omega, fun i h hi => by omega, hit, hbl⟩
    case round =>
      obtain ⟨pos, hp, hall, hhe, hb⟩ := hrel
      by_cases hlt : pos < bs.size
      · by_cases hpl : plain (bs[pos]'hlt) = true
        · have hpl' := hpl
          simp only [plain, Bool.and_eq_true, decide_eq_true_eq] at hpl'
          have hnext := run_next_ascii_at (P := Tryd.prog) wr (w.heap.size + 1) bs pos 0 hhe hlt (by omega)
          have c1 : ¬ (((bs[pos]'hlt).toNat : Int) < 32) := by omega
          have c2 : ¬ (126 < ((bs[pos]'hlt).toNat : Int)) := by omega
          gi_wp2
          go_roundw
          case rel =>
            refine ⟨pos + 1, by omega, fun i h hi => ?_, iterAt_heap wr (w.heap.size + 1) bs pos (pos + 1) hhe, below_iterAt hb (by omega) _ _⟩
            by_cases e : i = pos
            · subst e; exact hpl
            · exact hall i h (by omega)
          case measure =>
            rw [iterPos_of' hhe, iterPos_of' (iterAt_heap wr (w.heap.size + 1) bs pos (pos + 1) hhe)]
            omega
        · have hpf : plain (bs[pos]'hlt) = false := by simpa using hpl
          have fin : bs.data.toList.all plain = false := not_all hlt hpf
          have fin2 : signsOf kind d bs.data.toList = false := by unfold signsOf; rw [if_neg (by simp [k1, k3]), fin]
          by_cases hasc : (bs[pos]'hlt).toNat < 128
          · have hnext := run_next_ascii_at (P := Tryd.prog) wr (w.heap.size + 1) bs pos 0 hhe hlt hasc
            have hcc : ((bs[pos]'hlt).toNat : Int) < 32 ∨ 126 < ((bs[pos]'hlt).toNat : Int) := by
              simp only [plain, Bool.and_eq_false_iff, decide_eq_false_iff_not] at hpf
              omega
            rcases hcc with c1 | c1
            · gi_wp2
              go_ret
              first | exact ⟨(congrArg (fun x => Ending.returned (Value.bool x)) fin2).symm, below_iterAt hb (by omega) _ _⟩ | exact ⟨rfl, below_iterAt hb (by omega) _ _⟩
            · have c2 : ¬ (((bs[pos]'hlt).toNat : Int) < 32) := by omega
              gi_wp2
              go_ret
              first | exact ⟨(congrArg (fun x => Ending.returned (Value.bool x)) fin2).symm, below_iterAt hb (by omega) _ _⟩ | exact ⟨rfl, below_iterAt hb (by omega) _ _⟩
          · have hnext := run_next_any_at (P := Tryd.prog) wr (w.heap.size + 1) bs pos 0 hhe hlt
            have hhi := (decode_high bs pos hlt (by omega)).1
            have c1 : ¬ (((Utf8.decode bs pos).1 : Int) < 32) := by omega
            have c2 : 126 < ((Utf8.decode bs pos).1 : Int) := by omega
            gi_wp2
            go_ret
            first | exact ⟨(congrArg (fun x => Ending.returned (Value.bool x)) fin2).symm, below_iterAt hb (by omega) _ _⟩ | exact ⟨rfl, below_iterAt hb (by omega) _ _⟩
      · have hnext := run_next_end_at (P := Tryd.prog) wr (w.heap.size + 1) bs pos 0 hhe hlt
        have fin : bs.data.toList.all plain = true := all_of fun i h => hall i h (by omega)
        have fin2 : signsOf kind d bs.data.toList = true := by unfold signsOf; rw [if_neg (by simp [k1, k3]), fin]
        gi_wp2
        go_ret
        first | exact ⟨(congrArg (fun x => Ending.returned (Value.bool x)) fin2).symm, hb⟩ | exact ⟨rfl, hb⟩
theorem fn76 (f kind size : Int) (b : List UInt8) (hlen : b.length ≤ 9223372036854775807) (d : Bool) (hIs : CallOK false Tryd.prog 72 [.str b] (.bool d)) :
    CallOK false Tryd.prog 76 [.agg [.int .i64 f, .int .i64 kind, .int .i64 size], .str b] (.bool (signsOf kind d b)) := by
  refine .inl ⟨rfl, ⟨_, Tryd.func76, by kernel_rfl, by kernel_rfl⟩, fun w pr us hpr hgl ha => ?_⟩
  obtain ⟨u1, us1, rfl, h1, h2⟩ : ∃ u1 us1, us = u1 :: us1 ∧ PV w pr (.agg [.int .i64 f, .int .i64 kind, .int .i64 size]) u1 ∧ All2 (PV w pr) [.str b] us1 := by
    cases us with
    | nil => exact ha.elim
    | cons u us => exact ⟨u, us, rfl, ha.1, ha.2⟩
  obtain ⟨u2, us2, rfl, h3, h4⟩ : ∃ u1 us', us1 = u1 :: us' ∧ PV w pr (.str b) u1 ∧ All2 (PV w pr) [] us' := by
    cases us1 with
    | nil => exact h2.elim
    | cons u us => exact ⟨u, us, rfl, h2.1, h2.2⟩
  have e1 : u1 = .agg #[.int .i64 f, .int .i64 kind, .int .i64 size] := by
    rcases h1 with h | ⟨cs, vs, hc, hv, hr⟩
    · exact h.elim
    · cases hc
      match vs, hr with
      | [a, b, c], ⟨p, q, r, _⟩ => rw [hv, show a = _ from p, show b = _ from q, show c = _ from r]
  have e2 : u2 = strV b := by rcases h3 with h | ⟨_, _, h, _⟩ <;> first | exact h | cases h
  have e3 : us2 = [] := by cases us2 with | nil => rfl | cons _ _ => exact h4.elim
  subst e1 e2 e3
  have hIs' : ∀ w1 : World, Below w.heap.size w w1 → Calls Tryd.prog 72 #[strV b] w1 fun e w' => e = .returned (.bool d) ∧ Below w1.heap.size w1 w' := by
    intro w1 hb1
    rcases hIs with ⟨_, hIs⟩ | ⟨_, _, _, _, _, e, _⟩ | ⟨_, _, _, _, _, e, _⟩
    case inr.inl => cases e
    case inr.inr => cases e
    refine (hIs.2 w1 pr [strV b] (fun k o h => Nat.lt_of_lt_of_le (hpr k o h) hb1.size) (hgl.keeps fun k o p => ⟨p, cell_heap (hb1.block k (hpr k o p)) o⟩) ⟨.inl rfl, trivial⟩).mono ?_
    rintro e w' ⟨r, pr', rfl, hb, _, _, hr⟩
    obtain ⟨bb, hr⟩ := hr
    refine ⟨?_, hb.toBelow⟩
    rcases hr.1 with h1 | ⟨_, _, h1, _⟩
    · rw [show r = .bool d from h1]
    · cases h1
  have := signs_in 10 (by omega) f kind size ⟨b.toArray⟩ (by simpa [ByteArray.size] using hlen) d w hIs'
  refine (callsIn_wide.1 this).mono ?_
  rintro e W' ⟨rfl, hb⟩
  exact ⟨_, pr, rfl, .of0 hb, fun _ _ _ => Iff.rfl, fun k o h => Nat.lt_of_lt_of_le (hpr k o h) hb.size, none, .inl rfl, rfl⟩
end Go.Proofs.YtcgnmecbdleehaaDoor.Signs
end
section
set_option linter.unusedVariables false
set_option linter.unusedSimpArgs false
namespace Go.Proofs.YtcgnmecbdleehaaDoor.Grow114
open Go Go.RowKit Go.Shelf Go.Lib Go.Proofs Go.Proofs.YtcgnmecbdleehaaDoor Th
def Post (n : Nat) (z : Value) (w : World) (e : Ending) (w' : World) : Prop := (n = 0 ∧ e = .returned (.slice none 0 0) ∧ w' = w) ∨
      (0 < n ∧ ∃ G us, e = .returned (.slice (some ⟨w.heap.size, 0, none⟩) 0 G) ∧ w' = w.drew.alloc (.cells us 5) ∧ us = Builtin.zeroCells z.cells n ++ Builtin.zeroCells z.cells (G - n) ∧ n ≤ G)
set_option maxHeartbeats 4000000 in
set_option maxRecDepth 100000 in
theorem walk (i0 : TypeInfo) (z : Value) (hi0 : Tryd.prog.info? 5 = some i0) (hz0 : i0.zero = some z) (hs0 : 0 < i0.size) (n : Nat) (w : World) (hbig : n * i0.bytes ≤ 140737488355328) (h63 : n ≤ 4611686018427387904) :
    Calls Tryd.prog 114 #[.slice none 0 0, .int .i64 n] w (Post n z w) := by
  by_cases hn : n = 0
  · subst hn
    go_enter Tryd.func114, Tryd.ntmps114
    go_wp2
    go_ret
    exact .inl ⟨rfl, rfl, rfl⟩
  have hts : Tryd.prog.underlying 59 = some (.slice 5) := by kernel_rfl
  have hti : Tryd.prog.underlying 3 = some (.int .i64) := by kernel_rfl
  have h1 : ¬ ((n : Int) < 0) := by omega
  have h4 : (n : Int) > 0 := by omega
  have hold : (Builtin.firstCells i0.size 0 (.slice none 0 0)).run Tryd.prog w.drew = .ok ([] : List Value).toArray w.drew := run_firstCells_none w.drew i0.size 0 0 0
  have hrz : ∀ ty, (Builtin.append_ #[59, 3] ty #[.slice none 0 0, .int .i64 (n : Int)]).run Tryd.prog w =
      .ok (.slice (some ⟨w.heap.size, 0, none⟩) n (grownCap w n 0 5)) (w.drew.alloc (.cells (([] : List Value).toArray ++ Builtin.zeroCells z.cells n ++ Builtin.zeroCells z.cells (grownCap w n 0 5 - n)) 5)) := fun ty => by
    have h := Lib.run_append_grow_zeros w 59 3 ty 5 i0 z .i64 .i64 hts hti hi0 hz0 none 0 0 [] hold n (by omega) hs0 (by omega) (by omega) (by omega) (by rw [Nat.zero_add]; exact growslice_fits (by omega) hbig)
    rw [Nat.zero_add] at h
    exact h
  have hGn : n ≤ grownCap w n 0 5 := grownCap_ge w _ _ _
  obtain ⟨G, hG⟩ : ∃ G, G = grownCap w n 0 5 := ⟨_, rfl⟩
  rw [← hG] at hrz hGn
  obtain ⟨ROW, hROW⟩ : ∃ ROW : Array Value, ROW = ([] : List Value).toArray ++ Builtin.zeroCells z.cells n ++ Builtin.zeroCells z.cells (G - n) := ⟨_, rfl⟩
  rw [← hROW] at hrz
  have hpost : Post n z w (.returned (.slice (some ⟨w.heap.size, 0, none⟩) 0 G)) (w.drew.alloc (.cells ROW 5)) := .inr ⟨by omega, G, _, rfl, rfl, by rw [hROW]; simp, hGn⟩
  clear hROW
  have hG63 : G ≤ 9223372036854775807 := by
    have := grownCap_le_maxLen w n 0 5 (by unfold maxLen; omega)
    rw [← hG] at this
    unfold maxLen at this
    omega
  have hw : IntKind.i64.wrap (n : Int) = (n : Int) := by rw [IntKind.wrap_i64]; omega
  clear hold hG
  go_enter Tryd.func114, Tryd.ntmps114
  go_wp2_with (at_builtin; refine Lib.wpList_append_run _ rfl _ _ _ _ rfl _ _ rfl rfl _ _ (hrz _) ?_)
  all_goals (go_ret; exact hpost)
theorem calls {ei : TInfo} {d : TypeDesc} {i0 : TypeInfo} {z : Value} (E : TypeIs Tryd.prog 5 ei i0 d z) (hs0 : 0 < ei.size) (n : Int) (h0 : 0 ≤ n) (hbig : n * (ei.bytes : Int) ≤ 140737488355328) (h63 : n ≤ 4611686018427387904) :
    CallOK false Tryd.prog 114 [.nilsl, .int .i64 n] (.own ei.ty []) := by
  refine .inl ⟨rfl, ⟨_, Tryd.func114, rfl, rfl⟩, fun w pr us hlt hgl ha => ?_⟩
  obtain ⟨u1, u2, rfl⟩ : ∃ u1 u2, us = [u1, u2] := by
    have := ha.len
    match us, this with
    | [u1, u2], _ => exact ⟨u1, u2, rfl⟩
  obtain ⟨p1, p2, _⟩ := ha
  have e1 : u1 = .slice none 0 0 := by
    rcases p1 with h | ⟨cs, us, h, _⟩
    · exact h
    · cases h
  have e2 : u2 = .int .i64 n := by
    rcases p2 with h | ⟨cs, us, h, _⟩
    · exact h
    · cases h
  subst e1 e2
  obtain ⟨m, rfl⟩ : ∃ m : Nat, n = m := ⟨n.toNat, by omega⟩
  have hzsz : z.cells.size = ei.size := by have := (z0s_LR (w := w) (g := ⟨fun _ _ => False, fun _ => none, fun _ => none⟩) E.zrel).len; have := E.zlen; simp at *; omega
  refine (walk i0 z E.info E.zero (by rw [E.size]; exact hs0) m w (by rw [E.bytes]; have : ((m * ei.bytes : Nat) : Int) ≤ 140737488355328 := by rw [Int.natCast_mul]; exact hbig
                                                                      omega) (by omega)).mono ?_
  rintro e w' (⟨rfl, rfl, rfl⟩ | ⟨hm, G, us, rfl, rfl, rfl, hG⟩)
  · exact ⟨_, pr, rfl, .of0 (Below.refl _ _), fun _ _ _ => Iff.rfl, hlt, none, ⟨.slice none 0 0, none, ei.ty.size⟩, ⟨rfl, .inl ⟨rfl, rfl, rfl⟩⟩, rfl, rfl, fun k hk => by cases hk⟩
  · refine ⟨_, pr, rfl, .of0 (((Below.refl _ w).drew).alloc (Nat.le_refl _) _), fun _ _ _ => Iff.rfl, fun k o p => ?_, some w.heap.size, ⟨.slice (some ⟨w.heap.size, 0, none⟩) 0 G, some w.heap.size, ei.ty.size⟩,
      ⟨rfl, .inr ⟨w.heap.size, G, rfl, rfl, ?_⟩⟩, rfl, rfl, fun k hk => ?_⟩
    · have h1 : (w.drew.alloc (.cells (Builtin.zeroCells z.cells m ++ Builtin.zeroCells z.cells (G - m)) 5)).heap.size = w.heap.size + 1 := by show (w.heap.push _).size = _; simp
      rw [h1]; have := hlt k o p; omega
    · refine ⟨bd0_mine.2 (Nat.le_refl _), Nat.zero_le _, ⟨_, 5, (0, 0), alloc_new w.drew _, thawT0 _ _ _, ?_, fun j x hj => by simp at hj⟩, fun o p => absurd (hlt _ _ p) (by omega), fun h => (by cases h), fun _ o p => absurd (hlt _ _ p) (by omega)⟩
      rw [E.tysz]
      simp only [Array.size_append, size_zeroCells, hzsz]
      rw [← Nat.add_mul]
      exact Nat.mul_le_mul_right _ (by omega)
    · cases hk; show _ < (w.heap.push _).size; simp
end Go.Proofs.YtcgnmecbdleehaaDoor.Grow114
end
section
set_option linter.unusedVariables false
set_option linter.unusedSimpArgs false
namespace Go.Proofs.YtcgnmecbdleehaaDoor.FrameP
open Go Go.RowKit Go.Shelf Go.Lib Go.Proofs Go.Proofs.YtcgnmecbdleehaaDoor Th
def hdr (n : Nat) : List Value := [.int .u8 (n / 256 % 256 : Nat), .int .u8 (n % 256 : Nat)]
def Post (n : Nat) (cs : List Value) (w : World) (e : Ending) (w' : World) : Prop :=
  (n = 0 ∧ e = .returned (.tuple #[.slice none 0 0, .int .i64 2]) ∧ w' = w) ∨
  (2048 < n ∧ e = .returned (.tuple #[.slice none 0 0, .int .i64 4]) ∧ w' = w) ∨
  (0 < n ∧ n ≤ 2048 ∧ e = .returned (.tuple #[.slice (some ⟨w.heap.size, 0, none⟩) (n + 2) (n + 2), .int .i64 0]) ∧ Below w.heap.size w w' ∧ w'.heap[w.heap.size]? = some (.cells (hdr n ++ cs).toArray 5 (0, 0)))
theorem wpList_make_run {P : Program} (w : World) {ops : Array Oper} {rest : List Oper} {o : Oper} {a : Act} {Q : Exit → Act → World → Prop} (hg : o.guard = none) (l c : Operand) (t : TypeId) (hop : o.op = Op.makeSlice t l c)
    (vl vc : Value) (hl : a.eval l = vl) (hc : a.eval c = vc) (v : Value) (w' : World) (hrun : (Instr.makeSlice t vl vc).run P w = .ok v w') (h : wpList P ops Q rest (a.put o.dst v) w') : wpList P ops Q (o :: rest) a w := by
  refine wpList_plain hg fun K hK' => ?_
  unfold Oper.wp
  simp [execOp, hop, hl, hc, hrun, Result.andThen]
  exact hK' _ _ h
theorem wpList_copy_run {P : Program} (w : World) {ops : Array Oper} {rest : List Oper} {o : Oper} {a : Act} {Q : Exit → Act → World → Prop} (hg : o.guard = none) (x y : Operand) (t u : TypeId) (hop : o.op = .call { callee := .builtin .copy, args := #[x, y], argTypes := #[t, u] })
    (vx vy : Value) (hx : a.eval x = vx) (hy : a.eval y = vy) (v : Value) (w' : World) (hrun : (Builtin.copy_ #[t, u] o.type #[vx, vy]).run P w = .ok v w') (h : wpList P ops Q rest (a.put o.dst v) w') : wpList P ops Q (o :: rest) a w := by
  refine wpList_plain hg fun K hK' => ?_
  unfold Oper.wp
  simp [execOp, hop, resolve, invoke, builtin, hx, hy, hrun, Result.andThen]
  exact hK' _ _ h
theorem cell_below {B : Nat} {w w' : World} (h : Below B w w') {a : Addr} (ha : a.block < B) : w'.cell? a = w.cell? a := by
  have := h.block a.block ha
  simp only [World.cell?, this]
theorem made_list (v : Value) (n : Nat) (z : Array Value) (hz : z = #[v]) : madeCells z n = (List.replicate n v).toArray := by
  subst hz
  apply Array.ext
  · rw [size_madeCells]; simp
  · intro i h1 h2
    simp [madeCells, Nat.mod_one]
set_option maxHeartbeats 4000000 in
set_option maxRecDepth 100000 in
theorem walk (ad : Option Addr) (n c : Nat) (cs : List Value) (hn : cs.length = n) (w : World) (hsrc : 0 < n → ∃ a, ad = some a ∧ ∀ j v, cs[j]? = some v → (a.add j).block < w.heap.size ∧ w.cell? (a.add j) = some v) (h1 : ∀ v ∈ cs, v.oneCell' = true) :
    Calls Tryd.prog 55 #[.slice ad n c] w (Post n cs w) := by
  by_cases hz : n = 0
  · subst hz
    go_enter Tryd.func55, Tryd.ntmps55
    go_wp2
    all_goals (go_ret2; exact .inl ⟨rfl, rfl, rfl⟩)
  have q0 : ¬ ((n : Int) = 0) := by omega
  by_cases hbig : 2048 < n
  · have q1 : (n : Int) > 2048 := by omega
    go_enter Tryd.func55, Tryd.ntmps55
    go_wp2
    all_goals (go_ret2; exact .inr (.inl ⟨hbig, rfl, rfl⟩))
  have q1 : ¬ ((n : Int) > 2048) := by omega
  have hts : Tryd.prog.underlying 59 = some (.slice 5) := by kernel_rfl
  have hti : (Tryd.prog.info? 5).map (fun i => (i.zero, i.size, i.bytes)) = some (some (.int .u8 0), 1, 1) := by kernel_rfl
  obtain ⟨i0, hi0, hz0, hs0, hb0⟩ := info_parts hti
  obtain ⟨W1, hmk, hB1, hr1⟩ : ∃ W1, (Instr.makeSlice 59 (.int .i64 (2 + (n : Int))) (.int .i64 (2 + (n : Int)))).run Tryd.prog w = .ok (.slice (some ⟨w.heap.size, 0, none⟩) (n + 2) (n + 2)) W1 ∧ Below w.heap.size w W1 ∧
      W1.heap[w.heap.size]? = some (.cells (List.replicate (n + 2) (Value.int .u8 0)).toArray 5 (0, 0)) := by
    have h := run_make (P := Tryd.prog) w 59 5 i0 _ hts hi0 hz0 .i64 .i64 (2 + (n : Int)) (2 + (n : Int)) (by omega) (by omega) (by rw [hb0]; omega) (by omega)
    have e : (2 + (n : Int)).toNat = n + 2 := by omega
    rw [e, hs0] at h
    refine ⟨_, h, (Below.refl _ _).alloc (Nat.le_refl _) _, ?_⟩
    rw [made_list (.int .u8 0) _ (Value.int .u8 0).cells rfl, Nat.mul_one]
    exact Array.getElem?_push_size
  have hw : IntKind.i64.wrap (2 + (n : Int)) = 2 + (n : Int) := by rw [IntKind.wrap_i64]; omega
  have hc0 : W1.cell? ⟨w.heap.size, 0, none⟩ = some (.int .u8 0) := by simp [World.cell?, hr1, List.replicate_succ]
  have hf0 : W1.frozen? ⟨w.heap.size, 0, none⟩ = false := frozen_of_row _ _ _ _ _ hr1
  have hr2 := fun v => heap_setCell_same W1 w.heap.size 0 _ 5 v hr1
  have hc1 : ∀ v, (W1.setCell ⟨w.heap.size, 0, none⟩ v).cell? ⟨w.heap.size, 1, none⟩ = some (.int .u8 0) := fun v => by simp [World.cell?, hr2 v, List.replicate_succ]
  have hf1 : ∀ v, (W1.setCell ⟨w.heap.size, 0, none⟩ v).frozen? ⟨w.heap.size, 1, none⟩ = false := fun v => frozen_of_row _ _ _ _ _ (hr2 v)
  have hr3 := fun v u => heap_setCell_same _ w.heap.size 1 _ 5 u (hr2 v)
  have hB3 : ∀ v u, Below w.heap.size w ((W1.setCell ⟨w.heap.size, 0, none⟩ v).setCell ⟨w.heap.size, 1, none⟩ u) := fun v u => (hB1.setCell (p := ⟨w.heap.size, 0, none⟩) (Nat.le_refl _) v).setCell (p := ⟨w.heap.size, 1, none⟩) (Nat.le_refl _) u
  obtain ⟨a, rfl, hsrc'⟩ := hsrc (by omega)
  obtain ⟨W3, hcp, hB4, hr4⟩ : ∃ W3, (Builtin.copy_ #[59, 59] 3 #[.slice (some ⟨w.heap.size, 2, none⟩) n n, .slice (some a) n c]).run Tryd.prog ((W1.setCell ⟨w.heap.size, 0, none⟩ (.int .u8 ((n : Int) / 256))).setCell ⟨w.heap.size, 1, none⟩ (.int .u8 ((n : Int) % 256))) = .ok (goInt n) W3 ∧
      Below w.heap.size w W3 ∧ W3.heap[w.heap.size]? = some (.cells (hdr n ++ cs).toArray 5 (0, 0)) := by
    have h := run_copy_row (P := Tryd.prog) _ 59 59 3 5 w.heap.size 2 n n a n c _ 5 cs hts (by rw [hi0]; simp [hs0]) (hr3 (.int .u8 ((n : Int) / 256)) (.int .u8 ((n : Int) % 256))) (by simp [hn])
      (fun j v hj => by rw [cell_below (hB3 _ _) (a := a.add j) (hsrc' j v hj).1]; exact (hsrc' j v hj).2) (by simp; omega) h1
    rw [hn] at h
    refine ⟨_, h, below_setRow (hB3 _ _) (Nat.le_refl _) _, ?_⟩
    have hl : ((List.replicate (n + 2) (Value.int .u8 0)).toArray.setIfInBounds 0 (.int .u8 ((n : Int) / 256))).setIfInBounds 1 (.int .u8 ((n : Int) % 256)) = (.int .u8 ((n : Int) / 256) :: .int .u8 ((n : Int) % 256) :: List.replicate n (Value.int .u8 0)).toArray := by
      rw [List.replicate_succ, List.replicate_succ]; rfl
    rw [setRow_heap _ _ _ _ 5 (0, 0) (hr3 _ _), hl]
    have e1 : (n : Int) / 256 = ((n / 256 % 256 : Nat) : Int) := by omega
    have e2 : (n : Int) % 256 = ((n % 256 : Nat) : Int) := by omega
    have e3 : List.drop (2 + n) (.int .u8 ((n : Int) / 256) :: .int .u8 ((n : Int) % 256) :: List.replicate n (Value.int .u8 0)) = [] := List.drop_eq_nil_of_le (by simp; omega)
    show some (Obj.cells (List.toArray (List.take 2 (.int .u8 ((n : Int) / 256) :: .int .u8 ((n : Int) % 256) :: List.replicate n (Value.int .u8 0)) ++ cs ++ List.drop (2 + n) (.int .u8 ((n : Int) / 256) :: .int .u8 ((n : Int) % 256) :: List.replicate n (Value.int .u8 0)))) 5 (0, 0)) = _
    rw [e3, List.append_nil, e1, e2]
    rfl
  go_enter Tryd.func55, Tryd.ntmps55
  go_wp2_with (first | (at_make; (refine wpList_make_run _ rfl _ _ _ rfl _ _ rfl rfl _ _ hmk ?_)) | (with_reducible refine wpList_copy_run _ rfl _ _ _ _ rfl _ _ rfl rfl _ _ hcp ?_))
  all_goals (go_ret2; exact .inr (.inr ⟨by omega, by omega, rfl, hB4, hr4⟩))
theorem two_of {μ : Bool} {B : Bd μ} {w : World} {pr : Nat → Nat → Prop} {a b : AV} {u v : Value} (h1 : OwnC B w pr a u none) (h2 : OwnC B w pr b v none) : ∀ (i : Nat) (x : AV) (y : Value) (c : Option Nat), [a, b][i]? = some x → [u, v][i]? = some y → [none, none][i]? = some c → OwnC B w pr x y c := by
  intro i x y c p q r
  match i with
  | 0 => cases p; cases q; cases r; exact h1
  | 1 => cases p; cases q; cases r; exact h2
  | i + 2 => simp at p
theorem none_two : ∀ (i j k : Nat), ([none, none] : List (Option Nat))[i]? = some (some k) → ([none, none] : List (Option Nat))[j]? = some (some k) → i = j := by
  intro i j k p
  match i with
  | 0 => cases p
  | 1 => cases p
  | i + 2 => simp at p
def putF (b : List Int) : List Int × Int := if b.length = 0 then ([], 2) else if 2048 < b.length then ([], 4) else (((b.length / 256 % 256 : Nat) : Int) :: ((b.length % 256 : Nat) : Int) :: b, 0)
theorem calls (b : List Int) (a : AV) (ha : a = .sl (.int .u8) b ∨ (a = .nilsl ∧ b = [])) : CallOK false Tryd.prog 55 [a] (.tup [.sl (.int .u8) (putF b).1, .int .i64 (putF b).2]) := by
  refine .inl ⟨rfl, ⟨_, Tryd.func55, rfl, rfl⟩, fun w pr us hlt hgl hal => ?_⟩
  obtain ⟨u1, rfl⟩ : ∃ u1, us = [u1] := by
    have := hal.len
    match us, this with
    | [u1], _ => exact ⟨u1, rfl⟩
  obtain ⟨p1, _⟩ := hal
  have hTR : TR w pr (.slice (.int .u8)) b [u1] := by
    rcases ha with rfl | ⟨rfl, rfl⟩
    · rcases p1 with h | ⟨cs, us, h, _⟩
      · exact h
      · cases h
    · have e : u1 = .slice none 0 0 := by
        rcases p1 with h | ⟨cs, us, h, _⟩
        · exact h
        · cases h
      rw [e]; exact TR_nilsl _ _ _
  obtain ⟨ad, c, e, hcap, hel⟩ := hTR
  cases e
  have hget : ∀ (j : Nat) (v : Value), (b.map (Value.int .u8))[j]? = some v → ∃ x, b[j]? = some x ∧ v = .int .u8 x := fun j v hj => by
    rw [List.getElem?_map] at hj
    cases hx : b[j]? with
    | none => rw [hx] at hj; cases hj
    | some x => rw [hx] at hj; exact ⟨x, rfl, by cases hj; rfl⟩
  refine (walk ad b.length c (b.map (Value.int .u8)) (by simp) w (fun h0 => ?_) (fun v hv => ?_)).mono ?_
  · obtain ⟨a0, vs0, ea, _⟩ := hel 0 b[0] (List.getElem?_eq_getElem h0)
    refine ⟨a0, ea, fun j v hj => ?_⟩
    obtain ⟨x, hx, rfl⟩ := hget j v hj
    obtain ⟨a1, vs1, ea1, hl1, hc1, hv1⟩ := hel j x hx
    rw [ea] at ea1
    cases ea1
    have hv1 : vs1 = [.int .u8 x] := hv1
    have := hc1 0 (.int .u8 x) (by rw [hv1]; rfl)
    rw [Nat.add_zero, show (Ty.int .u8).size = 1 from rfl, Nat.mul_one] at this
    exact ⟨hlt _ _ this.2, this.1⟩
  · obtain ⟨x, _, rfl⟩ := List.mem_map.1 hv
    rfl
  rintro e w' (⟨h0, rfl, rfl⟩ | ⟨h0, rfl, rfl⟩ | ⟨h0, h1, rfl, hB, hr⟩)
  · have ep : putF b = ([], 2) := by unfold putF; rw [if_pos h0]
    rw [ep]
    exact ⟨_, pr, rfl, .of0 (Below.refl _ _), fun _ _ _ => Iff.rfl, hlt, [.slice none 0 0, .int .i64 2], [none, none], rfl, rfl, rfl, two_of ⟨.inl (TR_nilsl _ _ _), rfl⟩ ⟨.inl rfl, rfl⟩, none_two⟩
  · have ep : putF b = ([], 4) := by unfold putF; rw [if_neg (by omega), if_pos h0]
    rw [ep]
    exact ⟨_, pr, rfl, .of0 (Below.refl _ _), fun _ _ _ => Iff.rfl, hlt, [.slice none 0 0, .int .i64 4], [none, none], rfl, rfl, rfl, two_of ⟨.inl (TR_nilsl _ _ _), rfl⟩ ⟨.inl rfl, rfl⟩, none_two⟩
  · have ep : putF b = (((b.length / 256 % 256 : Nat) : Int) :: ((b.length % 256 : Nat) : Int) :: b, 0) := by unfold putF; rw [if_neg (by omega), if_neg (by omega)]
    have hs' : w.heap.size < w'.heap.size := (Array.getElem?_eq_some_iff.1 hr).1
    rw [ep]
    refine ⟨_, fun k o => pr k o ∨ k = w.heap.size, rfl, .of0 hB, fun k o hk => ⟨fun h => h.elim id fun h => absurd h (by omega), .inl⟩, fun k o h => h.elim (fun h => Nat.lt_of_lt_of_le (hlt _ _ h) hB.size) fun h => by omega,
      [.slice (some ⟨w.heap.size, 0, none⟩) (b.length + 2) (b.length + 2), .int .i64 0], [none, none], rfl, rfl, rfl, two_of ⟨.inl ⟨some ⟨w.heap.size, 0, none⟩, b.length + 2, rfl, ⟨Nat.le_refl _, fun h => by cases h⟩, fun j x hj => ?_⟩, rfl⟩ ⟨.inl rfl, rfl⟩, none_two⟩
    refine ⟨_, [.int .u8 x], rfl, rfl, fun i v hi => ?_, rfl⟩
    match i, hi with
    | 0, hi =>
      cases hi
      rw [Nat.add_zero, show (Ty.int .u8).size = 1 from rfl, Nat.mul_one]
      refine ⟨?_, .inr (by rw [addr_add])⟩
      have e : (hdr b.length ++ b.map (Value.int .u8)) = (((b.length / 256 % 256 : Nat) : Int) :: ((b.length % 256 : Nat) : Int) :: b).map (Value.int .u8) := rfl
      have hj' : (((b.length / 256 % 256 : Nat) : Int) :: ((b.length % 256 : Nat) : Int) :: b)[j]? = some x := hj
      rw [addr_add, Nat.zero_add, cell_of hr, List.getElem?_toArray, e, List.getElem?_map, hj']
      rfl
end Go.Proofs.YtcgnmecbdleehaaDoor.FrameP
end
section
set_option linter.unusedVariables false
set_option linter.unusedSimpArgs false
namespace Go.Proofs.YtcgnmecbdleehaaDoor.Ins68
open Go Go.RowKit Go.Shelf Go.Lib Go.Proofs Go.Proofs.YtcgnmecbdleehaaDoor Th
theorem run_cpy {P : Program} (w : World) (t ty e : TypeId) (i : TypeInfo) (ht : P.underlying t = some (.slice e)) (hi : P.info? e = some i) {b : Nat} {us : Array Value} {e0 : TypeId} {fr : Nat × Nat} (hr : w.heap[b]? = some (.cells us e0 fr)) (hth : Thawed fr us.size)
    (o dLen dCap : Nat) (a : Addr) (sLen sCap : Nat) (cs : List Value) (hn : cs.length = Nat.min sLen dLen * i.size) (hsrc : ∀ j v, cs[j]? = some v → w.cell? (a.add j) = some v) (h1 : ∀ v ∈ cs, v.oneCell' = true) (hfit : o + cs.length ≤ us.size) :
    (Builtin.copy_ #[t, t] ty #[.slice (some ⟨b, o, none⟩) dLen dCap, .slice (some a) sLen sCap]).run P w = .ok (goInt (Nat.min sLen dLen)) (w.setRow b (over us.toList o cs).toArray) := by
  have hfc := run_firstCells_some (P := P) w i.size (Nat.min sLen dLen) a sLen sCap cs hn hsrc
  have hst := run_storeRow (P := P) cs o 0 w us hr hth (by simpa using hfit) h1
  simp only [Nat.add_zero] at hst
  simp [Builtin.copy_, run_underlying ht, sizeOf, typeInfo, hi, Builtin.lenOf, hfc, hst]
theorem run_ovl {P : Program} (w : World) (tS tR e : TypeId) (ht : P.underlying tS = some (.slice e)) (size : Nat) (hz : ∀ w, (Go.sizeOf e).run P w = .ok size w)
    (a b : Addr) (la ca lb cb : Nat) (hne : a.block ≠ b.block) (tA tB : TypeId) (kA kB : Nat) (hsa : w.shape? a.block = some (tA, kA)) (hsb : w.shape? b.block = some (tB, kB)) (hkA : kA ≠ 0) (hkB : kB ≠ 0)
    (hfb : w.frozen? b = false) (hfe : w.frozen? { block := b.block, off := kB } = false) :
    (Extern.SlicesOverlaps.overlaps #[tS, tS] #[tR] #[.slice (some a) la ca, .slice (some b) lb cb]).run P w = .ok (.bool false) w := by
  have hnb : (a.block != b.block) = true := by simpa using hne
  have hnb' : (a.block == b.block) = false := by simpa using hne
  change Sem.run P (α := Value) (do
    let some t := (#[tS, tS] : Array TypeId)[0]? | stuck "slices.overlaps: no parameter types"
    let .slice elem ← underlying t | stuck "slices.overlaps: slice type expected"
    let size ← sizeOf elem
    match (some a : Option Addr), (some b : Option Addr) with
    | some a, some b =>
      if la = 0 ∨ lb = 0 ∨ size = 0 then pure (Value.bool false)
      else if a.block != b.block && (← frozen a) && (← frozen b) then unsupported .addressObserved
      else do
        if a.block != b.block then do
          noView a; noView b
          if ← mayBeOne a b then return Value.bool ((← choose (.extern "sameAddr.stringBytes" 2)) == 1)
        pure (Value.bool (a.block == b.block && a.off < b.off + lb * size && b.off < a.off + la * size))
    | _, _ => pure (Value.bool false)) w = _
  by_cases h0 : la = 0 ∨ lb = 0 ∨ size = 0
  · simp [run_underlying ht, hz, h0]
  · cases kB with
    | zero => exact absurd rfl hkB
    | succ kB =>
      cases kA with
      | zero => exact absurd rfl hkA
      | succ kA =>
        cases hfa : w.frozen? a <;> cases hfd : w.frozen? { block := a.block, off := kA + 1 } <;> simp [run_underlying ht, hz, h0, hnb, hnb', frozen, noView, viewAt, mayBeOne, stringish, shape, Sem.run, hsa, hsb, hfb, hfe, hfa, hfd]
theorem step_copy_run {P : Program} {ops : Array Oper} {o : Oper} {a : Act} {w : World} {K : Act → World → Prop} {Q : Exit → Act → World → Prop} {E : Prop}
    (hg : o.guard = none) (d x : Operand) (dT sT : TypeId) (hop : o.op = Op.call { callee := Callee.builtin Builtin.copy, args := #[d, x], argTypes := #[dT, sT] })
    (v u : Value) (hd : a.eval d = v) (hx : a.eval x = u) {v' : Value} {w' : World} (hr : (Builtin.copy_ #[dT, sT] o.type #[v, u]).run P w = .ok v' w') (hK : K (a.put o.dst v') w') :
    if Region.wanted o (yielded ops a.tmps) = true then Oper.wp P o a w K Q else E := by
  have hw : Region.wanted o (yielded ops a.tmps) = true := by simp [Region.wanted, hg]
  rw [if_pos hw]
  unfold Oper.wp
  simp [execOp, hop, resolve, invoke, builtin, hd, hx, hr, Result.andThen]
  exact hK
theorem wpList_cpy_run {P : Program} (w : World) {ops : Array Oper} {rest : List Oper} {o : Oper} {a : Act} {Q : Exit → Act → World → Prop} (hg : o.guard = none) (x y : Operand) (t u : TypeId) (hop : o.op = .call { callee := .builtin .copy, args := #[x, y], argTypes := #[t, u] })
    (vx vy : Value) (hx : a.eval x = vx) (hy : a.eval y = vy) (v : Value) (w' : World) (hrun : (Builtin.copy_ #[t, u] o.type #[vx, vy]).run P w = .ok v w') (h : wpList P ops Q rest (a.put o.dst v) w') : wpList P ops Q (o :: rest) a w := by
  refine wpList_plain hg fun K hK' => ?_
  unfold Oper.wp
  simp [execOp, hop, resolve, invoke, builtin, hx, hy, hrun, Result.andThen]
  exact hK' _ _ h
structure Arg (w : World) (a : Addr) (vs : List Value) : Prop where
  cells : ∀ t v, vs[t]? = some v → w.cell? (a.add t) = some v
  len : vs.length = 8
  one : ∀ v ∈ vs, v.oneCell' = true
  lt : a.block < w.heap.size
structure More (us us' : Array Value) (vs : List Value) (i n : Nat) : Prop where
  pre : ∀ x, x < i * 8 → us'[x]? = us[x]?
  at_ : ∀ t v, vs[t]? = some v → us'[i * 8 + t]? = some v
  post : ∀ x, x < (n - i) * 8 → us'[(i + 1) * 8 + x]? = us[i * 8 + x]?
theorem arg_shape {w : World} {a : Addr} {vs : List Value} (h : Arg w a vs) : ∃ tA kA, w.shape? a.block = some (tA, kA) ∧ kA ≠ 0 := by
  have h0 : 0 < vs.length := by rw [h.len]; decide
  have hc : w.cell? a = some vs[0] := by simpa [Addr.add] using h.cells 0 vs[0] (List.getElem?_eq_getElem h0)
  clear h
  obtain ⟨k, o, sp⟩ := a
  simp only [World.cell?] at hc
  unfold World.shape?
  simp only []
  cases hh : w.heap[k]? with
  | none => rw [hh] at hc; cases hc
  | some ob =>
    rw [hh] at hc
    cases ob with
    | cells us e fr =>
      refine ⟨e, us.size, rfl, fun h0 => ?_⟩
      have : us = #[] := Array.eq_empty_of_size_eq_zero h0
      subst this
      simp at hc
    | _ => cases hc
section
variable {i0 : TypeInfo} {z : Value}
set_option maxHeartbeats 4000000 in
set_option maxRecDepth 100000 in
theorem walk_fit (hi0 : Tryd.prog.info? 37 = some i0) (hs0 : i0.size = 8) (b n cap : Nat) (us : Array Value) (e0 : TypeId) (w : World) (hr : w.heap[b]? = some (.cells us e0 (0, 0))) (hcap : n + 1 ≤ cap) (hus : cap * 8 ≤ us.size)
    (av : Addr) (vc : Nat) (vs : List Value) (hA : Arg w av vs) : Calls Tryd.prog 68 #[.slice (some ⟨b, 0, none⟩) n cap, .int .i64 n, .slice (some av) 1 vc] w fun e w' => e = .returned (.slice (some ⟨b, 0, none⟩) (n + 1) cap) ∧
      (∀ (μ : Bool) (B : Bd μ), B.mine b → BelowB B w w') ∧ ∃ us', w'.heap[b]? = some (.cells us' e0 (0, 0)) ∧ us'.size = us.size ∧ More us us' vs n n := by
  have hts : Tryd.prog.underlying 22 = some (.slice 37) := by kernel_rfl
  have mixed : Tryd.prog.follows .mixedOrders = true := rfl
  have hfit : n * 8 + vs.length ≤ us.toList.length := by rw [hA.len, Array.length_toList]; omega
  obtain ⟨us1, hus1⟩ : ∃ us1, us1 = (over us.toList (n * 8) vs).toArray := ⟨_, rfl⟩
  have hsz1 : us1.size = us.size := by rw [hus1, List.size_toArray, over_len hfit, Array.length_toList]
  obtain ⟨W1, hW1⟩ : ∃ W1, W1 = w.setRow b us1 := ⟨_, rfl⟩
  have happ : ∀ ty, (Builtin.append_ #[22, 22] ty #[.slice (some ⟨b, 0, none⟩) n cap, .slice (some av) 1 vc]).run Tryd.prog w = .ok (.slice (some ⟨b, 0, none⟩) (n + 1) cap) W1 := fun ty => by
    have hfc := run_firstCells_some (P := Tryd.prog) w i0.size 1 av 1 vc vs (by rw [hA.len, hs0]) hA.cells
    have hst := run_storeRow (P := Tryd.prog) vs (n * 8) 0 w us hr (thawed0 _) (by rw [Array.length_toList] at hfit; simpa using hfit) hA.one
    simp only [Nat.add_zero] at hst
    rw [hs0] at hfc
    rw [hW1, hus1]
    simp [Builtin.append_, run_underlying hts, sizeOf, typeInfo, hi0, hs0, Builtin.lenOf, hcap, hfc, Addr.add_lit, hst]
  have hr1 : W1.heap[b]? = some (.cells us1 e0 (0, 0)) := by rw [hW1]; exact setRow_heap w b us us1 e0 (0, 0) hr
  have hpost : Aside ((∀ (μ : Bool) (B : Bd μ), B.mine b → BelowB B w W1) ∧ ∃ us', W1.heap[b]? = some (.cells us' e0 (0, 0)) ∧ us'.size = us.size ∧ More us us' vs n n) := by
    refine ⟨fun μ B hB => by rw [hW1]; exact Th.below_setRow hB us1, us1, hr1, hsz1, ⟨fun x hx => ?_, fun t v hv => ?_, fun x hx => by omega⟩⟩
    · rw [hus1, List.getElem?_toArray, over_get hfit, if_pos hx, Array.getElem?_toList]
    · have ht := (List.getElem?_eq_some_iff.1 hv).1
      rw [hus1, List.getElem?_toArray, over_get hfit, if_neg (by omega), if_pos (by omega), show n * 8 + t - n * 8 = t by omega, hv]
  clear hr1 hW1 hus1 hfit hsz1 hr hA
  go_enter Tryd.func68, Tryd.ntmps68
  go_wp2_with (at_builtin; refine Lib.wpList_append_run _ rfl _ _ _ _ rfl _ _ rfl rfl _ _ (happ _) ?_)
  all_goals (go_ret; exact ⟨rfl, hpost⟩)
set_option maxHeartbeats 4000000 in
set_option maxRecDepth 100000 in
theorem walk_new {ei : TInfo} {d : TypeDesc} (E : TypeIs Tryd.prog 37 ei i0 d z) (hsz : ei.size = 8) (hby : 0 < ei.bytes) (ad : Option Addr) (n cap : Nat) (had : (ad = none ∧ n = 0 ∧ cap = 0) ∨ ∃ b, ad = some ⟨b, 0, none⟩) (olds : List Value) (w : World)
    (hold : ∀ w' : World, w'.heap = w.heap → (Builtin.firstCells ei.size n (.slice ad n cap)).run Tryd.prog w' = .ok olds.toArray w') (hol : olds.length = n * 8) (hnc : n ≤ cap) (hg : ¬ n + 1 ≤ cap) (hb : (n + 1) * ei.bytes ≤ 140737488355328)
    (av : Addr) (vc : Nat) (vs : List Value) (hA : Arg w av vs) : Calls Tryd.prog 68 #[.slice ad n cap, .int .i64 n, .slice (some av) 1 vc] w fun e w' => ∃ G us', e = .returned (.slice (some ⟨w.heap.size, 0, none⟩) (n + 1) G) ∧
      Below w.heap.size w w' ∧ n + 1 ≤ G ∧ w'.heap[w.heap.size]? = some (.cells us' 37 (0, 0)) ∧ G * 8 ≤ us'.size ∧ More olds.toArray us' vs n n := by
  have hts : Tryd.prog.underlying 22 = some (.slice 37) := by kernel_rfl
  have mixed : Tryd.prog.follows .mixedOrders = true := rfl
  have hS : Th.Src Tryd.prog w 22 (.slice (some av) 1 vc) ei.size 1 vs := ⟨⟨_, hts, fun k h => by cases h⟩, fun w' => by simp [Builtin.lenOf], fun w' hw' => run_firstCells_some w' ei.size 1 av 1 vc vs (by rw [hA.len, hsz]) (fun j v hj => by rw [cell_same_heap hw']; exact hA.cells j v hj), by rw [hA.len, hsz], hA.one⟩
  have happ := fun ty => Th.run_append_new (ty := ty) E hts hS hold hg hb hby
  obtain ⟨G, hG⟩ : ∃ G, G = grownCap w (n + 1) cap 37 := ⟨_, rfl⟩
  have hGn : n + 1 ≤ G := by rw [hG]; exact grownCap_ge w _ _ _
  obtain ⟨us1, hus1⟩ : ∃ us1, us1 = olds.toArray ++ vs.toArray ++ Builtin.zeroCells z.cells (G - (n + 1)) := ⟨_, rfl⟩
  rw [← hG, ← hus1] at happ
  have hzsz : z.cells.size = 8 := by have := (z0s_LR (w := w) (g := ⟨fun _ _ => False, fun _ => none, fun _ => none⟩) E.zrel).len; have := E.zlen; simp at *; omega
  obtain ⟨W1, hW1⟩ : ∃ W1, W1 = w.drew.alloc (.cells us1 37) := ⟨_, rfl⟩
  rw [← hW1] at happ
  have hpost : Aside (∃ G' us', Ending.returned (.slice (some ⟨w.heap.size, 0, none⟩) (n + 1) G) = .returned (.slice (some ⟨w.heap.size, 0, none⟩) (n + 1) G') ∧ Below w.heap.size w W1 ∧ n + 1 ≤ G' ∧ W1.heap[w.heap.size]? = some (.cells us' 37 (0, 0)) ∧ G' * 8 ≤ us'.size ∧ More olds.toArray us' vs n n) := by
    refine ⟨G, us1, rfl, ?_, hGn, ?_, ?_, ⟨fun x hx => ?_, fun t v hv => ?_, fun x hx => by omega⟩⟩
    · rw [hW1]; exact ((Below.refl _ w).drew).alloc (Nat.le_refl _) _
    · rw [hW1]; exact alloc_new w.drew _
    · rw [hus1, Array.size_append, Array.size_append, size_zeroCells, hzsz, List.size_toArray, List.size_toArray, hol, hA.len]; omega
    · rw [hus1, Array.getElem?_append_left (by rw [Array.size_append, List.size_toArray, List.size_toArray]; omega), Array.getElem?_append_left (by rw [List.size_toArray]; omega)]
    · have ht := (List.getElem?_eq_some_iff.1 hv).1
      rw [hus1, Array.getElem?_append_left (by rw [Array.size_append, List.size_toArray, List.size_toArray]; omega), Array.getElem?_append_right (by rw [List.size_toArray]; omega), List.size_toArray, hol, show n * 8 + t - n * 8 = t by omega, List.getElem?_toArray, hv]
  clear hW1 hus1 hG hold hS
  rcases had with ⟨rfl, rfl, rfl⟩ | ⟨b, rfl⟩
  · clear hA
    go_enter Tryd.func68, Tryd.ntmps68
    go_wp2_with (at_builtin; refine Lib.wpList_append_run _ rfl _ _ _ _ rfl _ _ rfl rfl _ _ (happ _) ?_)
    all_goals (go_ret; exact hpost)
  · clear hA
    go_enter Tryd.func68, Tryd.ntmps68
    go_wp2_with (at_builtin; refine Lib.wpList_append_run _ rfl _ _ _ _ rfl _ _ rfl rfl _ _ (happ _) ?_)
    all_goals (go_ret; exact hpost)
set_option maxHeartbeats 4000000 in
set_option maxRecDepth 100000 in
theorem walk_shift (hi0 : Tryd.prog.info? 37 = some i0) (hs0 : i0.size = 8) (b n cap i : Nat) (us : Array Value) (e0 : TypeId) (w : World) (hr : w.heap[b]? = some (.cells us e0 (0, 0))) (hin : i < n) (hcap : n + 1 ≤ cap) (hus : cap * 8 ≤ us.size) (hn9 : n ≤ 1000000) (h1 : ∀ x v, x < n * 8 → us[x]? = some v → v.oneCell' = true)
    (av : Addr) (vc : Nat) (vs : List Value) (hA : Arg w av vs) (hne : av.block ≠ b) : Calls Tryd.prog 68 #[.slice (some ⟨b, 0, none⟩) n cap, .int .i64 i, .slice (some av) 1 vc] w fun e w' => e = .returned (.slice (some ⟨b, 0, none⟩) (n + 1) cap) ∧
      (∀ (μ : Bool) (B : Bd μ), B.mine b → BelowB B w w') ∧ ∃ us', w'.heap[b]? = some (.cells us' e0 (0, 0)) ∧ us'.size = us.size ∧ More us us' vs i n := by
  have hts : Tryd.prog.underlying 22 = some (.slice 37) := by kernel_rfl
  have mixed : Tryd.prog.follows .mixedOrders = true := rfl
  have hnz : (n + 1) * 8 ≤ us.size := Nat.le_trans (Nat.mul_le_mul_right _ hcap) hus
  obtain ⟨tA, kA, hsA, hkA⟩ := arg_shape hA
  have hsB : w.shape? b = some (e0, us.size) := by unfold World.shape?; rw [hr]
  have hov : ∀ lb cb, (callFunc 103 #[.slice (some av) 1 vc, .slice (some ⟨b, (i + 1) * 8, none⟩) lb cb]).run Tryd.prog w = .ok (.value (.bool false)) w := fun lb cb => by
    rw [run_callFunc_extern Tryd.func103 (by kernel_rfl) (by kernel_rfl) (by kernel_rfl) (e := Extern.SlicesOverlaps.overlaps #[22, 22] #[4]) (by kernel_rfl),
      run_ovl w 22 4 37 hts 8 (fun w => by simp [sizeOf, typeInfo, hi0, hs0]) av ⟨b, (i + 1) * 8, none⟩ 1 vc lb cb hne tA e0 kA us.size hsA hsB hkA (by omega) (frozen_of_row w b _ us e0 hr) (frozen_of_row w b _ us e0 hr)]
    rfl
  obtain ⟨cs, hcs⟩ : ∃ cs : List Value, cs = (us.toList.drop (i * 8)).take ((n - i) * 8) := ⟨_, rfl⟩
  have hlen : cs.length = (n - i) * 8 := by rw [hcs, List.length_take, List.length_drop, Array.length_toList]; omega
  have hget : ∀ t u, cs[t]? = some u → t < (n - i) * 8 ∧ us[i * 8 + t]? = some u := fun t u h => by
    have ht := (List.getElem?_eq_some_iff.1 h).1
    rw [hlen] at ht
    rw [hcs, List.getElem?_take, if_pos ht, List.getElem?_drop, Array.getElem?_toList] at h
    exact ⟨ht, h⟩
  have h1c : ∀ u ∈ cs, u.oneCell' = true := fun u hu => by
    obtain ⟨t, ht, rfl⟩ := List.getElem_of_mem hu
    obtain ⟨q1, q2⟩ := hget t _ (List.getElem?_eq_getElem ht)
    exact h1 _ _ (by omega) q2
  have hfit : (i + 1) * 8 + cs.length ≤ us.toList.length := by rw [hlen, Array.length_toList]; omega
  obtain ⟨us1, hus1⟩ : ∃ us1, us1 = (over us.toList ((i + 1) * 8) cs).toArray := ⟨_, rfl⟩
  have hsz1 : us1.size = us.size := by rw [hus1, List.size_toArray, over_len hfit, Array.length_toList]
  obtain ⟨W1, hW1⟩ : ∃ W1, W1 = w.drew.setRow b us1 := ⟨_, rfl⟩
  have hr1 : W1.heap[b]? = some (.cells us1 e0 (0, 0)) := by rw [hW1]; exact setRow_heap w.drew b us us1 e0 (0, 0) hr
  have hcp1 : ∀ ty dc sc, (Builtin.copy_ #[22, 22] ty #[.slice (some ⟨b, (i + 1) * 8, none⟩) (n - i) dc, .slice (some ⟨b, i * 8, none⟩) (n + 1 - i) sc]).run Tryd.prog w.drew = .ok (goInt ((n - i : Nat) : Int)) W1 := fun ty dc sc => by
    have hm : Nat.min (n + 1 - i) (n - i) = n - i := by simp only [Nat.min_def]; split <;> omega
    have h := run_cpy (P := Tryd.prog) w.drew 22 ty 37 i0 hts hi0 hr (thawed0 _) ((i + 1) * 8) (n - i) dc ⟨b, i * 8, none⟩ (n + 1 - i) sc cs (by rw [hm, hs0]; exact hlen) (fun j v hj => by
      have hu := (hget j v hj).2
      rw [Addr.add_lit]
      show w.cell? ⟨b, i * 8 + j, none⟩ = some v
      simpa [World.cell?, hr] using hu) h1c (by have := hfit; rw [Array.length_toList] at this; omega)
    rw [hm] at h
    rw [h, hW1, hus1]
  have hfit2 : i * 8 + vs.length ≤ us1.toList.length := by rw [hA.len, Array.length_toList, hsz1]; omega
  obtain ⟨us2, hus2⟩ : ∃ us2, us2 = (over us1.toList (i * 8) vs).toArray := ⟨_, rfl⟩
  have hsz2 : us2.size = us.size := by rw [hus2, List.size_toArray, over_len hfit2, Array.length_toList, hsz1]
  obtain ⟨W2, hW2⟩ : ∃ W2, W2 = W1.setRow b us2 := ⟨_, rfl⟩
  have hr2 : W2.heap[b]? = some (.cells us2 e0 (0, 0)) := by rw [hW2]; exact setRow_heap W1 b us1 us2 e0 (0, 0) hr1
  have hcp2 : ∀ ty dc, (Builtin.copy_ #[22, 22] ty #[.slice (some ⟨b, i * 8, none⟩) (n + 1 - i) dc, .slice (some av) 1 vc]).run Tryd.prog W1 = .ok (goInt 1) W2 := fun ty dc => by
    have hm : Nat.min 1 (n + 1 - i) = 1 := by simp only [Nat.min_def]; split <;> omega
    have h := run_cpy (P := Tryd.prog) W1 22 ty 37 i0 hts hi0 hr1 (thawed0 _) (i * 8) (n + 1 - i) dc av 1 vc vs (by rw [hm, hs0]; exact hA.len) (fun j v hj => by
      have hu := hA.cells j v hj
      have hb : (av.add j).block ≠ b := by unfold Addr.add; split <;> exact hne
      rw [hW1]
      show (w.drew.setRow b us1).cell? _ = _
      simp only [World.cell?, setRow_other w.drew b _ us1 hb]
      exact hu) hA.one (by have := hfit2; rw [Array.length_toList] at this; omega)
    rw [hm] at h
    rw [h, hW2, hus2]
    simp
  have hpost : Aside ((∀ (μ : Bool) (B : Bd μ), B.mine b → BelowB B w W2) ∧ ∃ us', W2.heap[b]? = some (.cells us' e0 (0, 0)) ∧ us'.size = us.size ∧ More us us' vs i n) := by
    refine ⟨fun μ B hB => ?_, us2, hr2, hsz2, ⟨fun x hx => ?_, fun t v hv => ?_, fun x hx => ?_⟩⟩
    · rw [hW2, hW1]
      exact ((BelowB.refl B w).drew.trans (Th.below_setRow hB us1)).trans (Th.below_setRow hB us2)
    · rw [hus2, List.getElem?_toArray, over_get hfit2, if_pos (by omega), Array.getElem?_toList, hus1, List.getElem?_toArray, over_get hfit, if_pos (by omega), Array.getElem?_toList]
    · have ht := (List.getElem?_eq_some_iff.1 hv).1
      rw [hus2, List.getElem?_toArray, over_get hfit2, if_neg (by omega), if_pos (by omega), show i * 8 + t - i * 8 = t by omega, hv]
    · rw [hus2, List.getElem?_toArray, over_get hfit2, if_neg (by omega), if_neg (by rw [hA.len]; omega), Array.getElem?_toList, hus1, List.getElem?_toArray, over_get hfit, if_neg (by omega), if_pos (by rw [hlen]; omega), show (i + 1) * 8 + x - (i + 1) * 8 = x by omega, hcs, List.getElem?_take, if_pos hx, List.getElem?_drop, Array.getElem?_toList]
  have q1 : ¬ ((i : Int) = (n : Int)) := by omega
  have q2 : ¬ (((n : Int) + 1) > (cap : Int)) := by omega
  have q3 : IntKind.i64.wrap ((n : Int) + 1) = (n : Int) + 1 := by rw [IntKind.wrap_i64]; omega
  have q4 : IntKind.i64.wrap ((i : Int) + 1) = (i : Int) + 1 := by rw [IntKind.wrap_i64]; omega
  have q5 : ((i : Int) + 1).toNat = i + 1 := by omega
  have q6 : ((n : Int) + 1).toNat = n + 1 := by omega
  have q7 : ¬ (cap = i + 1) := by omega
  have q8 : ¬ (cap = i) := by omega
  have q9 : (0 : Int) ≤ (i : Int) + 1 := by omega
  have q10 : (0 : Int) ≤ (n : Int) + 1 := by omega
  have q11 : (n : Int) + 1 ≤ (cap : Int) := by omega
  have q12 : (i : Int) + 1 ≤ (n : Int) + 1 := by omega
  have q13 : (i : Int) ≤ (n : Int) + 1 := by omega
  clear hr1 hr2 hW1 hW2 hus1 hus2 hfit hfit2 hsz1 hsz2 hlen hget hcs h1c hr h1 hsB hsA hA
  go_enter Tryd.func68, Tryd.ntmps68
  go_wp2_with (simp only [hov])
  go_region_law_o (refine step_copy_run rfl _ _ 22 22 rfl _ _ (by simp [Act.eval, Act.put]) (by simp [Act.eval, Act.put]) (hcp1 _ _ _) ?_)
  go_wp2_with (at_builtin; refine wpList_cpy_run _ rfl _ _ 22 22 rfl _ _ rfl rfl _ _ (hcp2 _ _) ?_)
  go_ret
  exact ⟨rfl, hpost⟩
set_option maxHeartbeats 4000000 in
set_option maxRecDepth 100000 in
theorem walk_grow {ei : TInfo} {d : TypeDesc} (E : TypeIs Tryd.prog 37 ei i0 d z) (hsz : ei.size = 8) (b n cap i : Nat) (us : Array Value) (e0 : TypeId) (fr : Nat × Nat) (w : World) (hr : w.heap[b]? = some (.cells us e0 fr)) (hin : i < n) (hnc : n ≤ cap) (hcap : ¬ n + 1 ≤ cap) (hus : cap * 8 ≤ us.size) (hn9 : n ≤ 1000000) (hb : (n + 1) * ei.bytes ≤ 140737488355328) (h1 : ∀ x v, x < n * 8 → us[x]? = some v → v.oneCell' = true)
    (av : Addr) (vc : Nat) (vs : List Value) (hA : Arg w av vs) : Calls Tryd.prog 68 #[.slice (some ⟨b, 0, none⟩) n cap, .int .i64 i, .slice (some av) 1 vc] w fun e w' => ∃ G us', e = .returned (.slice (some ⟨w.heap.size, 0, none⟩) (n + 1) G) ∧
      Below w.heap.size w w' ∧ n + 1 ≤ G ∧ w'.heap[w.heap.size]? = some (.cells us' 37 (0, 0)) ∧ G * 8 ≤ us'.size ∧ More us us' vs i n := by
  have hts : Tryd.prog.underlying 22 = some (.slice 37) := by kernel_rfl
  have hti : Tryd.prog.underlying 3 = some (.int .i64) := by kernel_rfl
  have mixed : Tryd.prog.follows .mixedOrders = true := rfl
  have hs0 : i0.size = 8 := by rw [E.size, hsz]
  have hi0 := E.info
  have hbw : b < w.heap.size := (Array.getElem?_eq_some_iff.1 hr).1
  have hnz : n * 8 ≤ us.size := Nat.le_trans (Nat.mul_le_mul_right _ hnc) hus
  have hzsz : z.cells.size = 8 := by have := (z0s_LR (w := w) (g := ⟨fun _ _ => False, fun _ => none, fun _ => none⟩) E.zrel).len; have := E.zlen; simp at *; omega
  have hkk : (n : Int) + 1 - (i : Int) = ((n + 1 - i : Nat) : Int) := by omega
  have hik : i + (n + 1 - i) = n + 1 := by omega
  have hol : (us.toList.take (i * 8)).length = i * 8 := by rw [List.length_take, Array.length_toList]; omega
  have hold : (Builtin.firstCells i0.size i (.slice (some ⟨b, 0, none⟩) i cap)).run Tryd.prog w.drew = .ok (us.toList.take (i * 8)).toArray w.drew := by
    rw [hs0]
    exact run_firstCells_some w.drew 8 i ⟨b, 0, none⟩ i cap _ hol (fun j v hj => by
      rw [Addr.add_lit]
      rw [List.getElem?_take] at hj
      split at hj
      · show w.cell? ⟨b, 0 + j, none⟩ = some v
        simpa [World.cell?, hr] using hj
      · cases hj)
  obtain ⟨G, hG⟩ : ∃ G, G = grownCap w (n + 1) cap 37 := ⟨_, rfl⟩
  have hGn : n + 1 ≤ G := by rw [hG]; exact grownCap_ge w _ _ _
  obtain ⟨us0, hus0⟩ : ∃ us0, us0 = (us.toList.take (i * 8)).toArray ++ Builtin.zeroCells z.cells (n + 1 - i) ++ Builtin.zeroCells z.cells (G - (n + 1)) := ⟨_, rfl⟩
  have hsz0 : us0.size = G * 8 := by rw [hus0, Array.size_append, Array.size_append, size_zeroCells, size_zeroCells, hzsz, List.size_toArray, hol]; omega
  obtain ⟨W0, hW0⟩ : ∃ W0, W0 = w.drew.alloc (.cells us0 37) := ⟨_, rfl⟩
  have hrz : ∀ ty, (Builtin.append_ #[22, 3] ty #[.slice (some ⟨b, 0, none⟩) i cap, .int .i64 ((n : Int) + 1 - (i : Int))]).run Tryd.prog w = .ok (.slice (some ⟨w.heap.size, 0, none⟩) (n + 1) G) W0 := fun ty => by
    have h := Lib.run_append_grow_zeros w 22 3 ty 37 i0 z .i64 .i64 hts hti hi0 E.zero (some ⟨b, 0, none⟩) i cap (us.toList.take (i * 8)) hold (n + 1 - i) (by omega) (by omega) (by omega) (by omega)
      (by rw [E.bytes]; have : (n + 1 - i) * ei.bytes ≤ (n + 1) * ei.bytes := Nat.mul_le_mul_right _ (by omega)
          omega) (by rw [E.bytes, hik]; exact growslice_fits (by omega) hb)
    rw [hik, ← hG, ← hus0, ← hW0] at h
    rw [hkk]
    exact h
  have hB0 : Below w.heap.size w W0 := by rw [hW0]; exact ((Below.refl _ w).drew).alloc (Nat.le_refl _) _
  have hr0 : W0.heap[w.heap.size]? = some (.cells us0 37 (0, 0)) := by rw [hW0]; exact alloc_new w.drew _
  have hfit1 : i * 8 + vs.length ≤ us0.toList.length := by rw [hA.len, Array.length_toList, hsz0]; omega
  obtain ⟨us1, hus1⟩ : ∃ us1, us1 = (over us0.toList (i * 8) vs).toArray := ⟨_, rfl⟩
  have hsz1 : us1.size = G * 8 := by rw [hus1, List.size_toArray, over_len hfit1, Array.length_toList, hsz0]
  obtain ⟨W1, hW1⟩ : ∃ W1, W1 = W0.setRow w.heap.size us1 := ⟨_, rfl⟩
  have hr1 : W1.heap[w.heap.size]? = some (.cells us1 37 (0, 0)) := by rw [hW1]; exact setRow_heap W0 _ us0 us1 37 (0, 0) hr0
  have hcp1 : ∀ ty dc, (Builtin.copy_ #[22, 22] ty #[.slice (some ⟨w.heap.size, i * 8, none⟩) (n + 1 - i) dc, .slice (some av) 1 vc]).run Tryd.prog W0 = .ok (goInt 1) W1 := fun ty dc => by
    have hm : Nat.min 1 (n + 1 - i) = 1 := by simp only [Nat.min_def]; split <;> omega
    have h := run_cpy (P := Tryd.prog) W0 22 ty 37 i0 hts hi0 hr0 (thawed0 _) (i * 8) (n + 1 - i) dc av 1 vc vs (by rw [hm, hs0]; exact hA.len) (fun j v hj => by
      have hu := hA.cells j v hj
      have hb : (av.add j).block < w.heap.size := by unfold Addr.add; split <;> exact hA.lt
      rw [← hu]
      simp only [World.cell?, hB0.block _ hb]) hA.one (by have := hfit1; rw [Array.length_toList] at this; omega)
    rw [hm] at h
    rw [h, hW1, hus1]
    simp
  obtain ⟨cs, hcs⟩ : ∃ cs : List Value, cs = (us.toList.drop (i * 8)).take ((n - i) * 8) := ⟨_, rfl⟩
  have hlen : cs.length = (n - i) * 8 := by rw [hcs, List.length_take, List.length_drop, Array.length_toList]; omega
  have hget : ∀ t u, cs[t]? = some u → t < (n - i) * 8 ∧ us[i * 8 + t]? = some u := fun t u h => by
    have ht := (List.getElem?_eq_some_iff.1 h).1
    rw [hlen] at ht
    rw [hcs, List.getElem?_take, if_pos ht, List.getElem?_drop, Array.getElem?_toList] at h
    exact ⟨ht, h⟩
  have h1c : ∀ u ∈ cs, u.oneCell' = true := fun u hu => by
    obtain ⟨t, ht, rfl⟩ := List.getElem_of_mem hu
    obtain ⟨q1, q2⟩ := hget t _ (List.getElem?_eq_getElem ht)
    exact h1 _ _ (by omega) q2
  have hfit2 : (i + 1) * 8 + cs.length ≤ us1.toList.length := by rw [hlen, Array.length_toList, hsz1]; omega
  obtain ⟨us2, hus2⟩ : ∃ us2, us2 = (over us1.toList ((i + 1) * 8) cs).toArray := ⟨_, rfl⟩
  have hsz2 : us2.size = G * 8 := by rw [hus2, List.size_toArray, over_len hfit2, Array.length_toList, hsz1]
  obtain ⟨W2, hW2⟩ : ∃ W2, W2 = W1.drew.setRow w.heap.size us2 := ⟨_, rfl⟩
  have hr2 : W2.heap[w.heap.size]? = some (.cells us2 37 (0, 0)) := by rw [hW2]; exact setRow_heap W1.drew _ us1 us2 37 (0, 0) hr1
  have hob : W1.heap[b]? = some (.cells us e0 fr) := by rw [hW1, setRow_other W0 _ b us1 (by omega), hB0.block b hbw]; exact hr
  have hcp2 : ∀ ty dc sc, (Builtin.copy_ #[22, 22] ty #[.slice (some ⟨w.heap.size, (i + 1) * 8, none⟩) (n - i) dc, .slice (some ⟨b, i * 8, none⟩) (n - i) sc]).run Tryd.prog W1.drew = .ok (goInt ((n - i : Nat) : Int)) W2 := fun ty dc sc => by
    have hm : Nat.min (n - i) (n - i) = n - i := Nat.min_self _
    have h := run_cpy (P := Tryd.prog) W1.drew 22 ty 37 i0 hts hi0 hr1 (thawed0 _) ((i + 1) * 8) (n - i) dc ⟨b, i * 8, none⟩ (n - i) sc cs (by rw [hm, hs0]; exact hlen) (fun j v hj => by
      have hu := (hget j v hj).2
      rw [Addr.add_lit]
      show W1.cell? ⟨b, i * 8 + j, none⟩ = some v
      simpa [World.cell?, hob] using hu) h1c (by have := hfit2; rw [Array.length_toList] at this; omega)
    rw [hm] at h
    rw [h, hW2, hus2]
  have hpost : Aside (∃ G' us', Ending.returned (.slice (some ⟨w.heap.size, 0, none⟩) (n + 1) G) = .returned (.slice (some ⟨w.heap.size, 0, none⟩) (n + 1) G') ∧ Below w.heap.size w W2 ∧ n + 1 ≤ G' ∧ W2.heap[w.heap.size]? = some (.cells us' 37 (0, 0)) ∧ G' * 8 ≤ us'.size ∧ More us us' vs i n) := by
    refine ⟨G, us2, rfl, ?_, hGn, hr2, by omega, ⟨fun x hx => ?_, fun t v hv => ?_, fun x hx => ?_⟩⟩
    · rw [hW2, hW1]
      have b1 : Below w.heap.size W0 (W0.setRow w.heap.size us1) := ⟨rfl, rfl, rfl, by simp [World.setRow], fun k hk => setRow_other W0 w.heap.size k us1 (by omega)⟩
      have b2 : Below w.heap.size (W0.setRow w.heap.size us1) ((W0.setRow w.heap.size us1).drew.setRow w.heap.size us2) := ⟨rfl, rfl, rfl, by simp [World.setRow], fun k hk => setRow_other _ w.heap.size k us2 (by omega)⟩
      exact (hB0.trans b1).trans b2
    · rw [hus2, List.getElem?_toArray, over_get hfit2, if_pos (by omega), Array.getElem?_toList, hus1, List.getElem?_toArray, over_get hfit1, if_pos (by omega), Array.getElem?_toList, hus0, Array.getElem?_append_left (by rw [Array.size_append, List.size_toArray, hol]; omega), Array.getElem?_append_left (by rw [List.size_toArray, hol]; omega), List.getElem?_toArray, List.getElem?_take, if_pos hx, Array.getElem?_toList]
    · have ht := (List.getElem?_eq_some_iff.1 hv).1
      have hvl := hA.len
      rw [hus2, List.getElem?_toArray, over_get hfit2, if_pos (by omega), Array.getElem?_toList, hus1, List.getElem?_toArray, over_get hfit1, if_neg (by omega), if_pos (by omega), show i * 8 + t - i * 8 = t by omega, hv]
    · rw [hus2, List.getElem?_toArray, over_get hfit2, if_neg (by omega), if_pos (by rw [hlen]; omega), show (i + 1) * 8 + x - (i + 1) * 8 = x by omega, hcs, List.getElem?_take, if_pos hx, List.getElem?_drop, Array.getElem?_toList]
  have q1 : ¬ ((i : Int) = (n : Int)) := by omega
  have q2 : ((n : Int) + 1) > (cap : Int) := by omega
  have q2b : (cap : Int) < (n : Int) + 1 := by omega
  have q3 : IntKind.i64.wrap ((n : Int) + 1) = (n : Int) + 1 := by rw [IntKind.wrap_i64]; omega
  have q3b : IntKind.i64.wrap ((n : Int) + 1 - (i : Int)) = (n : Int) + 1 - (i : Int) := by rw [IntKind.wrap_i64]; omega
  have q4 : IntKind.i64.wrap ((i : Int) + 1) = (i : Int) + 1 := by rw [IntKind.wrap_i64]; omega
  have q5 : ((i : Int) + 1).toNat = i + 1 := by omega
  have q7 : ¬ (G = i + 1) := by omega
  have q8 : ¬ (G = i) := by omega
  have q8b : ¬ (cap = i) := by omega
  have q9 : (0 : Int) ≤ (i : Int) + 1 := by omega
  have q12 : (i : Int) + 1 ≤ (n : Int) + 1 := by omega
  have q13 : (i : Int) ≤ (n : Int) + 1 := by omega
  have q14 : i ≤ cap := by omega
  have q15 : i ≤ G := by omega
  have q16 : i + 1 ≤ G := by omega
  have q17 : i ≤ n := by omega
  clear hr1 hr2 hr0 hW0 hW1 hW2 hus0 hus1 hus2 hfit1 hfit2 hsz0 hsz1 hsz2 hlen hget hcs h1c hr h1 hA hob hB0 hol hold hG hkk hik
  go_enter Tryd.func68, Tryd.ntmps68
  go_wp2_with (first | (at_builtin; refine Lib.wpList_append_run _ rfl _ _ _ _ rfl _ _ rfl rfl _ _ (hrz _) ?_) | (at_builtin; refine wpList_cpy_run _ rfl _ _ 22 22 rfl _ _ rfl rfl _ _ (hcp1 _ _) ?_))
  go_region_law_o (refine step_copy_run rfl _ _ 22 22 rfl _ _ (by simp [Act.eval, Act.put]) (by simp [Act.eval, Act.put]) (hcp2 _ _ _) ?_)
  go_wp2
  go_ret
  exact hpost
end
theorem rowOf_more {w : World} {pr : Nat → Nat → Prop} {T : Ty} (hT : T.size = 8) {l : List T.den} {us us' : Array Value} {vs : List Value} {x : T.den} {i : Nat} (hi : i ≤ l.length) (h : RowOf w pr T l us) (hv : vs.length = 8) (hx : TR w pr T x vs) (m : More us us' vs i l.length) :
    RowOf w pr T (l.take i ++ [x] ++ l.drop i) us' := by
  intro t y hy
  have hl1 : (l.take i).length = i := by rw [List.length_take]; omega
  rw [hT]
  rcases Nat.lt_trichotomy t i with c | c | c
  · have hy' : l[t]? = some y := by
      rw [List.append_assoc, List.getElem?_append_left (by omega), List.getElem?_take, if_pos c] at hy
      exact hy
    obtain ⟨us1, v1, v2, v3⟩ := h t y hy'
    rw [hT] at v1 v2
    exact ⟨us1, v1, fun a v ha => by
      have ha' := (List.getElem?_eq_some_iff.1 ha).1
      rw [m.pre _ (by omega)]; exact v2 a v ha, v3⟩
  · subst c
    have hy' : y = x := by
      rw [List.append_assoc, List.getElem?_append_right (by omega), hl1, Nat.sub_self] at hy
      cases hy; rfl
    subst hy'
    exact ⟨vs, hv, fun a v ha => m.at_ a v ha, hx⟩
  · have hy' : l[t - 1]? = some y := by
      rw [List.append_assoc, List.getElem?_append_right (by omega), hl1] at hy
      obtain ⟨q, hq⟩ : ∃ q, t - i = q + 1 := ⟨t - i - 1, by omega⟩
      rw [hq, List.singleton_append, List.getElem?_cons_succ, List.getElem?_drop, show i + q = t - 1 by omega] at hy
      exact hy
    have ht := (List.getElem?_eq_some_iff.1 hy').1
    obtain ⟨us1, v1, v2, v3⟩ := h (t - 1) y hy'
    rw [hT] at v1 v2
    exact ⟨us1, v1, fun a v ha => by
      have ha' := (List.getElem?_eq_some_iff.1 ha).1
      have := m.post ((t - 1 - i) * 8 + a) (by omega)
      rw [show (i + 1) * 8 + ((t - 1 - i) * 8 + a) = t * 8 + a by omega, show i * 8 + ((t - 1 - i) * 8 + a) = (t - 1) * 8 + a by omega] at this
      rw [this]; exact v2 a v ha, v3⟩
theorem rowOf_take {w : World} {pr : Nat → Nat → Prop} {T : Ty} (hT : T.size = 8) {l : List T.den} {us : Array Value} (h : RowOf w pr T l us) : RowOf w pr T l (us.toList.take (l.length * 8)).toArray := by
  intro t y hy
  have ht := (List.getElem?_eq_some_iff.1 hy).1
  obtain ⟨us1, v1, v2, v3⟩ := h t y hy
  rw [hT] at v1 v2 ⊢
  exact ⟨us1, v1, fun a v ha => by
    have ha' := (List.getElem?_eq_some_iff.1 ha).1
    rw [List.getElem?_toArray, List.getElem?_take, if_pos (by omega), Array.getElem?_toList]; exact v2 a v ha, v3⟩
theorem calls {ei : TInfo} {d : TypeDesc} {i0 : TypeInfo} {z : Value} (E : TypeIs Tryd.prog 37 ei i0 d z) (hsz : ei.size = 8) (hT8 : ei.ty ≠ .int .u8) (hby0 : 0 < ei.bytes) (hby : ei.bytes ≤ 1000) (l : List ei.ty.den) (i : Int) (x : ei.ty.den) (hi : 0 ≤ i) (hil : i ≤ l.length) (hl : l.length ≤ 1000000) :
    CallOK false Tryd.prog 68 [.own ei.ty l, .int .i64 i, .sl ei.ty [x]] (.back (.own ei.ty (l.take i.toNat ++ [x] ++ l.drop i.toNat)) [.lent []]) := by
  refine .inr (.inr ⟨_, _, _, [], rfl, rfl, ⟨_, Tryd.func68, rfl, rfl⟩, fun w pr u0 us b0 hlt hgl hown ha => ?_⟩)
  obtain ⟨u1, u2, rfl⟩ : ∃ u1 u2, us = [u1, u2] := by
    have := ha.len
    match us, this with
    | [u1, u2], _ => exact ⟨u1, u2, rfl⟩
  obtain ⟨p1, p2, _⟩ := ha
  have e1 : u1 = .int .i64 i := by
    rcases p1 with h | ⟨cs, us, h, _⟩
    · exact h
    · cases h
  subst e1
  have hTR : TR w pr (.slice ei.ty) [x] [u2] := by
    rcases p2 with h | ⟨cs, us, h, _⟩
    · exact h
    · cases h
  obtain ⟨ad, vc, e2, hvcap, hel⟩ := hTR
  cases e2
  have hT : ei.ty.size = 8 := by rw [E.tysz, hsz]
  obtain ⟨av, vs, rfl, hvl, hvc, hvx⟩ := hel 0 x rfl
  rw [hT] at hvl
  have hvc' : ∀ t v, vs[t]? = some v → Cell w pr (av.add t) v := fun t v h => by have := hvc t v h; rwa [Nat.zero_mul, Nat.zero_add] at this
  have hv0 : Cell w pr (av.add 0) vs[0] := hvc' 0 vs[0] (List.getElem?_eq_getElem (by rw [hvl]; decide))
  have hab : (av.add 0).block = av.block := by unfold Addr.add; split <;> rfl
  have hA : Arg w av vs := ⟨fun t v h => (hvc' t v h).1, hvl, hvx.one, by have := hlt _ _ hv0.2; rwa [hab] at this⟩
  obtain ⟨m, rfl⟩ : ∃ m : Nat, i = m := ⟨i.toNat, by omega⟩
  have hil : m ≤ l.length := by omega
  have hbig : (l.length + 1) * ei.bytes ≤ 140737488355328 := Nat.le_trans (Nat.mul_le_mul (show l.length + 1 ≤ 1000001 by omega) hby) (by decide)
  simp only [Int.toNat_natCast]
  have hnl : (l.take m ++ [x] ++ l.drop m).length = l.length + 1 := by simp only [List.length_append, List.length_take, List.length_drop, List.length_singleton]; omega
  have pkB : ∀ {w' : World}, Below w.heap.size w w' → PrKeeps w pr w' pr := fun hB k o p => ⟨p, cell_heap (hB.block k (hlt k o p)) o⟩
  -- a new row
  have fresh : ∀ {us : Array Value} {e : Ending} {w' : World}, RowOf w pr ei.ty l us → (∃ G us', e = .returned (.slice (some ⟨w.heap.size, 0, none⟩) (l.length + 1) G) ∧ Below w.heap.size w w' ∧ l.length + 1 ≤ G ∧ w'.heap[w.heap.size]? = some (.cells us' 37 (0, 0)) ∧ G * 8 ≤ us'.size ∧ More us us' vs m l.length) →
      ∃ ru pr', e = .returned ru ∧ BelowB (bdE false w.heap.size pr b0) w w' ∧ (∀ k o, ¬ (bdE false w.heap.size pr b0).mine k → (pr' k o ↔ pr k o)) ∧ (∀ k o, pr' k o → k < w'.heap.size) ∧ RetE (bdE false w.heap.size pr b0) w' pr' u0 b0 (.own ei.ty (l.take m ++ [x] ++ l.drop m)) [] ru := by
    rintro us e w' hrow ⟨G, us', rfl, hB, hG, hr, hsz', hM⟩
    have hs' : w.heap.size < w'.heap.size := (Array.getElem?_eq_some_iff.1 hr).1
    have hno : ∀ o, ¬ pr w.heap.size o := fun o p => by have := hlt _ _ p; omega
    refine ⟨_, pr, rfl, BelowB.of hB (fun e => by cases e), fun _ _ _ => Iff.rfl, fun k o p => Nat.lt_of_lt_of_le (hlt k o p) hB.size, some w.heap.size, ⟨.slice (some ⟨w.heap.size, 0, none⟩) (l.length + 1) G, some w.heap.size, ei.ty.size⟩, ⟨rfl, .inr ⟨w.heap.size, G, by rw [hnl], rfl, ?_⟩⟩, rfl, rfl, fun k hk => by cases hk; exact hs'⟩
    exact ⟨.inl (Nat.le_refl _), by rw [hnl]; exact hG, ⟨us', 37, (0, 0), hr, thawT0 _ _ _, by rw [hT]; exact hsz', (rowOf_more hT hil hrow hvl hvx hM).keeps (pkB hB)⟩, fun o p => absurd p (hno o), (fun h => by cases h), fun _ => hno⟩
  obtain ⟨tg, ⟨hez, hrow⟩, rfl, rfl, hbl⟩ := hown
  rcases hrow with ⟨hv, hb, rfl⟩ | ⟨k, cap, hv, hb, R⟩
  · have h0 : m = 0 := by simpa using hil
    subst h0
    rw [hv]
    refine (walk_new E hsz hby0 none 0 0 (.inl ⟨rfl, rfl, rfl⟩) [] w (fun w' _ => by simp [Builtin.firstCells]) rfl (Nat.le_refl _) (by omega) hbig av vc vs hA).mono fun e w' h => fresh (us := #[]) (fun j y hy => by simp at hy) h
  obtain ⟨us, e0, fr, r1, r2, r3, r4⟩ := R.row
  have hfr : fr = (0, 0) := r2.2 rfl hT8
  subst hfr
  rw [hT] at r3
  have hkw : k < w.heap.size := (Array.getElem?_eq_some_iff.1 r1).1
  have hnz : l.length * 8 ≤ us.size := Nat.le_trans (Nat.mul_le_mul_right _ R.len) r3
  have hone : ∀ y v, y < l.length * 8 → us[y]? = some v → v.oneCell' = true := fun y v hy hyv => by
    have hp : 0 < 8 := by decide
    have hq : y / 8 < l.length := by omega
    obtain ⟨vs, v1, v2, v3⟩ := r4 (y / 8) l[y / 8] (List.getElem?_eq_getElem hq)
    rw [hT] at v1 v2
    have hr : y % 8 < vs.length := by rw [v1]; exact Nat.mod_lt _ hp
    have := v2 (y % 8) vs[y % 8] (List.getElem?_eq_getElem hr)
    rw [show y / 8 * 8 + y % 8 = y by omega, hyv] at this
    cases this
    exact v3.one _ (List.getElem_mem _)
  -- in place
  have same : ∀ {e : Ending} {w' : World}, (e = .returned (.slice (some ⟨k, 0, none⟩) (l.length + 1) cap) ∧ (∀ (μ : Bool) (B : Bd μ), B.mine k → BelowB B w w') ∧ ∃ us', w'.heap[k]? = some (.cells us' e0 (0, 0)) ∧ us'.size = us.size ∧ More us us' vs m l.length) → l.length + 1 ≤ cap →
      ∃ ru pr', e = .returned ru ∧ BelowB (bdE false w.heap.size pr tg.blk) w w' ∧ (∀ k o, ¬ (bdE false w.heap.size pr tg.blk).mine k → (pr' k o ↔ pr k o)) ∧ (∀ k o, pr' k o → k < w'.heap.size) ∧ RetE (bdE false w.heap.size pr tg.blk) w' pr' tg.val tg.blk (.own ei.ty (l.take m ++ [x] ++ l.drop m)) [] ru := by
    rintro e w' ⟨rfl, hB, us', q1, q2, hM⟩ hroom
    have hBw := hB false (bdE false w.heap.size pr tg.blk) (.inr hb)
    have hkp : PrKeeps w pr w' pr := fun k' o p => ⟨p, cell_heap (hBw.block k' (fun hm => by
      rcases hm with h | h
      · have := hlt k' o p
        have h : w.heap.size ≤ k' := h
        omega
      · rw [hb] at h
        cases h
        exact R.prno rfl o p)) o⟩
    refine ⟨_, pr, rfl, hBw, fun _ _ _ => Iff.rfl, fun k' o p => Nat.lt_of_lt_of_le (hlt k' o p) hBw.size, some k, ⟨.slice (some ⟨k, 0, none⟩) (l.length + 1) cap, some k, ei.ty.size⟩, ⟨rfl, .inr ⟨k, cap, by rw [hnl], rfl, ?_⟩⟩, rfl, rfl, fun k' hk' => by cases hk'; exact Nat.lt_of_lt_of_le hkw hBw.size⟩
    exact ⟨.inr hb, by rw [hnl]; exact hroom, ⟨us', e0, (0, 0), q1, thawT0 _ _ _, by rw [q2, hT]; exact r3, (rowOf_more hT hil r4 hvl hvx hM).keeps hkp⟩, fun o p => absurd p (R.prno rfl o), (fun h => by cases h), R.prno⟩
  rw [hv]
  have hol : (us.toList.take (l.length * 8)).length = l.length * 8 := by rw [List.length_take, Nat.min_eq_left (by simpa using hnz)]
  by_cases hm : m = l.length
  · by_cases hroom : l.length + 1 ≤ cap
    · subst hm
      refine (walk_fit E.info (by rw [E.size, hsz]) k l.length cap us e0 w r1 hroom r3 av vc vs hA).mono fun e w' h => ?_
      have := same h hroom
      rwa [hv] at this
    · subst hm
      refine (walk_new E hsz hby0 (some ⟨k, 0, none⟩) l.length cap (.inr ⟨k, rfl⟩) (us.toList.take (l.length * 8)) w (fun w' hw' => ?_) hol R.len hroom hbig av vc vs hA).mono fun e w' h => ?_
      · rw [hsz]
        exact run_firstCells_some w' 8 l.length ⟨k, 0, none⟩ l.length cap _ hol (fun j v hj => by
          rw [Addr.add_lit, cell_same_heap hw']
          rw [List.getElem?_take] at hj
          split at hj
          · show w.cell? ⟨k, 0 + j, none⟩ = some v
            simpa [World.cell?, r1] using hj
          · cases hj)
      · have := fresh (rowOf_take hT r4) h
        rwa [hv] at this
  · have hlt' : m < l.length := by omega
    by_cases hroom : l.length + 1 ≤ cap
    · have hne : av.block ≠ k := fun h => by
        have := hv0.2
        rw [hab, h] at this
        exact R.prno rfl _ this
      refine (walk_shift E.info (by rw [E.size, hsz]) k l.length cap m us e0 w r1 hlt' hroom r3 hl hone av vc vs hA hne).mono fun e w' h => ?_
      have := same h hroom
      rwa [hv] at this
    · refine (walk_grow E hsz k l.length cap m us e0 (0, 0) w r1 hlt' R.len hroom r3 hl hbig hone av vc vs hA).mono fun e w' h => ?_
      have := fresh r4 h
      rwa [hv] at this
end Go.Proofs.YtcgnmecbdleehaaDoor.Ins68
end
section
set_option linter.unusedVariables false
set_option linter.unusedSimpArgs false
namespace Go.Proofs.YtcgnmecbdleehaaDoor.Del79
open Go Go.RowKit Go.Shelf Go.Lib Go.Proofs Go.Proofs.YtcgnmecbdleehaaDoor Th
theorem run_app {P : Program} (w : World) (t ty e : TypeId) (i : TypeInfo) (ht : P.underlying t = some (.slice e)) (hi : P.info? e = some i) {b : Nat} {us : Array Value} {e0 : TypeId} {fr : Nat × Nat} (hr : w.heap[b]? = some (.cells us e0 fr)) (hth : Thawed fr us.size)
    (n c : Nat) (a : Addr) (m c' : Nat) (news : List Value) (hl : news.length = m * i.size) (hnews : ∀ j u, news[j]? = some u → w.cell? (a.add j) = some u) (h1 : ∀ u ∈ news, u.oneCell' = true) (hroom : n + m ≤ c) (hfit : n * i.size + news.length ≤ us.size) :
    (Builtin.append_ #[t, t] ty #[.slice (some ⟨b, 0, none⟩) n c, .slice (some a) m c']).run P w = .ok (.slice (some ⟨b, 0, none⟩) (n + m) c) (w.setRow b (over us.toList (n * i.size) news).toArray) := by
  have hfc := run_firstCells_some (P := P) w i.size m a m c' news hl hnews
  have hst := run_storeRow (P := P) news (n * i.size) 0 w us hr hth (by simpa using hfit) h1
  simp only [Nat.add_zero] at hst
  simp [Builtin.append_, run_underlying ht, sizeOf, typeInfo, hi, Builtin.lenOf, hroom, hfc, Addr.add_lit, hst]
theorem zc_mem {z : Array Value} {n : Nat} {v : Value} (h : v ∈ (Builtin.zeroCells z n).toList) : v ∈ z.toList := by
  unfold Builtin.zeroCells at h
  rw [Array.toList_map, List.mem_map] at h
  obtain ⟨i, hi, rfl⟩ := h
  rw [Array.toList_range, List.mem_range] at hi
  have hz : 0 < z.size := by
    rcases Nat.eq_zero_or_pos z.size with h0 | h0
    · rw [h0, Nat.mul_zero] at hi; exact absurd hi (Nat.not_lt_zero _)
    · exact h0
  rw [getElem!_pos z (i % z.size) (Nat.mod_lt _ hz)]
  simp
theorem run_clr {P : Program} (w : World) (t e ty : TypeId) (z : Value) (ht : P.underlying t = some (.slice e)) (hv : ∀ w, (zeroValue e).run P w = .ok z w) (h1 : ∀ v ∈ z.cells.toList, v.oneCell' = true) {b : Nat} {us : Array Value} {e0 : TypeId} {fr : Nat × Nat} (hr : w.heap[b]? = some (.cells us e0 fr)) (hth : Thawed fr us.size)
    (o n c : Nat) (hn : 0 < n) (hfit : o + n * z.cells.size ≤ us.size) :
    (Builtin.clear_ #[t] ty #[.slice (some ⟨b, o, none⟩) n c]).run P w = .ok (.tuple #[]) (w.setRow b (over us.toList o (Builtin.zeroCells z.cells n).toList).toArray) := by
  have hst := run_storeRow (P := P) (Builtin.zeroCells z.cells n).toList o 0 w us hr hth (by simpa [size_zeroCells] using hfit) (fun v hv => h1 v (zc_mem hv))
  simp only [Nat.add_zero] at hst
  obtain ⟨m, rfl⟩ : ∃ m, n = m + 1 := ⟨n - 1, by omega⟩
  simp [Builtin.clear_, run_underlying ht, hv, hst]
theorem step_append_run {P : Program} {ops : Array Oper} {o : Oper} {a : Act} {w : World} {K : Act → World → Prop} {Q : Exit → Act → World → Prop} {E : Prop}
    (hg : o.guard = none) (s x : Operand) (t u : TypeId) (hop : o.op = Op.call { callee := Callee.builtin Builtin.append, args := #[s, x], argTypes := #[t, u] })
    (vs vx : Value) (hs : a.eval s = vs) (hx : a.eval x = vx) {v' : Value} {w' : World} (hr : (Builtin.append_ #[t, u] o.type #[vs, vx]).run P w = .ok v' w') (hK : K (a.put o.dst v') w') :
    if Region.wanted o (yielded ops a.tmps) = true then Oper.wp P o a w K Q else E := by
  have hw : Region.wanted o (yielded ops a.tmps) = true := by simp [Region.wanted, hg]
  rw [if_pos hw]
  unfold Oper.wp
  simp [execOp, hop, resolve, invoke, builtin, hs, hx, hr, Result.andThen]
  exact hK
set_option maxHeartbeats 4000000 in
set_option maxRecDepth 100000 in
theorem walk (i0 : TypeInfo) (z : Value) (hi0 : Tryd.prog.info? 37 = some i0) (hz0 : i0.zero = some z) (hs0 : i0.size = 8) (hzv : ∀ w, (zeroValue 37).run Tryd.prog w = .ok z w) (hz1 : ∀ v ∈ z.cells.toList, v.oneCell' = true) (hzn : z.cells.size = 8)
    (b n cap i j : Nat) (us : Array Value) (e0 : TypeId) (fr : Nat × Nat) (w : World) (hr : w.heap[b]? = some (.cells us e0 fr)) (hth : Thawed fr us.size) (hcap : n ≤ cap) (hus : cap * 8 ≤ us.size) (h1 : ∀ x v, x < n * 8 → us[x]? = some v → v.oneCell' = true)
    (hij : i < j) (hj : j ≤ n) : Calls Tryd.prog 79 #[.slice (some ⟨b, 0, none⟩) n cap, .int .i64 i, .int .i64 j] w fun e w' => e = .returned (.slice (some ⟨b, 0, none⟩) (n - (j - i)) cap) ∧
      (∀ (μ : Bool) (B : Bd μ), B.mine b → BelowB B w w') ∧ ∃ us', w'.heap[b]? = some (.cells us' e0 fr) ∧ us'.size = us.size ∧ (∀ x, x < i * 8 → us'[x]? = us[x]?) ∧ (∀ x, x < (n - j) * 8 → us'[i * 8 + x]? = us[j * 8 + x]?) := by
  have hts : Tryd.prog.underlying 22 = some (.slice 37) := by kernel_rfl
  have hti : Tryd.prog.underlying 3 = some (.int .i64) := by kernel_rfl
  have mixed : Tryd.prog.follows .mixedOrders = true := rfl
  have hnz : n * 8 ≤ us.size := Nat.le_trans (Nat.mul_le_mul_right _ hcap) hus
  obtain ⟨news, hnews⟩ : ∃ news : List Value, news = (us.toList.drop (j * 8)).take ((n - j) * 8) := ⟨_, rfl⟩
  have hlen : news.length = (n - j) * 8 := by rw [hnews, List.length_take, List.length_drop, Array.length_toList]; omega
  have hget : ∀ t u, news[t]? = some u → t < (n - j) * 8 ∧ us[j * 8 + t]? = some u := fun t u h => by
    have ht := (List.getElem?_eq_some_iff.1 h).1
    rw [hlen] at ht
    rw [hnews, List.getElem?_take, if_pos ht, List.getElem?_drop, Array.getElem?_toList] at h
    exact ⟨ht, h⟩
  obtain ⟨A, hA, hsrc⟩ : ∃ A : Addr, (if cap = j then some (⟨b, 0, none⟩ : Addr) else some ⟨b, j * 8, none⟩) = some A ∧ Hid (∀ t u, news[t]? = some u → w.drew.cell? (A.add t) = some u) := by
    by_cases h : cap = j
    · refine ⟨⟨b, 0, none⟩, by simp [h], fun t u hu => ?_⟩
      have := (hget t u hu).1
      omega
    · refine ⟨⟨b, j * 8, none⟩, by simp [h], fun t u hu => ?_⟩
      have hu := (hget t u hu).2
      rw [Addr.add_lit]
      show w.cell? ⟨b, j * 8 + t, none⟩ = some u
      simpa [World.cell?, hr] using hu
  have h1n : ∀ u ∈ news, u.oneCell' = true := fun u hu => by
    obtain ⟨t, ht, rfl⟩ := List.getElem_of_mem hu
    obtain ⟨q1, q2⟩ := hget t _ (List.getElem?_eq_getElem ht)
    exact h1 _ _ (by omega) q2
  have hfit : i * 8 + news.length ≤ us.toList.length := by rw [hlen, Array.length_toList]; omega
  obtain ⟨us1, hus1⟩ : ∃ us1, us1 = (over us.toList (i * 8) news).toArray := ⟨_, rfl⟩
  have hsz1 : us1.size = us.size := by rw [hus1, List.size_toArray, over_len hfit, Array.length_toList]
  obtain ⟨W1, hW1⟩ : ∃ W1, W1 = w.drew.setRow b us1 := ⟨_, rfl⟩
  have happ : ∀ ty, (Builtin.append_ #[22, 22] ty #[.slice (some ⟨b, 0, none⟩) i cap, .slice (some A) (n - j) (cap - j)]).run Tryd.prog w.drew = .ok (.slice (some ⟨b, 0, none⟩) (i + (n - j)) cap) W1 := fun ty => by
    have h := run_app (P := Tryd.prog) w.drew 22 ty 37 i0 hts hi0 hr hth i cap A (n - j) (cap - j) news (by rw [hs0]; exact hlen) hsrc.out h1n (by omega) (by rw [hs0]; rw [Array.length_toList] at hfit; exact hfit)
    rw [hs0, ← hus1, ← hW1] at h
    exact h
  have hr1 : W1.heap[b]? = some (.cells us1 e0 fr) := by rw [hW1]; exact setRow_heap w.drew b us us1 e0 fr hr
  have hfit2 : (i + (n - j)) * 8 + (n - (i + (n - j))) * z.cells.size ≤ us1.size := by rw [hsz1, hzn]; omega
  obtain ⟨zs, hzs⟩ : ∃ zs, zs = (Builtin.zeroCells z.cells (n - (i + (n - j)))).toList := ⟨_, rfl⟩
  have hzl : zs.length = (n - (i + (n - j))) * 8 := by rw [hzs, Array.length_toList, size_zeroCells, hzn]
  have hfit3 : (i + (n - j)) * 8 + zs.length ≤ us1.toList.length := by rw [hzl, Array.length_toList, hsz1]; omega
  obtain ⟨us2, hus2⟩ : ∃ us2, us2 = (over us1.toList ((i + (n - j)) * 8) zs).toArray := ⟨_, rfl⟩
  have hsz2 : us2.size = us.size := by rw [hus2, List.size_toArray, over_len hfit3, Array.length_toList, hsz1]
  obtain ⟨W2, hW2⟩ : ∃ W2, W2 = W1.setRow b us2 := ⟨_, rfl⟩
  have hcl : ∀ ty, (Builtin.clear_ #[22] ty #[.slice (some ⟨b, (i + (n - j)) * 8, none⟩) (n - (i + (n - j))) (cap - (i + (n - j)))]).run Tryd.prog W1 = .ok (.tuple #[]) W2 := fun ty => by
    have h := run_clr (P := Tryd.prog) W1 22 37 ty z hts hzv hz1 hr1 (by rw [hsz1]; exact hth) ((i + (n - j)) * 8) (n - (i + (n - j))) (cap - (i + (n - j))) (by omega) hfit2
    rw [← hzs, ← hus2, ← hW2] at h
    exact h
  have hr2 : W2.heap[b]? = some (.cells us2 e0 fr) := by rw [hW2]; exact setRow_heap W1 b us1 us2 e0 fr hr1
  have hpost : Aside ((∀ (μ : Bool) (B : Bd μ), B.mine b → BelowB B w W2) ∧ ∃ us', W2.heap[b]? = some (.cells us' e0 fr) ∧ us'.size = us.size ∧ (∀ x, x < i * 8 → us'[x]? = us[x]?) ∧ (∀ x, x < (n - j) * 8 → us'[i * 8 + x]? = us[j * 8 + x]?)) := by
    refine ⟨fun μ B hB => ?_, us2, hr2, hsz2, fun x hx => ?_, fun x hx => ?_⟩
    · rw [hW2, hW1]
      exact ((BelowB.refl B w).drew.trans (Th.below_setRow hB us1)).trans (Th.below_setRow hB us2)
    · rw [hus2, List.getElem?_toArray, over_get hfit3, if_pos (by omega), Array.getElem?_toList, hus1, List.getElem?_toArray, over_get hfit, if_pos (by omega), Array.getElem?_toList]
    · rw [hus2, List.getElem?_toArray, over_get hfit3, if_pos (by omega), Array.getElem?_toList, hus1, List.getElem?_toArray, over_get hfit, if_neg (by omega), if_pos (by rw [hlen]; omega), show i * 8 + x - i * 8 = x by omega, hnews, List.getElem?_take, if_pos hx, List.getElem?_drop, Array.getElem?_toList]
  have hic : i ≤ cap := by omega
  have hjc : j ≤ cap := by omega
  have hne : ¬ ((i : Int) = (j : Int)) := by omega
  have hne2 : ¬ (cap = i + (n - j)) := by omega
  clear hr1 hr2 hW1 hW2 hus1 hus2 hzs hzl hfit hfit2 hfit3 hsz1 hsz2 hlen hget hnews h1n hsrc hr hth h1
  go_enter Tryd.func79, Tryd.ntmps79
  go_wp2_with fail
  go_region_law_o (refine step_append_run rfl (.tmp 22) (.tmp 25) 22 22 rfl _ _ (by simp [Act.eval, Act.put]) (by simp [Act.eval, Act.put]) (happ _) ?_)
  go_wp2
  go_ret
  have hend : n - (j - i) = i + (n - j) := by omega
  rw [hend]
  exact ⟨rfl, hpost⟩
set_option maxHeartbeats 4000000 in
set_option maxRecDepth 100000 in
theorem walk_nil (w : World) : Calls Tryd.prog 79 #[.slice none 0 0, .int .i64 (0 : Nat), .int .i64 (0 : Nat)] w fun e w' => e = .returned (.slice none 0 0) ∧ w' = w := by
  have mixed : Tryd.prog.follows .mixedOrders = true := rfl
  go_enter Tryd.func79, Tryd.ntmps79
  go_wp2
  all_goals (go_ret; exact ⟨rfl, rfl⟩)
set_option maxHeartbeats 4000000 in
set_option maxRecDepth 100000 in
theorem walk_eq (b n cap i : Nat) (w : World) (hcap : n ≤ cap) (hi : i ≤ n) : Calls Tryd.prog 79 #[.slice (some ⟨b, 0, none⟩) n cap, .int .i64 i, .int .i64 i] w fun e w' => e = .returned (.slice (some ⟨b, 0, none⟩) n cap) ∧ w' = w := by
  have mixed : Tryd.prog.follows .mixedOrders = true := rfl
  go_enter Tryd.func79, Tryd.ntmps79
  go_wp2
  all_goals (go_ret; exact ⟨rfl, rfl⟩)
theorem calls {ei : TInfo} {d : TypeDesc} {i0 : TypeInfo} {z : Value} (E : TypeIs Tryd.prog 37 ei i0 d z) (hrep : ei.rep = true) (hsz : ei.size = 8) (l : List ei.ty.den) (i j : Int) (hi : 0 ≤ i) (hij : i ≤ j) (hj : j ≤ l.length) :
    CallOK false Tryd.prog 79 [.own ei.ty l, .int .i64 i, .int .i64 j] (.back (.own ei.ty (l.take i.toNat ++ l.drop j.toNat)) [.lent []]) := by
  refine .inr (.inr ⟨_, _, _, [], rfl, rfl, ⟨_, Tryd.func79, rfl, rfl⟩, fun w pr u0 us b0 hlt hgl hown ha => ?_⟩)
  obtain ⟨u1, u2, rfl⟩ : ∃ u1 u2, us = [u1, u2] := by
    have := ha.len
    match us, this with
    | [u1, u2], _ => exact ⟨u1, u2, rfl⟩
  obtain ⟨p1, p2, _⟩ := ha
  have e1 : u1 = .int .i64 i := by
    rcases p1 with h | ⟨cs, us, h, _⟩
    · exact h
    · cases h
  have e2 : u2 = .int .i64 j := by
    rcases p2 with h | ⟨cs, us, h, _⟩
    · exact h
    · cases h
  subst e1 e2
  obtain ⟨m1, rfl⟩ : ∃ m : Nat, i = m := ⟨i.toNat, by omega⟩
  obtain ⟨m2, rfl⟩ : ∃ m : Nat, j = m := ⟨j.toNat, by omega⟩
  obtain ⟨tg, ⟨hez, hrow⟩, rfl, rfl, hbl⟩ := hown
  simp only [Int.toNat_natCast]
  rcases hrow with ⟨hv, hb, rfl⟩ | ⟨k, cap, hv, hb, R⟩
  · have h1 : m1 = 0 := by simp at hj; omega
    have h2 : m2 = 0 := by simp at hj; omega
    subst h1 h2
    rw [hv]
    refine (walk_nil w).mono ?_
    rintro e w' ⟨rfl, rfl⟩
    exact ⟨_, pr, rfl, BelowB.refl _ _, fun _ _ _ => Iff.rfl, hlt, none, tg, ⟨hez, .inl ⟨hv, hb, rfl⟩⟩, hv.symm, hb, fun k hk => by cases hk⟩
  obtain ⟨us, e, fr, r1, r2, r3, r4⟩ := R.row
  have hT : ei.ty.size = 8 := by rw [E.tysz, hsz]
  have hkw : k < w.heap.size := (Array.getElem?_eq_some_iff.1 r1).1
  rw [hv]
  by_cases hm : m1 = m2
  · subst hm
    refine (walk_eq k l.length cap m1 w R.len (by omega)).mono ?_
    rintro e w' ⟨rfl, rfl⟩
    rw [List.take_append_drop]
    exact ⟨_, pr, rfl, BelowB.refl _ _, fun _ _ _ => Iff.rfl, hlt, some k, tg, ⟨hez, .inr ⟨k, cap, hv, hb, R⟩⟩, hv.symm, hb, fun k hk => by cases hk; exact hkw⟩
  have hzTR := zOf_TR (w := w) (pr := pr) (E.zrep hrep)
  have hm1 : m1 < m2 := by omega
  have hm2 : m2 ≤ l.length := by omega
  rw [hT] at r3
  refine (walk i0 z E.info E.zero (by rw [E.size, hsz]) (fun w => by simp [zeroValue, typeInfo, E.info, E.zero]) hzTR.one (by have := hzTR.len; rw [hT] at this; simpa using this) k l.length cap m1 m2 us e fr w r1 r2.1 R.len r3 (fun x v hx hxv => ?_) hm1 hm2).mono ?_
  · have hp : 0 < 8 := by decide
    have hq : x / 8 < l.length := by omega
    obtain ⟨vs, v1, v2, v3⟩ := r4 (x / 8) l[x / 8] (List.getElem?_eq_getElem hq)
    rw [hT] at v1 v2
    have hr : x % 8 < vs.length := by rw [v1]; exact Nat.mod_lt _ hp
    have := v2 (x % 8) vs[x % 8] (List.getElem?_eq_getElem hr)
    rw [show x / 8 * 8 + x % 8 = x by omega, hxv] at this
    cases this
    exact v3.one _ (List.getElem_mem _)
  rintro e' w' ⟨rfl, hB, us', q1, q2, q3, q4⟩
  have hBw : BelowB (bdE false w.heap.size pr tg.blk) w w' := hB _ _ (.inr hb)
  have hlen : (l.take m1 ++ l.drop m2).length = l.length - (m2 - m1) := by rw [List.length_append, List.length_take, List.length_drop]; omega
  have hkp : PrKeeps w pr w' pr := fun k' o p => ⟨p, cell_heap (hBw.block k' (fun hm => by
    rcases hm with h | h
    · have := hlt k' o p
      have h : w.heap.size ≤ k' := h
      omega
    · rw [hb] at h
      cases h
      exact R.prno rfl o p)) o⟩
  refine ⟨_, pr, rfl, hBw, fun _ _ _ => Iff.rfl, fun k' o p => Nat.lt_of_lt_of_le (hlt k' o p) hBw.size, some k, ⟨.slice (some ⟨k, 0, none⟩) (l.length - (m2 - m1)) cap, some k, ei.ty.size⟩, ⟨rfl, .inr ⟨k, cap, by rw [hlen], rfl, ?_⟩⟩, rfl, rfl, fun k' hk' => by cases hk'; exact Nat.lt_of_lt_of_le hkw hBw.size⟩
  refine ⟨.inr hb, by rw [hlen]; have := R.len; omega, ⟨us', e, fr, q1, by rw [q2]; exact r2, by rw [q2, hT]; exact r3, fun t x hx => ?_⟩, fun o p => absurd p (R.prno rfl o), (fun h => by cases h), R.prno⟩
  rw [hT]
  by_cases c : t < m1
  · have hx' : l[t]? = some x := by
      rw [List.getElem?_append_left (by rw [List.length_take]; omega), List.getElem?_take, if_pos c] at hx
      exact hx
    obtain ⟨vs, v1, v2, v3⟩ := r4 t x hx'
    rw [hT] at v1 v2
    exact ⟨vs, v1, fun a v ha => by
      have ha' := (List.getElem?_eq_some_iff.1 ha).1
      rw [q3 _ (by omega)]; exact v2 a v ha, v3.keeps hkp⟩
  · have hx' : l[m2 + (t - m1)]? = some x := by
      rw [List.getElem?_append_right (by rw [List.length_take]; omega), List.getElem?_drop, List.length_take, Nat.min_eq_left (by omega)] at hx
      exact hx
    have ht := (List.getElem?_eq_some_iff.1 hx').1
    obtain ⟨vs, v1, v2, v3⟩ := r4 _ x hx'
    rw [hT] at v1 v2
    exact ⟨vs, v1, fun a v ha => by
      have ha' := (List.getElem?_eq_some_iff.1 ha).1
      have := q4 ((t - m1) * 8 + a) (by omega)
      rw [show m1 * 8 + ((t - m1) * 8 + a) = t * 8 + a by omega, show m2 * 8 + ((t - m1) * 8 + a) = (m2 + (t - m1)) * 8 + a by omega] at this
      rw [this]; exact v2 a v ha, v3.keeps hkp⟩
end Go.Proofs.YtcgnmecbdleehaaDoor.Del79
end
section
set_option linter.unusedVariables false
set_option linter.unusedSimpArgs false
namespace Go.Proofs.YtcgnmecbdleehaaDoor.Grow61
open Go Go.RowKit Go.Shelf Go.Lib Go.Proofs Go.Proofs.YtcgnmecbdleehaaDoor Th
def Post (n : Nat) (z : Value) (w : World) (e : Ending) (w' : World) : Prop := (n = 0 ∧ e = .returned (.slice none 0 0) ∧ w' = w) ∨
      (0 < n ∧ ∃ G us, e = .returned (.slice (some ⟨w.heap.size, 0, none⟩) 0 G) ∧ w' = w.drew.alloc (.cells us 37) ∧ us = Builtin.zeroCells z.cells n ++ Builtin.zeroCells z.cells (G - n) ∧ n ≤ G)
set_option maxHeartbeats 4000000 in
set_option maxRecDepth 100000 in
theorem walk (i0 : TypeInfo) (z : Value) (hi0 : Tryd.prog.info? 37 = some i0) (hz0 : i0.zero = some z) (hs0 : 0 < i0.size) (n : Nat) (w : World) (hbig : n * i0.bytes ≤ 140737488355328) (h63 : n ≤ 4611686018427387904) :
    Calls Tryd.prog 61 #[.slice none 0 0, .int .i64 n] w (Post n z w) := by
  by_cases hn : n = 0
  · subst hn
    go_enter Tryd.func61, Tryd.ntmps61
    go_wp2
    go_ret
    exact .inl ⟨rfl, rfl, rfl⟩
  have hts : Tryd.prog.underlying 22 = some (.slice 37) := by kernel_rfl
  have hti : Tryd.prog.underlying 3 = some (.int .i64) := by kernel_rfl
  have h1 : ¬ ((n : Int) < 0) := by omega
  have h4 : (n : Int) > 0 := by omega
  have hold : (Builtin.firstCells i0.size 0 (.slice none 0 0)).run Tryd.prog w.drew = .ok ([] : List Value).toArray w.drew := run_firstCells_none w.drew i0.size 0 0 0
  have hrz : ∀ ty, (Builtin.append_ #[22, 3] ty #[.slice none 0 0, .int .i64 (n : Int)]).run Tryd.prog w =
      .ok (.slice (some ⟨w.heap.size, 0, none⟩) n (grownCap w n 0 37)) (w.drew.alloc (.cells (([] : List Value).toArray ++ Builtin.zeroCells z.cells n ++ Builtin.zeroCells z.cells (grownCap w n 0 37 - n)) 37)) := fun ty => by
    have h := Lib.run_append_grow_zeros w 22 3 ty 37 i0 z .i64 .i64 hts hti hi0 hz0 none 0 0 [] hold n (by omega) hs0 (by omega) (by omega) (by omega) (by rw [Nat.zero_add]; exact growslice_fits (by omega) hbig)
    rw [Nat.zero_add] at h
    exact h
  have hGn : n ≤ grownCap w n 0 37 := grownCap_ge w _ _ _
  obtain ⟨G, hG⟩ : ∃ G, G = grownCap w n 0 37 := ⟨_, rfl⟩
  rw [← hG] at hrz hGn
  obtain ⟨ROW, hROW⟩ : ∃ ROW : Array Value, ROW = ([] : List Value).toArray ++ Builtin.zeroCells z.cells n ++ Builtin.zeroCells z.cells (G - n) := ⟨_, rfl⟩
  rw [← hROW] at hrz
  have hpost : Post n z w (.returned (.slice (some ⟨w.heap.size, 0, none⟩) 0 G)) (w.drew.alloc (.cells ROW 37)) := .inr ⟨by omega, G, _, rfl, rfl, by rw [hROW]; simp, hGn⟩
  clear hROW
  have hG63 : G ≤ 9223372036854775807 := by
    have := grownCap_le_maxLen w n 0 37 (by unfold maxLen; omega)
    rw [← hG] at this
    unfold maxLen at this
    omega
  have hw : IntKind.i64.wrap (n : Int) = (n : Int) := by rw [IntKind.wrap_i64]; omega
  clear hold hG
  go_enter Tryd.func61, Tryd.ntmps61
  go_wp2_with (at_builtin; refine Lib.wpList_append_run _ rfl _ _ _ _ rfl _ _ rfl rfl _ _ (hrz _) ?_)
  all_goals (go_ret; exact hpost)
theorem calls {ei : TInfo} {d : TypeDesc} {i0 : TypeInfo} {z : Value} (E : TypeIs Tryd.prog 37 ei i0 d z) (hs0 : 0 < ei.size) (n : Int) (h0 : 0 ≤ n) (hbig : n * (ei.bytes : Int) ≤ 140737488355328) (h63 : n ≤ 4611686018427387904) :
    CallOK false Tryd.prog 61 [.nilsl, .int .i64 n] (.own ei.ty []) := by
  refine .inl ⟨rfl, ⟨_, Tryd.func61, rfl, rfl⟩, fun w pr us hlt hgl ha => ?_⟩
  obtain ⟨u1, u2, rfl⟩ : ∃ u1 u2, us = [u1, u2] := by
    have := ha.len
    match us, this with
    | [u1, u2], _ => exact ⟨u1, u2, rfl⟩
  obtain ⟨p1, p2, _⟩ := ha
  have e1 : u1 = .slice none 0 0 := by
    rcases p1 with h | ⟨cs, us, h, _⟩
    · exact h
    · cases h
  have e2 : u2 = .int .i64 n := by
    rcases p2 with h | ⟨cs, us, h, _⟩
    · exact h
    · cases h
  subst e1 e2
  obtain ⟨m, rfl⟩ : ∃ m : Nat, n = m := ⟨n.toNat, by omega⟩
  have hzsz : z.cells.size = ei.size := by have := (z0s_LR (w := w) (g := ⟨fun _ _ => False, fun _ => none, fun _ => none⟩) E.zrel).len; have := E.zlen; simp at *; omega
  refine (walk i0 z E.info E.zero (by rw [E.size]; exact hs0) m w (by rw [E.bytes]; have : ((m * ei.bytes : Nat) : Int) ≤ 140737488355328 := by rw [Int.natCast_mul]; exact hbig
                                                                      omega) (by omega)).mono ?_
  rintro e w' (⟨rfl, rfl, rfl⟩ | ⟨hm, G, us, rfl, rfl, rfl, hG⟩)
  · exact ⟨_, pr, rfl, .of0 (Below.refl _ _), fun _ _ _ => Iff.rfl, hlt, none, ⟨.slice none 0 0, none, ei.ty.size⟩, ⟨rfl, .inl ⟨rfl, rfl, rfl⟩⟩, rfl, rfl, fun k hk => by cases hk⟩
  · refine ⟨_, pr, rfl, .of0 (((Below.refl _ w).drew).alloc (Nat.le_refl _) _), fun _ _ _ => Iff.rfl, fun k o p => ?_, some w.heap.size, ⟨.slice (some ⟨w.heap.size, 0, none⟩) 0 G, some w.heap.size, ei.ty.size⟩,
      ⟨rfl, .inr ⟨w.heap.size, G, rfl, rfl, ?_⟩⟩, rfl, rfl, fun k hk => ?_⟩
    · have h1 : (w.drew.alloc (.cells (Builtin.zeroCells z.cells m ++ Builtin.zeroCells z.cells (G - m)) 37)).heap.size = w.heap.size + 1 := by show (w.heap.push _).size = _; simp
      rw [h1]; have := hlt k o p; omega
    · refine ⟨bd0_mine.2 (Nat.le_refl _), Nat.zero_le _, ⟨_, 37, (0, 0), alloc_new w.drew _, thawT0 _ _ _, ?_, fun j x hj => by simp at hj⟩, fun o p => absurd (hlt _ _ p) (by omega), fun h => (by cases h), fun _ o p => absurd (hlt _ _ p) (by omega)⟩
      rw [E.tysz]
      simp only [Array.size_append, size_zeroCells, hzsz]
      rw [← Nat.add_mul]
      exact Nat.mul_le_mul_right _ (by omega)
    · cases hk; show _ < (w.heap.push _).size; simp
end Go.Proofs.YtcgnmecbdleehaaDoor.Grow61
end
section
namespace Go.Proofs
open Go.Shelf
def Tryd.sortEn_ren : Go.Shelf.Ren := ⟨fun | 6 => 30 | 15 => 63 | 14 => 62 | 28 => 97 | 29 => 98 | 20 => 89 | 21 => 90 | 22 => 91 | 23 => 92 | 24 => 93 | 25 => 94 | 26 => 95 | 27 => 96 | 46 => 115 | 47 => 116 | 48 => 117 | 49 => 118 | 50 => 119 | 57 => 134 | n => n, fun | 22 => 22 | 24 => 37 | 25 => 69 | 3 => 3 | 39 => 100 | 0 => 0 | 53 => 32 | 55 => 35 | 4 => 4 | 46 => 142 | 45 => 141 | 50 => 104 | 5 => 5 | 9 => 9 | 66 => 173 | 70 => 177 | 76 => 197 | 77 => 198 | n => n, fun | n => n⟩
theorem Tryd.sortEn : Go.Proofs.SlLaysF0.n6 Tryd.prog Tryd.sortEn_ren := {
  mixed := by kernel_rfl
  f6 := ⟨Tryd.f30.name, by decide, Tryd.func30.trans (congrArg some (by kernel_rfl))⟩
  f14 := ⟨Tryd.f62.name, by decide, Tryd.func62.trans (congrArg some (by kernel_rfl))⟩
  f15 := Tryd.func63.trans (congrArg some (by kernel_rfl))
  f20 := ⟨Tryd.f89.name, by decide, Tryd.func89.trans (congrArg some (by kernel_rfl))⟩
  f21 := ⟨Tryd.f90.name, by decide, Tryd.func90.trans (congrArg some (by kernel_rfl))⟩
  f22 := ⟨Tryd.f91.name, by decide, Tryd.func91.trans (congrArg some (by kernel_rfl))⟩
  f23 := ⟨Tryd.f92.name, by decide, Tryd.func92.trans (congrArg some (by kernel_rfl))⟩
  f24 := ⟨Tryd.f93.name, by decide, Tryd.func93.trans (congrArg some (by kernel_rfl))⟩
  f25 := ⟨Tryd.f94.name, by decide, Tryd.func94.trans (congrArg some (by kernel_rfl))⟩
  f26 := ⟨Tryd.f95.name, by decide, Tryd.func95.trans (congrArg some (by kernel_rfl))⟩
  f27 := ⟨Tryd.f96.name, by decide, Tryd.func96.trans (congrArg some (by kernel_rfl))⟩
  f28 := Tryd.func97.trans (congrArg some (by kernel_rfl))
  f29 := Tryd.func98.trans (congrArg some (by kernel_rfl))
  f46 := ⟨Tryd.f115.name, by decide, Tryd.func115.trans (congrArg some (by kernel_rfl))⟩
  f47 := Tryd.func116.trans (congrArg some (by kernel_rfl))
  f48 := Tryd.func117.trans (congrArg some (by kernel_rfl))
  f49 := ⟨Tryd.f118.name, by decide, Tryd.func118.trans (congrArg some (by kernel_rfl))⟩
  f50 := ⟨Tryd.f119.name, by decide, Tryd.func119.trans (congrArg some (by kernel_rfl))⟩
  f57 := ⟨Tryd.f134.name, by decide, Tryd.func134.trans (congrArg some (by kernel_rfl))⟩
  t0 := Tryd.underlying0
  a0 := Tryd.isAgg0
  z0 := Tryd.sizeOf0
  v0 := Tryd.zeroValue0
  t3 := Tryd.underlying3
  a3 := Tryd.isAgg3
  z3 := Tryd.sizeOf3
  v3 := Tryd.zeroValue3
  t4 := Tryd.underlying4
  a4 := Tryd.isAgg4
  z4 := Tryd.sizeOf4
  v4 := Tryd.zeroValue4
  t5 := Tryd.underlying5
  a5 := Tryd.isAgg5
  z5 := Tryd.sizeOf5
  v5 := Tryd.zeroValue5
  t9 := Tryd.underlying9
  a9 := Tryd.isAgg9
  z9 := Tryd.sizeOf9
  v9 := Tryd.zeroValue9
  t22 := Tryd.underlying22
  a22 := Tryd.isAgg22
  z22 := Tryd.sizeOf22
  v22 := Tryd.zeroValue22
  t25 := Tryd.underlying69
  a25 := Tryd.isAgg69
  z25 := Tryd.sizeOf69
  v25 := Tryd.zeroValue69
  t39 := Tryd.underlying100
  a39 := Tryd.isAgg100
  z39 := Tryd.sizeOf100
  v39 := Tryd.zeroValue100
  t45 := Tryd.underlying141
  a45 := Tryd.isAgg141
  z45 := Tryd.sizeOf141
  v45 := Tryd.zeroValue141
  t46 := Tryd.underlying142
  a46 := Tryd.isAgg142
  z46 := Tryd.sizeOf142
  v46 := Tryd.zeroValue142
  t50 := Tryd.underlying104
  a50 := Tryd.isAgg104
  z50 := Tryd.sizeOf104
  v50 := Tryd.zeroValue104
  t53 := Tryd.underlying32
  a53 := Tryd.isAgg32
  z53 := Tryd.sizeOf32
  v53 := Tryd.zeroValue32
  t55 := Tryd.underlying35
  a55 := Tryd.isAgg35
  z55 := Tryd.sizeOf35
  v55 := Tryd.zeroValue35
  t66 := Tryd.underlying173
  a66 := Tryd.isAgg173
  z66 := Tryd.sizeOf173
  v66 := Tryd.zeroValue173
  t70 := Tryd.underlying177
  a70 := Tryd.isAgg177
  z70 := Tryd.sizeOf177
  v70 := Tryd.zeroValue177
  t76 := Tryd.underlying197
  a76 := Tryd.isAgg197
  z76 := Tryd.sizeOf197
  v76 := Tryd.zeroValue197
  t77 := Tryd.underlying198
  a77 := Tryd.isAgg198
  z77 := Tryd.sizeOf198
  v77 := Tryd.zeroValue198 }
end Go.Proofs
end
section
set_option linter.unusedVariables false
set_option linter.unusedSimpArgs false
namespace Go.Proofs.YtcgnmecbdleehaaDoor.Sort30
open Go Go.RowKit Go.Shelf Go.Proofs Go.Proofs.YtcgnmecbdleehaaDoor Th
def valA : AV → Value
  | .int k n => .int k n
  | .bool b => .bool b
  | .str s => strV s
  | _ => undef
def flatT : Ty → Bool
  | .int _ => true
  | .bool => true
  | .str => true
  | .st f => flatT f
  | .nil => true
  | .cons a b => flatT a && flatT b
  | _ => false
theorem TR_vals {w : World} {pr : Nat → Nat → Prop} : ∀ {T : Ty} {x : T.den} {cs : List Value}, flatT T = true → TR w pr T x cs → cs = (T.cells x).map valA := by
  intro T
  induction T with
  | int k => intro x cs _ h; exact h
  | bool => intro x cs _ h; exact h
  | str => intro x cs _ h; exact h
  | st f ih => intro x cs hf h; exact ih hf h
  | nil => intro x cs _ h; exact h
  | cons a b iha ihb =>
    rintro x cs hf ⟨c1, c2, rfl, h1, h2⟩
    have hf : (flatT a && flatT b) = true := hf
    rw [Bool.and_eq_true] at hf
    rw [iha hf.1 h1, ihb hf.2 h2]
    exact (List.map_append ..).symm
  | _ => intro x cs hf; cases hf
theorem vals_TR {w : World} {pr : Nat → Nat → Prop} : ∀ {T : Ty} (x : T.den), flatT T = true → TR w pr T x ((T.cells x).map valA) := by
  intro T
  induction T with
  | int k => intro x _; rfl
  | bool => intro x _; rfl
  | str => intro x _; rfl
  | st f ih => intro x hf; exact ih x hf
  | nil => intro x _; rfl
  | cons a b iha ihb =>
    intro x hf
    have hf : (flatT a && flatT b) = true := hf
    rw [Bool.and_eq_true] at hf
    exact ⟨_, _, List.map_append .., iha x.1 hf.1, ihb x.2 hf.2⟩
  | _ => intro x hf; cases hf
def cmpOf {α : Type} (c : α → α → Option (Int × Unit)) (x y : α) : Int := match c x y with
  | some r => r.1
  | none => 0
open Classical in
noncomputable def sortO {α : Type} (d0 : α) (c : α → α → Option (Int × Unit)) (l : List α) : Option (List α × Unit) :=
  if (∀ x y, ∃ n, c x y = some (n, ())) ∧ Go.Sort.SWO (ltOf (cmpOf c)) ∧ l.length < 4611686018427387904 then
    some ((@Go.Sort.pdq α ⟨d0⟩ (ltOf (cmpOf c)) l.toArray 0 l.toArray.size (Go.Lib.bitLen l.toArray.size) true true).toList, ())
  else none
theorem sortO_some {α : Type} {d0 : α} {c : α → α → Option (Int × Unit)} {l : List α} {r : List α × Unit} (h : sortO d0 c l = some r) :
    (∀ x y, ∃ n, c x y = some (n, ())) ∧ Go.Sort.SWO (ltOf (cmpOf c)) ∧ l.length < 4611686018427387904 ∧ r.1 = (@Go.Sort.pdq α ⟨d0⟩ (ltOf (cmpOf c)) l.toArray 0 l.toArray.size (Go.Lib.bitLen l.toArray.size) true true).toList := by
  unfold sortO at h
  split at h
  · rename_i hc
    cases h
    exact ⟨hc.1, hc.2.1, hc.2.2, rfl⟩
  · cases h
theorem sortO_is {α : Type} (d0 : α) {c : α → α → Option (Int × Unit)} {cf : α → α → Int} (hc : ∀ x y, c x y = some (cf x y, ())) (hO : Go.Sort.SWO (ltOf cf)) (l : List α) (hl : l.length < 4611686018427387904) :
    ∃ l', sortO d0 c l = some (l', ()) ∧ l'.Perm l ∧ ∀ (i j : Nat) (hj : j < l'.length) (hij : i < j), ¬ cf l'[j] (l'[i]'(Nat.lt_trans hij hj)) < 0 := by
  have e : cmpOf c = cf := by funext x y; unfold cmpOf; rw [hc x y]
  letI : Inhabited α := ⟨d0⟩
  have h := Go.Sort.pdq_sorts (ltOf cf) hO l.toArray 0 l.toArray.size (Go.Lib.bitLen l.toArray.size) true true (Nat.zero_le _) (Nat.le_refl _) (Or.inl rfl)
  have hs : sortO d0 c l = some ((Go.Sort.pdq (ltOf cf) l.toArray 0 l.toArray.size (Go.Lib.bitLen l.toArray.size) true true).toList, ()) := by
    unfold sortO; rw [if_pos ⟨fun x y => ⟨_, hc x y⟩, by rw [e]; exact hO, hl⟩, e]
  generalize Go.Sort.pdq (ltOf cf) l.toArray 0 l.toArray.size (Go.Lib.bitLen l.toArray.size) true true = D at h hs
  obtain ⟨⟨h1, h2, h3⟩, h4⟩ := h
  refine ⟨_, hs, ?_, ?_⟩
  · have a : D.extract 0 l.toArray.size = D := by rw [← h1]; simp
    have b : l.toArray.extract 0 l.toArray.size = l.toArray := by simp
    rw [a, b] at h3
    simpa using h3
  · intro i j hj hij hn
    have hj' : j < D.size := by simpa using hj
    have h5 := h4 i j (Nat.zero_le _) hij (by rw [← h1]; exact hj')
    unfold ltOf at h5
    have h6 := of_decide_eq_false h5
    rw [getElem!_pos D j hj', getElem!_pos D i (by omega)] at h6
    exact h6 (by simpa using hn)
theorem grown_of_below {W w' : World} (h : BelowM true W.heap.size W w') : ∃ q os', w' = Go.Sort.grow (W.drewN q) os' := by
  refine ⟨w'.drawn - W.drawn, w'.heap.extract W.heap.size w'.heap.size, ?_⟩
  have hd := h.dr rfl
  have h1 := h.os; have h2 := h.tape; have h3 := h.output; have h4 := h.size; have h5 := h.block
  obtain ⟨hp, tp, dr, os, ou⟩ := w'
  simp only at h1 h2 h3 h4 h5 hd
  subst h1 h2 h3
  unfold Go.Sort.grow World.drewN
  simp only [World.mk.injEq, true_and, and_true]
  refine ⟨?_, by omega⟩
  apply Array.ext_getElem?
  intro i
  by_cases hi : i < W.heap.size
  · rw [Array.getElem?_append_left hi, h5 i hi]
  · rw [Array.getElem?_append_right (by omega), Array.getElem?_extract]
    by_cases hi2 : i < hp.size
    · rw [if_pos (by omega)]; congr 1; omega
    · rw [if_neg (by omega), Array.getElem?_eq_none (by omega)]
section
variable {α : Type} [Inhabited α] (enc : α → List Value) (k : Nat) (w : World) (blk m : Nat) (d : Array α) (os : Array Obj)
theorem sw_heap {i : Nat} (hi : i < w.heap.size) (hne : blk ≠ i) : (sortWorldK enc k w blk 0 m d os).heap[i]? = w.heap[i]? := by
  show ((w.heap.modify blk _) ++ os)[i]? = _
  rw [Array.getElem?_append_left (by simpa using hi), Array.getElem?_modify, if_neg hne]
theorem sw_row {us : Array Value} {e : TypeId} {fr : Nat × Nat} (h : w.heap[blk]? = some (.cells us e fr)) : (sortWorldK enc k w blk 0 m d os).heap[blk]? = some (.cells (Go.Sort.putCells id 0 (Go.Sort.flatK enc k d) us) e fr) := by
  have hi : blk < w.heap.size := (Array.getElem?_eq_some_iff.1 h).1
  show ((w.heap.modify blk _) ++ os)[blk]? = _
  rw [Array.getElem?_append_left (by simpa using hi), Array.getElem?_modify, if_pos rfl]
  show Option.map _ w.heap[blk]? = _
  rw [h]; rfl
theorem sw_size : (sortWorldK enc k w blk 0 m d os).heap.size = w.heap.size + os.size := by
  show ((w.heap.modify blk _) ++ os).size = _
  simp
end
set_option maxHeartbeats 4000000 in
set_option maxRecDepth 100000 in
theorem ins_nil (w : World) (cl : Value) : Calls Tryd.prog 89 #[.slice none 0 0, .int .i64 0, .int .i64 0, cl] w fun e w' => e = .returned (.tuple #[]) ∧ w' = w := by
  have mixed : Tryd.prog.follows .mixedOrders = true := rfl
  go_enter Tryd.func89, Tryd.ntmps89
  go_wp2
  go_loopg [8] 0 (fun g1 vi wr => vi = .int .i64 1 ∧ wr = w)
  case atStart => exact ⟨rfl, rfl⟩
  case round =>
    obtain ⟨rfl, rfl⟩ := hrel
    go_wp2
    go_end0
    exact ⟨rfl, rfl⟩
set_option maxHeartbeats 4000000 in
set_option maxRecDepth 100000 in
theorem pdq_nil (w : World) (cl : Value) : Calls Tryd.prog 62 #[.slice none 0 0, .int .i64 0, .int .i64 0, .int .i64 0, cl] w fun e w' => e = .returned (.tuple #[]) ∧ w' = w := by
  have mixed : Tryd.prog.follows .mixedOrders = true := rfl
  have hins := ins_nil w cl
  go_enter Tryd.func62, Tryd.ntmps62
  go_wp2
  refine wp_loop_rounds 1 ?_
  rw [rounds_succ]
  go_wp2_with (go_at_call 89; refine hins.mono ?_; rintro e w' ⟨rfl, rfl⟩)
  (try simp only [Exit.inBlock, Exit.then]); refine bodyPost_ret (results_none rfl _ _ _) rfl ?_
  exact ⟨rfl, rfl⟩
set_option maxHeartbeats 4000000 in
set_option maxRecDepth 100000 in
theorem sort_nil (w : World) (cl : Value) : Calls Tryd.prog 30 #[.slice none 0 0, cl] w fun e w' => e = .returned (.tuple #[]) ∧ w' = w := by
  have mixed : Tryd.prog.follows .mixedOrders = true := rfl
  have hpdq := pdq_nil w cl
  have hlen : Calls Tryd.prog 63 #[.int .u64 0] w fun e w' => e = .returned (.int .i64 0) ∧ w' = w := by
    have h := Any.bits_Len (SlLaysF0.n15.bits (P := Tryd.prog) (ρ := Tryd.sortEn_ren) { Tryd.sortEn with }) 0 w (by omega) (by omega)
    exact h
  go_enter Tryd.func30, Tryd.ntmps30
  go_wp2_with (first | (go_at_call 63; refine hlen.mono ?_; rintro e w' ⟨rfl, rfl⟩) | (go_at_call 62; refine hpdq.mono ?_; rintro e w' ⟨rfl, rfl⟩))
  go_end0
  exact ⟨rfl, rfl⟩
theorem calls {ei : TInfo} {d : TypeDesc} {i0 : TypeInfo} {z : Value} (E : TypeIs Tryd.prog 37 ei i0 d z) (hrep : ei.rep = true) (hfl : flatT ei.ty = true) (hst : ei.ty.isSt = true) (hag : ei.kn.isSt = true) (hnb : ei.ty ≠ .int .u8)
    (c : ei.ty.den → ei.ty.den → Option (Int × Unit)) (hc : ∀ x y r, c x y = some r → CallPl Tryd.prog 31 [ei.ty.av x, ei.ty.av y] (.int .i64 r.1)) (l : List ei.ty.den) (r : List ei.ty.den × Unit) (hr : sortO ei.ty.dflt c l = some r) :
    CallOK false Tryd.prog 30 [.own ei.ty l, .fnv 31 .nil ()] (.back (.tup []) [.lent [], .own ei.ty r.1]) := by
  obtain ⟨hall, hO, hbig, hr1⟩ := sortO_some hr
  refine .inr (.inr ⟨_, _, _, [.own ei.ty r.1], rfl, rfl, ⟨_, Tryd.func30, rfl, rfl⟩, fun w pr u0 us b0 hlt hgl hown ha => ?_⟩)
  obtain ⟨u1, rfl⟩ : ∃ u1, us = [u1] := by
    have := ha.len
    match us, this with
    | [u1], _ => exact ⟨u1, rfl⟩
  have e1 : u1 = .func (.func 31) #[] #[] := by
    rcases ha.1 with h | ⟨_, _, h, _⟩
    · obtain ⟨us, e, h0⟩ := (show TR w pr (.clo 31 .nil) () [u1] from h)
      have h0 : us = [] := h0
      subst h0
      exact (List.cons.inj e).1
    · cases h
  subst e1
  obtain ⟨tg, ⟨hez, hrow⟩, rfl, rfl, hbl⟩ := hown
  rcases hrow with ⟨hv, hb, rfl⟩ | ⟨k, cap, hv, hb, R⟩
  · rw [hv]
    refine (sort_nil w _).mono ?_
    rintro e w' ⟨rfl, rfl⟩
    have hnil : r.1 = [] := by
      rw [hr1]
      letI : Inhabited ei.ty.den := ⟨ei.ty.dflt⟩
      have h := Go.Sort.pdq_sorts (ltOf (cmpOf c)) hO ([] : List ei.ty.den).toArray 0 ([] : List ei.ty.den).toArray.size (Go.Lib.bitLen ([] : List ei.ty.den).toArray.size) true true (Nat.zero_le _) (Nat.le_refl _) (Or.inl rfl)
      have h1 := h.1.1
      exact List.eq_nil_of_length_eq_zero (by simpa using h1)
    rw [hnil]
    exact ⟨_, pr, rfl, BelowB.refl _ _, fun _ _ _ => Iff.rfl, hlt, ⟨tg, ⟨hez, .inl ⟨hv, hb, rfl⟩⟩, hv.symm, rfl, fun k hk => by rw [hb] at hk; cases hk⟩, rfl, rfl⟩
  obtain ⟨us, e, fr, r1, r2, r3, r4⟩ := R.row
  have hkw : k < w.heap.size := (Array.getElem?_eq_some_iff.1 r1).1
  letI : Inhabited ei.ty.den := ⟨ei.ty.dflt⟩
  obtain ⟨enc, henc⟩ : ∃ enc : ei.ty.den → List Value, enc = fun x => (ei.ty.cells x).map valA := ⟨_, rfl⟩
  have hT : ∀ (x : ei.ty.den), TR w pr ei.ty x (enc x) := fun x => by rw [henc]; exact vals_TR x hfl
  have hk : ∀ x, (enc x).length = ei.ty.size := fun x => (hT x).len
  have h1 : ∀ x, ∀ v ∈ enc x, v.oneCell' = true := fun x => (hT x).one
  have hsz : 0 < ei.ty.size ∨ ei.ty.size = 0 := by omega
  have hfit : l.length * ei.ty.size ≤ us.size := Nat.le_trans (Nat.mul_le_mul_right _ R.len) r3
  have hH : Go.Sort.HoldsK enc ei.ty.size w k 0 l.toArray := by
    intro t ht
    rw [Go.Sort.size_flatK] at ht
    have ht' : t < l.length * ei.ty.size := by simpa using ht
    have hp : 0 < ei.ty.size := by rcases hsz with h | h; exact h; rw [h] at ht'; simp at ht'
    have hq : t / ei.ty.size < l.length := by rw [Nat.div_lt_iff_lt_mul hp]; exact ht'
    have hm := Nat.div_add_mod t ei.ty.size
    have hml : t % ei.ty.size < ei.ty.size := Nat.mod_lt _ hp
    rw [Go.Sort.get_flatK _ _ _ _ ht, Nat.zero_add]
    obtain ⟨vs, v1, v2, v3⟩ := r4 (t / ei.ty.size) l[t / ei.ty.size] (List.getElem?_eq_getElem hq)
    have hvs : vs = enc l[t / ei.ty.size] := by rw [henc]; exact TR_vals hfl v3
    have hd : l.toArray[t / ei.ty.size]! = l[t / ei.ty.size] := by rw [getElem!_pos l.toArray _ (by simpa using hq)]; simp
    rw [hd, ← hvs]
    have hg := v2 (t % ei.ty.size) vs[t % ei.ty.size] (List.getElem?_eq_getElem (by omega))
    rw [show t / ei.ty.size * ei.ty.size + t % ei.ty.size = t by rw [Nat.mul_comm]; exact hm] at hg
    refine ⟨?_, frozen_of r1 r2.1 (by omega)⟩
    rw [cell_of r1, hg, getElem!_pos vs _ (by omega)]
    rfl
  have hcmp : CmpLays Tryd.prog 31 #[] enc ei.ty.size (cmpOf c) k 0 l.toArray.size w := by
    intro m os dk hs x y
    obtain ⟨n, hn⟩ := hall x y
    have hcf : cmpOf c x y = n := by unfold cmpOf; rw [hn]
    obtain ⟨_, _, hcall⟩ := hc x y _ hn
    have hsw : ∀ i, i < w.heap.size → k ≠ i → (sortWorldK enc ei.ty.size w k 0 m dk os).heap[i]? = w.heap[i]? := fun i hi hne => sw_heap enc ei.ty.size w k m dk os hi hne
    have hss := sw_size enc ei.ty.size w k m dk os
    generalize sortWorldK enc ei.ty.size w k 0 m dk os = W at hsw hss ⊢
    have hpk : PrKeeps w pr W pr := fun i o p => ⟨p, cell_heap (hsw i (hlt i o p) fun e => by subst e; exact R.prno rfl o p) o⟩
    have hav : ∀ x : ei.ty.den, PV W pr (ei.ty.av x) (.agg (enc x).toArray) := fun x => by
      refine .inr ⟨ei.ty.cells x, enc x, ?_, rfl, cells_PR ((hT x).keeps hpk)⟩
      unfold Ty.av; rw [hst]
    refine (hcall W pr [.agg (enc x).toArray, .agg (enc y).toArray] (fun i o p => by have := hlt i o p; omega) (hgl.keeps hpk) ⟨hav x, hav y, trivial⟩).mono ?_
    rintro e w' ⟨ru, pr', rfl, hb, _, _, hres⟩
    obtain ⟨b, hres⟩ := hres
    refine ⟨?_, grown_of_below hb⟩
    rw [hcf]
    rcases hres.1 with h | ⟨_, _, h, _⟩
    · rw [show ru = .int .i64 n from h]
    · cases h
  have hsort := AnyQ.slices_SortFunc_eq (P := Tryd.prog) (ρ := Tryd.sortEn_ren) Tryd.sortEn ei.ty.size (fun w => by rw [show Tryd.sortEn_ren.t 24 = 37 from rfl, E.isAgg w, hag]) (fun w => by rw [show Tryd.sortEn_ren.t 24 = 37 from rfl, E.sizeOf, E.tysz]) enc hk h1 (cmpOf c) hO 31 #[] k 0 cap l.toArray w
    (enters_of Tryd.func31 (by kernel_rfl) rfl) hcmp hH hkw (by simpa using hbig)
  have hperm := Go.Sort.pdq_sorts (ltOf (cmpOf c)) hO l.toArray 0 l.toArray.size (Go.Lib.bitLen l.toArray.size) true true (Nat.zero_le _) (Nat.le_refl _) (Or.inl rfl)
  have hD : (Go.Sort.pdq (ltOf (cmpOf c)) l.toArray 0 l.toArray.size (Go.Lib.bitLen l.toArray.size) true true).size = l.length := by have := hperm.1.1; simpa using this
  clear hperm
  generalize Go.Sort.pdq (ltOf (cmpOf c)) l.toArray 0 l.toArray.size (Go.Lib.bitLen l.toArray.size) true true = D at hsort hr1 hD
  have hr2 : r.1.length = l.length := by rw [hr1]; simpa using hD
  rw [hv]
  have hsort : Calls Tryd.prog 30 #[.slice (some ⟨k, 0, none⟩) l.length cap, .func (.func 31) #[] #[]] w fun e w' => e = .returned (.tuple #[]) ∧ ∃ n os, w' = sortWorldK enc ei.ty.size w k 0 n D os := hsort
  refine hsort.mono ?_
  rintro e' w' ⟨rfl, n, os, rfl⟩
  have hsw : ∀ i, i < w.heap.size → k ≠ i → (sortWorldK enc ei.ty.size w k 0 n D os).heap[i]? = w.heap[i]? := fun i hi hne => sw_heap enc ei.ty.size w k n D os hi hne
  have hss := sw_size enc ei.ty.size w k n D os
  have hrow := sw_row enc ei.ty.size w k n D os r1
  have hBw : BelowB (bdE false w.heap.size pr tg.blk) w (sortWorldK enc ei.ty.size w k 0 n D os) :=
    ⟨rfl, rfl, rfl, by omega, fun i hi => hsw i (Bd.mine_lt hi) (fun e => hi (.inr (by rw [← e]; exact hb))), fun e => by cases e⟩
  generalize sortWorldK enc ei.ty.size w k 0 n D os = W at hsw hss hrow hBw ⊢
  have hpk : PrKeeps w pr W pr := fun i o p => ⟨p, cell_heap (hsw i (hlt i o p) fun e => by subst e; exact R.prno rfl o p) o⟩
  have hus : (Go.Sort.putCells id 0 (Go.Sort.flatK enc ei.ty.size D) us).size = us.size := by simp [Go.Sort.putCells]
  have hnew : RowOf W pr ei.ty r.1 (Go.Sort.putCells id 0 (Go.Sort.flatK enc ei.ty.size D) us) := by
    intro j x hx
    have hj : j < l.length := by rw [← hr2]; exact (List.getElem?_eq_some_iff.1 hx).1
    have hDj : D[j]! = x := by
      rw [hr1] at hx
      rw [getElem!_pos D j (by omega)]
      have : D[j]? = some x := by simpa using hx
      exact (Array.getElem?_eq_some_iff.1 this).2
    refine ⟨enc x, hk x, fun i v hv => ?_, (hT x).keeps hpk⟩
    have hi : i < ei.ty.size := by rw [← hk x]; exact (List.getElem?_eq_some_iff.1 hv).1
    have hjs : (j + 1) * ei.ty.size ≤ l.length * ei.ty.size := Nat.mul_le_mul_right _ hj
    have hjs2 : (j + 1) * ei.ty.size = j * ei.ty.size + ei.ty.size := by rw [Nat.add_mul]; omega
    have hfs : (Go.Sort.flatK enc ei.ty.size D).size = l.length * ei.ty.size := by rw [Go.Sort.size_flatK, hD]
    have hlt : j * ei.ty.size + i < us.size := by omega
    unfold Go.Sort.putCells
    rw [Array.getElem?_mapIdx, Array.getElem?_eq_getElem hlt]
    simp only [Option.map_some]
    rw [if_pos ⟨Nat.zero_le _, by omega⟩, Nat.sub_zero, Go.Sort.get_flatK _ _ _ _ (by rw [hD]; omega)]
    have hp : 0 < ei.ty.size := by omega
    have hdv : (j * ei.ty.size + i) / ei.ty.size = j := by rw [Nat.add_comm, Nat.add_mul_div_right _ _ hp, Nat.div_eq_of_lt hi]; omega
    have hmd : (j * ei.ty.size + i) % ei.ty.size = i := by rw [Nat.add_comm, Nat.add_mul_mod_self_right]; exact Nat.mod_eq_of_lt hi
    rw [hdv, hmd, hDj]
    obtain ⟨hi2, hv2⟩ := List.getElem?_eq_some_iff.1 hv
    rw [getElem!_pos (enc x) i hi2, hv2]; rfl
  refine ⟨_, pr, rfl, hBw, fun _ _ _ => Iff.rfl, fun i o p => by have := hlt i o p; omega, ⟨tg, ⟨hez, .inr ⟨k, cap, by rw [hr2]; exact hv, hb, ?_⟩⟩, hv.symm, rfl, fun i hi => by rw [hb] at hi; cases hi; omega⟩, rfl, rfl⟩
  exact ⟨.inr hb, by rw [hr2]; exact R.len, ⟨_, e, fr, hrow, by rw [hus]; exact r2, by rw [hus]; exact r3, hnew⟩, fun o p => absurd p (R.prno rfl o), (fun h => by cases h), fun _ => R.prno rfl⟩
end Go.Proofs.YtcgnmecbdleehaaDoor.Sort30
end
section
set_option linter.unusedVariables false
set_option linter.unusedSimpArgs false
namespace Go.Proofs.YtcgnmecbdleehaaDoor.G
open Go Go.Proofs.YtcgnmecbdleehaaDoor.Th
def til : List (Nat × TInfo) := [
  (3, ⟨.int .i64, 1, 8, (.int .i64), [.int .i64 0], [], [], true, false, [], []⟩),
  (4, ⟨.bool, 1, 1, .bool, [.bool false], [], [], true, false, [], []⟩),
  (5, ⟨.int .u8, 1, 1, (.int .u8), [.int .u8 0], [], [], true, false, [], []⟩),
  (9, ⟨.str, 1, 16, .str, [.str []], [], [], true, false, [], [(167, 8)]⟩),
  (22, ⟨.slice 37, 1, 24, (.slice (.st (.cons (.st (.cons (.int .u32) (.cons .str .nil))) (.cons (.int .i64) (.cons .str (.cons (.int .u64) (.cons .str (.cons (.int .i64) (.cons (.int .i64) .nil))))))))), [.nilsl], [], [], true, false, [], []⟩),
  (25, ⟨.slice 22, 1, 24, (.slice (.slice (.st (.cons (.st (.cons (.int .u32) (.cons .str .nil))) (.cons (.int .i64) (.cons .str (.cons (.int .u64) (.cons .str (.cons (.int .i64) (.cons (.int .i64) .nil)))))))))), [.nilsl], [], [], true, false, [], []⟩),
  (27, ⟨.struct, 2, 32, (.st (.cons (.int .i64) (.cons (.slice (.slice (.st (.cons (.st (.cons (.int .u32) (.cons .str .nil))) (.cons (.int .i64) (.cons .str (.cons (.int .u64) (.cons .str (.cons (.int .i64) (.cons (.int .i64) .nil)))))))))) .nil))), [.int .i64 0, .nilsl], [(0, 3), (1, 25)], [1, 1], true, false, [], []⟩),
  (28, ⟨.int .i64, 1, 8, (.int .i64), [.int .i64 0], [], [], true, false, [], []⟩),
  (32, ⟨.int .u32, 1, 4, (.int .u32), [.int .u32 0], [], [], true, false, [], []⟩),
  (34, ⟨.struct, 2, 24, (.st (.cons (.int .u32) (.cons .str .nil))), [.int .u32 0, .str []], [(0, 32), (1, 9)], [1, 1], true, true, [], []⟩),
  (35, ⟨.int .u64, 1, 8, (.int .u64), [.int .u64 0], [], [], true, false, [], []⟩),
  (37, ⟨.struct, 8, 88, (.st (.cons (.st (.cons (.int .u32) (.cons .str .nil))) (.cons (.int .i64) (.cons .str (.cons (.int .u64) (.cons .str (.cons (.int .i64) (.cons (.int .i64) .nil)))))))), [.int .u32 0, .str [], .int .i64 0, .str [], .int .u64 0, .str [], .int .i64 0, .int .i64 0], [(0, 34), (2, 3), (3, 9), (4, 35), (5, 9), (6, 3), (7, 3)], [2, 1, 1, 1, 1, 1, 1], true, true, [], []⟩),
  (50, ⟨.slice 59, 1, 24, (.slice (.slice (.int .u8))), [.nilsl], [], [], true, false, [], []⟩),
  (52, ⟨.struct, 6, 72, (.st (.cons (.int .i64) (.cons .str (.cons (.int .u64) (.cons (.int .u32) (.cons .str (.cons .str .nil))))))), [.int .i64 0, .str [], .int .u64 0, .int .u32 0, .str [], .str []], [(0, 3), (1, 9), (2, 35), (3, 32), (4, 9), (5, 9)], [1, 1, 1, 1, 1, 1], true, true, [], []⟩),
  (54, ⟨.other, 1, 8, .bool, [.nilfn], [], [], false, false, [], []⟩),
  (55, ⟨.slice 52, 1, 24, (.slice (.st (.cons (.int .i64) (.cons .str (.cons (.int .u64) (.cons (.int .u32) (.cons .str (.cons .str .nil)))))))), [.nilsl], [], [], true, false, [], []⟩),
  (57, ⟨.struct, 5, 56, (.st (.cons (.slice (.st (.cons (.int .i64) (.cons .str (.cons (.int .u64) (.cons (.int .u32) (.cons .str (.cons .str .nil)))))))) (.cons (.int .i64) (.cons (.int .i64) (.cons (.int .i64) (.cons (.int .i64) .nil)))))), [.nilsl, .int .i64 0, .int .i64 0, .int .i64 0, .int .i64 0], [(0, 55), (1, 3), (2, 3), (3, 3), (4, 3)], [1, 1, 1, 1, 1], true, false, [], []⟩),
  (59, ⟨.slice 5, 1, 24, (.slice (.int .u8)), [.nilsl], [], [], true, false, [], []⟩),
  (87, ⟨.slice 132, 1, 24, (.slice (.st (.cons (.int .i64) (.cons .str .nil)))), [.nilsl], [], [], true, false, [], []⟩),
  (89, ⟨.struct, 2, 40, (.st (.cons .str (.cons (.slice (.st (.cons (.int .i64) (.cons .str .nil)))) .nil))), [.str [], .nilsl], [(0, 9), (1, 87)], [1, 1], true, false, [], []⟩),
  (100, ⟨.int .u64, 1, 8, (.int .u64), [.int .u64 0], [], [], true, false, [], []⟩),
  (111, ⟨.struct, 3, 24, (.st (.cons (.int .i64) (.cons (.int .i64) (.cons (.int .i64) .nil)))), [.int .i64 0, .int .i64 0, .int .i64 0], [(0, 3), (1, 3), (2, 3)], [1, 1, 1], true, true, [], []⟩),
  (126, ⟨.struct, 2, 24, (.st (.cons (.st (.cons (.int .u32) (.cons .str .nil))) .nil)), [.int .u32 0, .str []], [(0, 34)], [2], true, true, [], []⟩),
  (130, ⟨.slice 3, 1, 24, (.slice (.int .i64)), [.nilsl], [], [], true, false, [], []⟩),
  (132, ⟨.struct, 2, 24, (.st (.cons (.int .i64) (.cons .str .nil))), [.int .i64 0, .str []], [(0, 3), (1, 9)], [1, 1], true, true, [], []⟩),
  (135, ⟨.struct, 2, 16, (.st (.cons (.int .u64) (.cons (.int .u64) .nil))), [.int .u64 0, .int .u64 0], [(0, 35), (1, 35)], [1, 1], true, true, [], []⟩),
  (156, ⟨.slice 111, 1, 24, (.slice (.st (.cons (.int .i64) (.cons (.int .i64) (.cons (.int .i64) .nil))))), [.nilsl], [], [], true, false, [], []⟩),
  (158, ⟨.struct, 2, 16, (.st (.cons (.int .i64) (.cons (.int .i64) .nil))), [.int .i64 0, .int .i64 0], [(0, 3), (1, 3)], [1, 1], true, true, [("paydesk/field.ahead", 159), ("paydesk/field.sized", 160)], []⟩),
  (160, ⟨.struct, 1, 8, (.st (.cons (.int .i64) .nil)), [.int .i64 0], [(0, 3)], [1], true, true, [("paydesk/field.ahead", 161), ("paydesk/field.sized", 162)], []⟩),
  (162, ⟨.struct, 2, 32, (.st (.cons (.slice (.int .u8)) (.cons .bool .nil))), [.nilsl, .bool false], [(0, 59), (1, 4)], [1, 1], true, false, [], []⟩)
]
noncomputable def TI : TEnv := tiOf til
theorem hT : TIok Tryd.prog TI := TIok.of (by kernel_rfl)
theorem hm : Tryd.prog.follows .mixedOrders = true := rfl
noncomputable def O_0 (_ : Nat) : Orc := fun _ _ _ _ => none
theorem ok_O_0 (k : Nat) : OrcOK (O_0 k) (CallPl Tryd.prog) := orc_none
noncomputable def c99 : Code := Tryd.f99.body.getD .skip
noncomputable def mi99 : Msk := ⟨[(.tmp 0, .val (.int .u32))], []⟩
noncomputable def mo99 : Msk := ⟨[(.tmp 2, .val .bool)], []⟩
noncomputable def L99 (k : Nat) : LOrc := fun _ _ _ _ => none
noncomputable def F99 (k : Nat) (v : mi99.den) : Option mo99.den := runF TI (O_0 k) (L99 k) c99 mi99 mo99 v
theorem lk99 (k : Nat) : LinksOK true Tryd.prog 6 (L99 k) c99 := (And.intro True.intro (And.intro True.intro True.intro))
theorem fn99 (k : Nat) (args : List AV) (x : mi99.den) (r : mo99.den) (h1 : args.length = mi99.items.length) (h2 : mi99.dec (Th.start args) = some x) (h3 : F99 k x = some r) : CallPl Tryd.prog 99 args (ansOf (outL mo99.items r)) :=
  call_ofP hm hT (ok_O_0 k) (fn := Tryd.f99) (c := c99) Tryd.func99 rfl rfl rfl (lk99 k) rfl (by decide) rfl (fun r => .inr ⟨_, rfl⟩) h1 h2 h3
noncomputable def O99 (k : Nat) : Orc := fun R f args K => bif Nat.beq f 99 then callF mi99 mo99 (F99 k) args K else O_0 k R f args K
theorem ok_O99 (k : Nat) : OrcOK (O99 k) (CallPl Tryd.prog) := orc_addPl (fn99 k) (ok_O_0 k)
noncomputable def c65 : Code := Tryd.f65.body.getD .skip
noncomputable def mi65 : Msk := ⟨[(.tmp 0, .val (.int .u32)), (.tmp 1, .val (.int .u32))], []⟩
noncomputable def mo65 : Msk := ⟨[(.tmp 4, .val (.int .i64))], []⟩
noncomputable def L65 (k : Nat) : LOrc := fun _ _ _ _ => none
noncomputable def F65 (k : Nat) (v : mi65.den) : Option mo65.den := runF TI (O99 k) (L65 k) c65 mi65 mo65 v
theorem lk65 (k : Nat) : LinksOK true Tryd.prog 20 (L65 k) c65 := (And.intro True.intro (And.intro True.intro (And.intro True.intro (And.intro (And.intro True.intro (And.intro (And.intro (And.intro True.intro (And.intro (And.intro True.intro True.intro) True.intro)) (And.intro True.intro True.intro)) True.intro)) (And.intro (And.intro True.intro (And.intro (And.intro True.intro True.intro) True.intro)) (And.intro (And.intro True.intro (And.intro (And.intro True.intro True.intro) True.intro)) (And.intro (And.intro True.intro (And.intro (And.intro True.intro True.intro) True.intro)) (And.intro True.intro True.intro))))))))
theorem fn65 (k : Nat) (args : List AV) (x : mi65.den) (r : mo65.den) (h1 : args.length = mi65.items.length) (h2 : mi65.dec (Th.start args) = some x) (h3 : F65 k x = some r) : CallPl Tryd.prog 65 args (ansOf (outL mo65.items r)) :=
  call_ofP hm hT (ok_O99 k) (fn := Tryd.f65) (c := c65) Tryd.func65 rfl rfl rfl (lk65 k) rfl (by decide) rfl (fun r => .inl ⟨_, _, rfl⟩) h1 h2 h3
noncomputable def O65 (k : Nat) : Orc := fun R f args K => bif Nat.beq f 65 then callF mi65 mo65 (F65 k) args K else O99 k R f args K
theorem ok_O65 (k : Nat) : OrcOK (O65 k) (CallPl Tryd.prog) := orc_addPl (fn65 k) (ok_O99 k)
noncomputable def c100 : Code := Tryd.f100.body.getD .skip
noncomputable def mi100 : Msk := ⟨[(.tmp 0, .val .str)], []⟩
noncomputable def mo100 : Msk := ⟨[(.tmp 2, .val .bool)], []⟩
noncomputable def L100 (k : Nat) : LOrc := fun _ _ _ _ => none
noncomputable def F100 (k : Nat) (v : mi100.den) : Option mo100.den := runF TI (O65 k) (L100 k) c100 mi100 mo100 v
theorem lk100 (k : Nat) : LinksOK true Tryd.prog 6 (L100 k) c100 := (And.intro True.intro (And.intro True.intro True.intro))
theorem fn100 (k : Nat) (args : List AV) (x : mi100.den) (r : mo100.den) (h1 : args.length = mi100.items.length) (h2 : mi100.dec (Th.start args) = some x) (h3 : F100 k x = some r) : CallPl Tryd.prog 100 args (ansOf (outL mo100.items r)) :=
  call_ofP hm hT (ok_O65 k) (fn := Tryd.f100) (c := c100) Tryd.func100 rfl rfl rfl (lk100 k) rfl (by decide) rfl (fun r => .inr ⟨_, rfl⟩) h1 h2 h3
noncomputable def O100 (k : Nat) : Orc := fun R f args K => bif Nat.beq f 100 then callF mi100 mo100 (F100 k) args K else O65 k R f args K
theorem ok_O100 (k : Nat) : OrcOK (O100 k) (CallPl Tryd.prog) := orc_addPl (fn100 k) (ok_O65 k)
noncomputable def c66 : Code := Tryd.f66.body.getD .skip
noncomputable def mi66 : Msk := ⟨[(.tmp 0, .val .str), (.tmp 1, .val .str)], []⟩
noncomputable def mo66 : Msk := ⟨[(.tmp 4, .val (.int .i64))], []⟩
noncomputable def L66 (k : Nat) : LOrc := fun _ _ _ _ => none
noncomputable def F66 (k : Nat) (v : mi66.den) : Option mo66.den := runF TI (O100 k) (L66 k) c66 mi66 mo66 v
theorem lk66 (k : Nat) : LinksOK true Tryd.prog 20 (L66 k) c66 := (And.intro True.intro (And.intro True.intro (And.intro True.intro (And.intro (And.intro True.intro (And.intro (And.intro (And.intro True.intro (And.intro (And.intro True.intro True.intro) True.intro)) (And.intro True.intro True.intro)) True.intro)) (And.intro (And.intro True.intro (And.intro (And.intro True.intro True.intro) True.intro)) (And.intro (And.intro True.intro (And.intro (And.intro True.intro True.intro) True.intro)) (And.intro (And.intro True.intro (And.intro (And.intro True.intro True.intro) True.intro)) (And.intro True.intro True.intro))))))))
theorem fn66 (k : Nat) (args : List AV) (x : mi66.den) (r : mo66.den) (h1 : args.length = mi66.items.length) (h2 : mi66.dec (Th.start args) = some x) (h3 : F66 k x = some r) : CallPl Tryd.prog 66 args (ansOf (outL mo66.items r)) :=
  call_ofP hm hT (ok_O100 k) (fn := Tryd.f66) (c := c66) Tryd.func66 rfl rfl rfl (lk66 k) rfl (by decide) rfl (fun r => .inl ⟨_, _, rfl⟩) h1 h2 h3
noncomputable def O66 (k : Nat) : Orc := fun R f args K => bif Nat.beq f 66 then callF mi66 mo66 (F66 k) args K else O100 k R f args K
theorem ok_O66 (k : Nat) : OrcOK (O66 k) (CallPl Tryd.prog) := orc_addPl (fn66 k) (ok_O100 k)
noncomputable def c64 : Code := Tryd.f64.body.getD .skip
noncomputable def mi64 : Msk := ⟨[(.tmp 0, .val (.slice (.int .i64)))], []⟩
noncomputable def mo64 : Msk := ⟨[(.tmp 2, .val (.int .i64))], []⟩
noncomputable def L64_3 (k : Nat) : LOrc := fun _ _ _ _ => none
noncomputable def b64_3 : Code := (findLoop 3 c64).getD .skip
noncomputable def m64_3 : Msk := ⟨[(.tmp 3, .val (.int .i64)), (.tmp 6, .val (.slice (.int .i64))), (.tmp 7, .val (.int .i64)), (.tmp 8, .val (.int .i64))], []⟩
noncomputable def x64_3 : List (X × Msk) := [(.exit 0, ⟨[(.tmp 3, .val (.int .i64))], []⟩), (.ret, ⟨[(.tmp 2, .val (.int .i64))], []⟩)]
noncomputable def F64_3 (k : Nat) : Nat → m64_3.den → Option (denE x64_3)
  | 0, _ => none
  | j + 1, v => round TI (O66 k) (L64_3 k) b64_3 m64_3 x64_3 (F64_3 k j) v
theorem lk64_3_ (k : Nat) : LinksOK true Tryd.prog 18 (L64_3 k) b64_3 := (And.intro True.intro (And.intro (And.intro True.intro True.intro) (And.intro (And.intro True.intro (And.intro True.intro (And.intro (And.intro True.intro True.intro) True.intro))) True.intro)))
noncomputable def L64 (k : Nat) : LOrc := fun R lk s K => match lk with
  | .loop r => bif Nat.beq r 3 then link m64_3 x64_3 (F64_3 k k) s K else none
  | .label l => none
theorem lk_L64_3 (k : Nat) : LoopOK true Tryd.prog 18 (L64 k) b64_3 := loopOK_of hm hT (ok_O66 k) (fun _ _ _ h => h.ok) rfl (lk64_3_ k) rfl rfl (F := F64_3 k) (fun _ => rfl) (fun _ _ => rfl) (n := k) fun _ _ _ => rfl
noncomputable def F64 (k : Nat) (v : mi64.den) : Option mo64.den := runF TI (O66 k) (L64 k) c64 mi64 mo64 v
theorem lk64 (k : Nat) : LinksOK true Tryd.prog 18 (L64 k) c64 := (And.intro True.intro (And.intro True.intro (And.intro (And.intro True.intro (lk_L64_3 k)) (And.intro True.intro True.intro))))
theorem fn64 (k : Nat) (args : List AV) (x : mi64.den) (r : mo64.den) (h1 : args.length = mi64.items.length) (h2 : mi64.dec (Th.start args) = some x) (h3 : F64 k x = some r) : CallPl Tryd.prog 64 args (ansOf (outL mo64.items r)) :=
  call_ofP hm hT (ok_O66 k) (fn := Tryd.f64) (c := c64) Tryd.func64 rfl rfl rfl (lk64 k) rfl (by decide) rfl (fun r => .inl ⟨_, _, rfl⟩) h1 h2 h3
noncomputable def O64 (k : Nat) : Orc := fun R f args K => bif Nat.beq f 64 then callF mi64 mo64 (F64 k) args K else O66 k R f args K
theorem ok_O64 (k : Nat) : OrcOK (O64 k) (CallPl Tryd.prog) := orc_addPl (fn64 k) (ok_O66 k)
noncomputable def c32 : Code := Tryd.f32.body.getD .skip
noncomputable def mi32 : Msk := ⟨[(.tmp 0, .val (.st (.cons (.int .u32) (.cons .str .nil)))), (.tmp 1, .val (.st (.cons (.int .u32) (.cons .str .nil))))], []⟩
noncomputable def mo32 : Msk := ⟨[(.tmp 4, .val (.int .i64))], []⟩
noncomputable def L32 (k : Nat) : LOrc := fun _ _ _ _ => none
noncomputable def F32 (k : Nat) (v : mi32.den) : Option mo32.den := runF TI (O64 k) (L32 k) c32 mi32 mo32 v
theorem lk32 (k : Nat) : LinksOK true Tryd.prog 17 (L32 k) c32 := (And.intro True.intro (And.intro True.intro True.intro))
theorem fn32 (k : Nat) (args : List AV) (x : mi32.den) (r : mo32.den) (h1 : args.length = mi32.items.length) (h2 : mi32.dec (Th.start args) = some x) (h3 : F32 k x = some r) : CallPl Tryd.prog 32 args (ansOf (outL mo32.items r)) :=
  call_ofP hm hT (ok_O64 k) (fn := Tryd.f32) (c := c32) Tryd.func32 rfl rfl rfl (lk32 k) rfl (by decide) rfl (fun r => .inl ⟨_, _, rfl⟩) h1 h2 h3
noncomputable def O32 (k : Nat) : Orc := fun R f args K => bif Nat.beq f 32 then callF mi32 mo32 (F32 k) args K else O64 k R f args K
theorem ok_O32 (k : Nat) : OrcOK (O32 k) (CallPl Tryd.prog) := orc_addPl (fn32 k) (ok_O64 k)
noncomputable def c31 : Code := Tryd.f31.body.getD .skip
noncomputable def mi31 : Msk := ⟨[(.tmp 0, .val (.st (.cons (.st (.cons (.int .u32) (.cons .str .nil))) (.cons (.int .i64) (.cons .str (.cons (.int .u64) (.cons .str (.cons (.int .i64) (.cons (.int .i64) .nil))))))))), (.tmp 1, .val (.st (.cons (.st (.cons (.int .u32) (.cons .str .nil))) (.cons (.int .i64) (.cons .str (.cons (.int .u64) (.cons .str (.cons (.int .i64) (.cons (.int .i64) .nil)))))))))], []⟩
noncomputable def mo31 : Msk := ⟨[(.tmp 4, .val (.int .i64))], []⟩
noncomputable def L31 (k : Nat) : LOrc := fun _ _ _ _ => none
noncomputable def F31 (k : Nat) (v : mi31.den) : Option mo31.den := runF TI (O32 k) (L31 k) c31 mi31 mo31 v
theorem lk31 (k : Nat) : LinksOK true Tryd.prog 10 (L31 k) c31 := (And.intro True.intro (And.intro True.intro True.intro))
theorem fn31 (k : Nat) (args : List AV) (x : mi31.den) (r : mo31.den) (h1 : args.length = mi31.items.length) (h2 : mi31.dec (Th.start args) = some x) (h3 : F31 k x = some r) : CallPl Tryd.prog 31 args (ansOf (outL mo31.items r)) :=
  call_ofP hm hT (ok_O32 k) (fn := Tryd.f31) (c := c31) Tryd.func31 rfl rfl rfl (lk31 k) rfl (by decide) rfl (fun r => .inl ⟨_, _, rfl⟩) h1 h2 h3
noncomputable def O31 (k : Nat) : Orc := fun R f args K => bif Nat.beq f 31 then callF mi31 mo31 (F31 k) args K else O32 k R f args K
theorem ok_O31 (k : Nat) : OrcOK (O31 k) (CallPl Tryd.prog) := orc_addPl (fn31 k) (ok_O32 k)
noncomputable def Opl (k : Nat) : Orc := O31 k
theorem ok_Opl (k : Nat) : OrcOK (Opl k) (CallOK false Tryd.prog) := fun R f args K r h => by
  obtain ⟨v, hv, hk⟩ := ok_O31 k R f args K r h
  exact ⟨v, hv.any, hk⟩
noncomputable def c105 : Code := Tryd.f105.body.getD .skip
noncomputable def mi105 : Msk := ⟨[(.tmp 0, .val (.int .i64))], []⟩
noncomputable def mo105 : Msk := ⟨[(.tmp 2, .val .bool)], []⟩
noncomputable def L105 (k : Nat) : LOrc := fun _ _ _ _ => none
noncomputable def F105 (k : Nat) (v : mi105.den) : Option mo105.den := runF TI (Opl k) (L105 k) c105 mi105 mo105 v
theorem lk105 (k : Nat) : LinksOK false Tryd.prog 9 (L105 k) c105 := (And.intro True.intro (And.intro (And.intro True.intro (And.intro (And.intro True.intro (And.intro True.intro (And.intro True.intro (And.intro True.intro (And.intro True.intro (And.intro True.intro True.intro)))))) (And.intro (And.intro True.intro True.intro) True.intro))) (And.intro True.intro True.intro)))
theorem fn105 (k : Nat) (args : List AV) (x : mi105.den) (r : mo105.den) (h1 : args.length = mi105.items.length) (h2 : mi105.dec (Th.start args) = some x) (h3 : F105 k x = some r) : CallOK false Tryd.prog 105 args (ansOf (outL mo105.items r)) :=
  call_of hm hT (ok_Opl k) (fn := Tryd.f105) (c := c105) Tryd.func105 rfl rfl rfl (lk105 k) rfl (by decide) rfl h1 h2 h3
noncomputable def O105 (k : Nat) : Orc := fun R f args K => bif Nat.beq f 105 then callF mi105 mo105 (F105 k) args K else Opl k R f args K
theorem ok_O105 (k : Nat) : OrcOK (O105 k) (CallOK false Tryd.prog) := orc_add (fn105 k) (ok_Opl k)
noncomputable def c72 : Code := Tryd.f72.body.getD .skip
noncomputable def mi72 : Msk := ⟨[(.tmp 0, .val .str)], []⟩
noncomputable def mo72 : Msk := ⟨[(.tmp 2, .val .bool)], []⟩
noncomputable def L72_g0 (k : Nat) : LOrc := fun _ _ _ _ => none
noncomputable def b72_g0 : Code := (findScope 0 c72).getD .skip
noncomputable def l72_g0 : List (X × Msk) := [(.goto 0, ⟨[(.tmp 0, .val .str), (.tmp 3, .val (.int .i64))], []⟩)]
noncomputable def x72_g0 : List (X × Msk) := [(.ret, ⟨[(.tmp 2, .val .bool)], []⟩)]
noncomputable def F72_g0 (k : Nat) : Nat → denE l72_g0 → Option (denE x72_g0)
  | 0, _ => none
  | j + 1, v => pass TI (O105 k) (L72_g0 k) b72_g0 l72_g0 x72_g0 (F72_g0 k j) v
theorem lk72_g0_ (k : Nat) : LinksOK false Tryd.prog 22 (L72_g0 k) b72_g0 := (And.intro True.intro (And.intro True.intro (And.intro (And.intro True.intro (And.intro (And.intro True.intro True.intro) True.intro)) (And.intro (And.intro True.intro (And.intro (And.intro True.intro True.intro) True.intro)) (And.intro True.intro True.intro)))))
noncomputable def L72 (k : Nat) : LOrc := fun R lk s K => match lk with
  | .loop r => none
  | .label l => (match findLabel b72_g0 l with | some _ => linkJ l72_g0 x72_g0 (F72_g0 k k) l s K | none => none)
theorem lk_L72_g0 (k : Nat) : JumpsOK false Tryd.prog 22 (L72 k) b72_g0 := jumpsOK_of hm hT (ok_O105 k) (fun _ _ _ h => h) rfl (lk72_g0_ k) rfl rfl (F := F72_g0 k) (fun _ => rfl) (fun _ _ => rfl) (n := k) fun R l s K rest hf => by
  show (match findLabel b72_g0 l with | some _ => linkJ l72_g0 x72_g0 (F72_g0 k k) l s K | none => none) = _
  rw [hf]
noncomputable def F72 (k : Nat) (v : mi72.den) : Option mo72.den := runF TI (O105 k) (L72 k) c72 mi72 mo72 v
theorem lk72 (k : Nat) : LinksOK false Tryd.prog 22 (L72 k) c72 := (And.intro True.intro (And.intro (lk_L72_g0 k) (And.intro True.intro (And.intro True.intro (And.intro (And.intro True.intro (And.intro (And.intro True.intro True.intro) True.intro)) (And.intro (And.intro True.intro (And.intro (And.intro True.intro True.intro) True.intro)) (And.intro True.intro True.intro)))))))
theorem fn72 (k : Nat) (args : List AV) (x : mi72.den) (r : mo72.den) (h1 : args.length = mi72.items.length) (h2 : mi72.dec (Th.start args) = some x) (h3 : F72 k x = some r) : CallOK false Tryd.prog 72 args (ansOf (outL mo72.items r)) :=
  call_of hm hT (ok_O105 k) (fn := Tryd.f72) (c := c72) Tryd.func72 rfl rfl rfl (lk72 k) rfl (by decide) rfl h1 h2 h3
noncomputable def O72 (k : Nat) : Orc := fun R f args K => bif Nat.beq f 72 then callF mi72 mo72 (F72 k) args K else O105 k R f args K
theorem ok_O72 (k : Nat) : OrcOK (O72 k) (CallOK false Tryd.prog) := orc_add (fn72 k) (ok_O105 k)
noncomputable def F73 (k : Nat) (v : List UInt8 × Bool × Unit) : Option (Int × Unit) := sel (decide (v.1.length ≤ 9223372036854775807)) (some ((Sum.sumOf (Sum.backs (toBytes v.1)) v.2.1).1, ())) none
noncomputable def O73 (k : Nat) : Orc := fun R f args K => bif Nat.beq f 73 then (match args with | [.str b, .bool t] => ocall (F73 k (b, t, ())) fun r => K (.int .i64 r.1) | _ => none) else O72 k R f args K
theorem ok_O73 (k : Nat) : OrcOK (O73 k) (CallOK false Tryd.prog) := by
  intro R f args K r h
  unfold O73 at h
  cases hb : Nat.beq f 73 with
  | false => rw [hb] at h; exact ok_O72 k R f args K r h
  | true =>
    rw [hb] at h
    rw [Nat.eq_of_beq_eq_true hb]
    simp only [cond_true] at h
    split at h
    · rename_i b t
      unfold F73 at h
      by_cases hl : b.length ≤ 9223372036854775807
      · rw [sel_pos hl] at h
        exact ⟨_, Sum.fn73 b hl t, h⟩
      · rw [sel_neg hl] at h; cases h
    · cases h
noncomputable def c39 : Code := Tryd.f39.body.getD .skip
noncomputable def mi39 : Msk := ⟨[(.tmp 0, .val .str)], []⟩
noncomputable def mo39 : Msk := ⟨[(.tmp 2, .val .bool)], []⟩
noncomputable def L39 (k : Nat) : LOrc := fun _ _ _ _ => none
noncomputable def F39 (k : Nat) (v : mi39.den) : Option mo39.den := runF TI (O73 k) (L39 k) c39 mi39 mo39 v
theorem lk39 (k : Nat) : LinksOK false Tryd.prog 11 (L39 k) c39 := (And.intro True.intro (And.intro True.intro True.intro))
theorem fn39 (k : Nat) (args : List AV) (x : mi39.den) (r : mo39.den) (h1 : args.length = mi39.items.length) (h2 : mi39.dec (Th.start args) = some x) (h3 : F39 k x = some r) : CallOK false Tryd.prog 39 args (ansOf (outL mo39.items r)) :=
  call_of hm hT (ok_O73 k) (fn := Tryd.f39) (c := c39) Tryd.func39 rfl rfl rfl (lk39 k) rfl (by decide) rfl h1 h2 h3
noncomputable def O39 (k : Nat) : Orc := fun R f args K => bif Nat.beq f 39 then callF mi39 mo39 (F39 k) args K else O73 k R f args K
theorem ok_O39 (k : Nat) : OrcOK (O39 k) (CallOK false Tryd.prog) := orc_add (fn39 k) (ok_O73 k)
noncomputable def c82 : Code := Tryd.f82.body.getD .skip
noncomputable def mi82 : Msk := ⟨[(.tmp 0, .val (.int .i64))], []⟩
noncomputable def mo82 : Msk := ⟨[(.tmp 2, .val .str)], []⟩
noncomputable def L82 (k : Nat) : LOrc := fun _ _ _ _ => none
noncomputable def F82 (k : Nat) (v : mi82.den) : Option mo82.den := runF TI (O39 k) (L82 k) c82 mi82 mo82 v
theorem lk82 (k : Nat) : LinksOK false Tryd.prog 12 (L82 k) c82 := (And.intro True.intro (And.intro (And.intro True.intro (And.intro (And.intro True.intro True.intro) True.intro)) (And.intro True.intro True.intro)))
theorem fn82 (k : Nat) (args : List AV) (x : mi82.den) (r : mo82.den) (h1 : args.length = mi82.items.length) (h2 : mi82.dec (Th.start args) = some x) (h3 : F82 k x = some r) : CallOK false Tryd.prog 82 args (ansOf (outL mo82.items r)) :=
  call_of hm hT (ok_O39 k) (fn := Tryd.f82) (c := c82) Tryd.func82 rfl rfl rfl (lk82 k) rfl (by decide) rfl h1 h2 h3
noncomputable def O82 (k : Nat) : Orc := fun R f args K => bif Nat.beq f 82 then callF mi82 mo82 (F82 k) args K else O39 k R f args K
theorem ok_O82 (k : Nat) : OrcOK (O82 k) (CallOK false Tryd.prog) := orc_add (fn82 k) (ok_O39 k)
noncomputable def c77 : Code := Tryd.f77.body.getD .skip
noncomputable def mi77 : Msk := ⟨[(.tmp 0, .val (.int .u64)), (.tmp 1, .val (.int .i64))], []⟩
noncomputable def mo77 : Msk := ⟨[(.tmp 4, .val .str), (.tmp 5, .val (.int .i64))], []⟩
noncomputable def L77_5 (k : Nat) : LOrc := fun _ _ _ _ => none
noncomputable def b77_5 : Code := (findLoop 5 c77).getD .skip
noncomputable def m77_5 : Msk := ⟨[(.tmp 0, .val (.int .u64)), (.tmp 6, .row false (.int .u8)), (.tmp 7, .val (.int .i64))], []⟩
noncomputable def x77_5 : List (X × Msk) := [(.exit 0, ⟨[(.tmp 0, .val (.int .u64)), (.tmp 6, .row false (.int .u8))], []⟩)]
noncomputable def F77_5 (k : Nat) : Nat → m77_5.den → Option (denE x77_5)
  | 0, _ => none
  | j + 1, v => round TI (O82 k) (L77_5 k) b77_5 m77_5 x77_5 (F77_5 k j) v
theorem lk77_5_ (k : Nat) : LinksOK false Tryd.prog 35 (L77_5 k) b77_5 := (And.intro (And.intro True.intro (And.intro True.intro True.intro)) (And.intro (And.intro True.intro True.intro) True.intro))
noncomputable def L77 (k : Nat) : LOrc := fun R lk s K => match lk with
  | .loop r => bif Nat.beq r 5 then link m77_5 x77_5 (F77_5 k k) s K else none
  | .label l => none
theorem lk_L77_5 (k : Nat) : LoopOK false Tryd.prog 35 (L77 k) b77_5 := loopOK_of hm hT (ok_O82 k) (fun _ _ _ h => h) rfl (lk77_5_ k) rfl rfl (F := F77_5 k) (fun _ => rfl) (fun _ _ => rfl) (n := k) fun _ _ _ => rfl
noncomputable def F77 (k : Nat) (v : mi77.den) : Option mo77.den := runF TI (O82 k) (L77 k) c77 mi77 mo77 v
theorem lk77 (k : Nat) : LinksOK false Tryd.prog 35 (L77 k) c77 := (And.intro True.intro (And.intro (And.intro True.intro (And.intro (And.intro True.intro True.intro) True.intro)) (And.intro True.intro (And.intro (And.intro True.intro (lk_L77_5 k)) (And.intro (And.intro True.intro (And.intro (And.intro True.intro True.intro) True.intro)) (And.intro True.intro True.intro))))))
theorem fn77 (k : Nat) (args : List AV) (x : mi77.den) (r : mo77.den) (h1 : args.length = mi77.items.length) (h2 : mi77.dec (Th.start args) = some x) (h3 : F77 k x = some r) : CallOK false Tryd.prog 77 args (ansOf (outL mo77.items r)) :=
  call_of hm hT (ok_O82 k) (fn := Tryd.f77) (c := c77) Tryd.func77 rfl rfl rfl (lk77 k) rfl (by decide) rfl h1 h2 h3
noncomputable def O77 (k : Nat) : Orc := fun R f args K => bif Nat.beq f 77 then callF mi77 mo77 (F77 k) args K else O82 k R f args K
theorem ok_O77 (k : Nat) : OrcOK (O77 k) (CallOK false Tryd.prog) := orc_add (fn77 k) (ok_O82 k)
noncomputable def c83 : Code := Tryd.f83.body.getD .skip
noncomputable def mi83 : Msk := ⟨[(.tmp 0, .val (.st (.cons (.int .i64) (.cons .str (.cons (.int .u64) (.cons (.int .u32) (.cons .str (.cons .str .nil))))))))], []⟩
noncomputable def mo83 : Msk := ⟨[(.tmp 2, .row false (.st (.cons (.int .i64) (.cons .str .nil))))], []⟩
noncomputable def L83 (k : Nat) : LOrc := fun _ _ _ _ => none
noncomputable def F83 (k : Nat) (v : mi83.den) : Option mo83.den := runF TI (O77 k) (L83 k) c83 mi83 mo83 v
theorem lk83 (k : Nat) : LinksOK false Tryd.prog 57 (L83 k) c83 := (And.intro True.intro (And.intro True.intro (And.intro True.intro (And.intro (And.intro True.intro (And.intro (And.intro True.intro True.intro) True.intro)) (And.intro True.intro (And.intro True.intro (And.intro (And.intro True.intro (And.intro True.intro True.intro)) (And.intro True.intro True.intro))))))))
theorem fn83 (k : Nat) (args : List AV) (x : mi83.den) (r : mo83.den) (h1 : args.length = mi83.items.length) (h2 : mi83.dec (Th.start args) = some x) (h3 : F83 k x = some r) : CallOK false Tryd.prog 83 args (ansOf (outL mo83.items r)) :=
  call_of hm hT (ok_O77 k) (fn := Tryd.f83) (c := c83) Tryd.func83 rfl rfl rfl (lk83 k) rfl (by decide) rfl h1 h2 h3
noncomputable def O83 (k : Nat) : Orc := fun R f args K => bif Nat.beq f 83 then callF mi83 mo83 (F83 k) args K else O77 k R f args K
theorem ok_O83 (k : Nat) : OrcOK (O83 k) (CallOK false Tryd.prog) := orc_add (fn83 k) (ok_O77 k)
noncomputable def c74 : Code := Tryd.f74.body.getD .skip
noncomputable def mi74 : Msk := ⟨[(.tmp 0, .val (.int .i64))], []⟩
noncomputable def mo74 : Msk := ⟨[(.res 2, .val (.st (.cons (.int .i64) (.cons (.int .i64) (.cons (.int .i64) .nil))))), (.tmp 3, .val .bool)], []⟩
noncomputable def L74_2 (k : Nat) : LOrc := fun _ _ _ _ => none
noncomputable def b74_2 : Code := (findLoop 2 c74).getD .skip
noncomputable def m74_2 : Msk := ⟨[(.tmp 0, .val (.int .i64)), (.tmp 2, .ptr 2 0), (.tmp 21, .row false (.st (.cons (.int .i64) (.cons (.int .i64) (.cons (.int .i64) .nil))))), (.tmp 22, .val (.int .i64)), (.tmp 23, .val (.int .i64)), (.cell 2 0, .val (.int .i64)), (.cell 2 1, .val (.int .i64)), (.cell 2 2, .val (.int .i64))], [(2, 3)]⟩
noncomputable def x74_2 : List (X × Msk) := [(.exit 0, ⟨[(.tmp 2, .ptr 2 0), (.cell 2 0, .val (.int .i64)), (.cell 2 1, .val (.int .i64)), (.cell 2 2, .val (.int .i64))], [(2, 3)]⟩), (.ret, ⟨[(.tmp 2, .ptr 2 0), (.tmp 3, .val .bool), (.cell 2 0, .val (.int .i64)), (.cell 2 1, .val (.int .i64)), (.cell 2 2, .val (.int .i64))], [(2, 3)]⟩)]
noncomputable def F74_2 (k : Nat) : Nat → m74_2.den → Option (denE x74_2)
  | 0, _ => none
  | j + 1, v => round TI (O83 k) (L74_2 k) b74_2 m74_2 x74_2 (F74_2 k j) v
theorem lk74_2_ (k : Nat) : LinksOK false Tryd.prog 34 (L74_2 k) b74_2 := (And.intro True.intro (And.intro (And.intro True.intro True.intro) (And.intro (And.intro True.intro (And.intro True.intro (And.intro (And.intro True.intro True.intro) True.intro))) True.intro)))
noncomputable def L74 (k : Nat) : LOrc := fun R lk s K => match lk with
  | .loop r => bif Nat.beq r 2 then link m74_2 x74_2 (F74_2 k k) s K else none
  | .label l => none
theorem lk_L74_2 (k : Nat) : LoopOK false Tryd.prog 34 (L74 k) b74_2 := loopOK_of hm hT (ok_O83 k) (fun _ _ _ h => h) rfl (lk74_2_ k) rfl rfl (F := F74_2 k) (fun _ => rfl) (fun _ _ => rfl) (n := k) fun _ _ _ => rfl
noncomputable def F74 (k : Nat) (v : mi74.den) : Option mo74.den := runF TI (O83 k) (L74 k) c74 mi74 mo74 v
theorem lk74 (k : Nat) : LinksOK false Tryd.prog 34 (L74 k) c74 := (And.intro True.intro (And.intro (And.intro True.intro (lk_L74_2 k)) (And.intro True.intro True.intro)))
theorem fn74 (k : Nat) (args : List AV) (x : mi74.den) (r : mo74.den) (h1 : args.length = mi74.items.length) (h2 : mi74.dec (Th.start args) = some x) (h3 : F74 k x = some r) : CallOK false Tryd.prog 74 args (ansOf (outL mo74.items r)) :=
  call_of hm hT (ok_O83 k) (fn := Tryd.f74) (c := c74) Tryd.func74 rfl rfl rfl (lk74 k) rfl (by decide) rfl h1 h2 h3
noncomputable def O74 (k : Nat) : Orc := fun R f args K => bif Nat.beq f 74 then callF mi74 mo74 (F74 k) args K else O83 k R f args K
theorem ok_O74 (k : Nat) : OrcOK (O74 k) (CallOK false Tryd.prog) := orc_add (fn74 k) (ok_O83 k)
noncomputable def c75 : Code := Tryd.f75.body.getD .skip
noncomputable def mi75 : Msk := ⟨[(.tmp 0, .val (.st (.cons (.int .i64) (.cons (.int .i64) (.cons (.int .i64) .nil)))))], []⟩
noncomputable def mo75 : List Msk := [⟨[(.tmp 2, .val (.ifc 158 (.st (.cons (.int .i64) (.cons (.int .i64) .nil)))))], []⟩, ⟨[(.tmp 2, .val (.ifc 160 (.st (.cons (.int .i64) .nil))))], []⟩]
noncomputable def L75 (k : Nat) : LOrc := fun _ _ _ _ => none
noncomputable def F75 (k : Nat) (v : mi75.den) : Option (denA mo75) := runA TI (O74 k) (L75 k) c75 mi75 mo75 v
theorem lk75 (k : Nat) : LinksOK false Tryd.prog 22 (L75 k) c75 := (And.intro True.intro (And.intro (And.intro True.intro (And.intro (And.intro True.intro (And.intro True.intro True.intro)) (And.intro (And.intro True.intro True.intro) (And.intro True.intro (And.intro (And.intro True.intro True.intro) True.intro))))) (And.intro True.intro True.intro)))
theorem fn75 (k : Nat) (args : List AV) (x : mi75.den) (r : (denA mo75)) (h1 : args.length = mi75.items.length) (h2 : mi75.dec (Th.start args) = some x) (h3 : F75 k x = some r) : CallOK false Tryd.prog 75 args (valA mo75 r) :=
  call_ofA hm hT (ok_O74 k) (fn := Tryd.f75) (c := c75) Tryd.func75 rfl rfl rfl (lk75 k) rfl (by decide) rfl h1 h2 h3
noncomputable def O75 (k : Nat) : Orc := fun R f args K => bif Nat.beq f 75 then callA mi75 mo75 (F75 k) args K else O74 k R f args K
theorem ok_O75 (k : Nat) : OrcOK (O75 k) (CallOK false Tryd.prog) := orc_addA (fn75 k) (ok_O74 k)
noncomputable def c160 : Code := Tryd.f160.body.getD .skip
noncomputable def mi160 : Msk := ⟨[(.tmp 0, .val (.st (.cons (.int .i64) (.cons (.int .i64) .nil)))), (.tmp 1, .val (.int .i64))], []⟩
noncomputable def mo160 : Msk := ⟨[(.tmp 4, .val .bool)], []⟩
noncomputable def L160 (k : Nat) : LOrc := fun _ _ _ _ => none
noncomputable def F160 (k : Nat) (v : mi160.den) : Option mo160.den := runF TI (O75 k) (L160 k) c160 mi160 mo160 v
theorem lk160 (k : Nat) : LinksOK false Tryd.prog 13 (L160 k) c160 := (And.intro True.intro (And.intro True.intro True.intro))
theorem fn160 (k : Nat) (args : List AV) (x : mi160.den) (r : mo160.den) (h1 : args.length = mi160.items.length) (h2 : mi160.dec (Th.start args) = some x) (h3 : F160 k x = some r) : CallOK false Tryd.prog 160 args (ansOf (outL mo160.items r)) :=
  call_of hm hT (ok_O75 k) (fn := Tryd.f160) (c := c160) Tryd.func160 rfl rfl rfl (lk160 k) rfl (by decide) rfl h1 h2 h3
noncomputable def O160 (k : Nat) : Orc := fun R f args K => bif Nat.beq f 160 then callF mi160 mo160 (F160 k) args K else O75 k R f args K
theorem ok_O160 (k : Nat) : OrcOK (O160 k) (CallOK false Tryd.prog) := orc_add (fn160 k) (ok_O75 k)
noncomputable def c162 : Code := Tryd.f162.body.getD .skip
noncomputable def mi162 : Msk := ⟨[(.tmp 0, .val (.st (.cons (.int .i64) .nil))), (.tmp 1, .val (.int .i64))], []⟩
noncomputable def mo162 : Msk := ⟨[(.tmp 4, .val .bool)], []⟩
noncomputable def L162 (k : Nat) : LOrc := fun _ _ _ _ => none
noncomputable def F162 (k : Nat) (v : mi162.den) : Option mo162.den := runF TI (O160 k) (L162 k) c162 mi162 mo162 v
theorem lk162 (k : Nat) : LinksOK false Tryd.prog 9 (L162 k) c162 := (And.intro True.intro (And.intro True.intro True.intro))
theorem fn162 (k : Nat) (args : List AV) (x : mi162.den) (r : mo162.den) (h1 : args.length = mi162.items.length) (h2 : mi162.dec (Th.start args) = some x) (h3 : F162 k x = some r) : CallOK false Tryd.prog 162 args (ansOf (outL mo162.items r)) :=
  call_of hm hT (ok_O160 k) (fn := Tryd.f162) (c := c162) Tryd.func162 rfl rfl rfl (lk162 k) rfl (by decide) rfl h1 h2 h3
noncomputable def O162 (k : Nat) : Orc := fun R f args K => bif Nat.beq f 162 then callF mi162 mo162 (F162 k) args K else O160 k R f args K
theorem ok_O162 (k : Nat) : OrcOK (O162 k) (CallOK false Tryd.prog) := orc_add (fn162 k) (ok_O160 k)
noncomputable def F76 (k : Nat) (v : (Int × Int × Int × Unit) × List UInt8 × Unit) : Option (Bool × Unit) := sel (decide (v.2.1.length ≤ 9223372036854775807)) (ocall (α := Bool × Unit) (F72 k ((v.2.1, ()) : List UInt8 × Unit)) fun r => some (Signs.signsOf v.1.2.1 r.1 v.2.1, ())) none
noncomputable def O76 (k : Nat) : Orc := fun R f args K => bif Nat.beq f 76 then (match args with | [.agg [.int .i64 a, .int .i64 b, .int .i64 c], .str s] => ocall (F76 k ((a, b, c, ()), s, ())) fun r => K (.bool r.1) | _ => none) else O162 k R f args K
theorem ok_O76 (k : Nat) : OrcOK (O76 k) (CallOK false Tryd.prog) := by
  intro R f args K r h
  unfold O76 at h
  cases hb : Nat.beq f 76 with
  | false => rw [hb] at h; exact ok_O162 k R f args K r h
  | true =>
    rw [hb] at h
    rw [Nat.eq_of_beq_eq_true hb]
    simp only [cond_true] at h
    split at h
    · rename_i a b c s
      obtain ⟨y, hy, h⟩ := obind_some h
      unfold F76 at hy
      by_cases hl : s.length ≤ 9223372036854775807
      · rw [sel_pos hl] at hy
        obtain ⟨d, hd, hy⟩ := obind_some hy
        cases hy
        exact ⟨_, Signs.fn76 a b c s hl d.1 (fn72 k [.str s] ((s, ()) : List UInt8 × Unit) d rfl rfl hd), h⟩
      · rw [sel_neg hl] at hy; cases hy
    · cases h
noncomputable def c40 : Code := Tryd.f40.body.getD .skip
noncomputable def mi40 : Msk := ⟨[(.tmp 0, .val (.int .i64)), (.tmp 1, .val .str)], []⟩
noncomputable def mo40 : Msk := ⟨[(.tmp 4, .val .bool)], []⟩
noncomputable def L40 (k : Nat) : LOrc := fun _ _ _ _ => none
noncomputable def F40 (k : Nat) (v : mi40.den) : Option mo40.den := runF TI (O76 k) (L40 k) c40 mi40 mo40 v
theorem lk40 (k : Nat) : LinksOK false Tryd.prog 25 (L40 k) c40 := (And.intro True.intro (And.intro True.intro (And.intro True.intro True.intro)))
theorem fn40 (k : Nat) (args : List AV) (x : mi40.den) (r : mo40.den) (h1 : args.length = mi40.items.length) (h2 : mi40.dec (Th.start args) = some x) (h3 : F40 k x = some r) : CallOK false Tryd.prog 40 args (ansOf (outL mo40.items r)) :=
  call_of hm hT (ok_O76 k) (fn := Tryd.f40) (c := c40) Tryd.func40 rfl rfl rfl (lk40 k) rfl (by decide) rfl h1 h2 h3
noncomputable def O40 (k : Nat) : Orc := fun R f args K => bif Nat.beq f 40 then callF mi40 mo40 (F40 k) args K else O76 k R f args K
theorem ok_O40 (k : Nat) : OrcOK (O40 k) (CallOK false Tryd.prog) := orc_add (fn40 k) (ok_O76 k)
noncomputable def c110 : Code := Tryd.f110.body.getD .skip
noncomputable def mi110 : Msk := ⟨[(.tmp 0, .val .str)], []⟩
noncomputable def mo110 : Msk := ⟨[(.tmp 2, .val .bool)], []⟩
noncomputable def L110 (k : Nat) : LOrc := fun _ _ _ _ => none
noncomputable def F110 (k : Nat) (v : mi110.den) : Option mo110.den := runF TI (O40 k) (L110 k) c110 mi110 mo110 v
theorem lk110 (k : Nat) : LinksOK false Tryd.prog 12 (L110 k) c110 := (And.intro True.intro (And.intro (And.intro True.intro (And.intro (And.intro True.intro (And.intro True.intro (And.intro True.intro (And.intro True.intro (And.intro True.intro (And.intro True.intro (And.intro True.intro (And.intro True.intro (And.intro True.intro (And.intro True.intro (And.intro True.intro (And.intro True.intro True.intro)))))))))))) (And.intro (And.intro True.intro True.intro) True.intro))) (And.intro True.intro True.intro)))
theorem fn110 (k : Nat) (args : List AV) (x : mi110.den) (r : mo110.den) (h1 : args.length = mi110.items.length) (h2 : mi110.dec (Th.start args) = some x) (h3 : F110 k x = some r) : CallOK false Tryd.prog 110 args (ansOf (outL mo110.items r)) :=
  call_of hm hT (ok_O40 k) (fn := Tryd.f110) (c := c110) Tryd.func110 rfl rfl rfl (lk110 k) rfl (by decide) rfl h1 h2 h3
noncomputable def O110 (k : Nat) : Orc := fun R f args K => bif Nat.beq f 110 then callF mi110 mo110 (F110 k) args K else O40 k R f args K
theorem ok_O110 (k : Nat) : OrcOK (O110 k) (CallOK false Tryd.prog) := orc_add (fn110 k) (ok_O40 k)
noncomputable def c84 : Code := Tryd.f84.body.getD .skip
noncomputable def mi84 : Msk := ⟨[(.tmp 0, .val (.st (.cons .str (.cons (.slice (.st (.cons (.int .i64) (.cons .str .nil)))) .nil))))], []⟩
noncomputable def mo84 : Msk := ⟨[(.tmp 2, .val .bool)], []⟩
noncomputable def L84_3 (k : Nat) : LOrc := fun _ _ _ _ => none
noncomputable def b84_3 : Code := (findLoop 3 c84).getD .skip
noncomputable def m84_3 : Msk := ⟨[(.tmp 1, .ptr 1 0), (.tmp 3, .val (.int .i64)), (.tmp 7, .val (.slice (.st (.cons (.int .i64) (.cons .str .nil))))), (.tmp 8, .val (.int .i64)), (.tmp 9, .val (.int .i64)), (.cell 1 0, .val .str), (.cell 1 1, .val (.slice (.st (.cons (.int .i64) (.cons .str .nil)))))], [(1, 2)]⟩
noncomputable def x84_3 : List (X × Msk) := [(.exit 0, ⟨[(.tmp 1, .ptr 1 0), (.cell 1 0, .val .str), (.cell 1 1, .val (.slice (.st (.cons (.int .i64) (.cons .str .nil)))))], [(1, 2)]⟩), (.ret, ⟨[(.tmp 2, .val .bool)], []⟩)]
noncomputable def F84_3 (k : Nat) : Nat → m84_3.den → Option (denE x84_3)
  | 0, _ => none
  | j + 1, v => round TI (O110 k) (L84_3 k) b84_3 m84_3 x84_3 (F84_3 k j) v
theorem lk84_3_ (k : Nat) : LinksOK false Tryd.prog 37 (L84_3 k) b84_3 := (And.intro True.intro (And.intro (And.intro True.intro True.intro) (And.intro (And.intro True.intro (And.intro (And.intro True.intro (And.intro (And.intro True.intro True.intro) True.intro)) True.intro)) True.intro)))
noncomputable def L84 (k : Nat) : LOrc := fun R lk s K => match lk with
  | .loop r => bif Nat.beq r 3 then link m84_3 x84_3 (F84_3 k k) s K else none
  | .label l => none
theorem lk_L84_3 (k : Nat) : LoopOK false Tryd.prog 37 (L84 k) b84_3 := loopOK_of hm hT (ok_O110 k) (fun _ _ _ h => h) rfl (lk84_3_ k) rfl rfl (F := F84_3 k) (fun _ => rfl) (fun _ _ => rfl) (n := k) fun _ _ _ => rfl
noncomputable def F84 (k : Nat) (v : mi84.den) : Option mo84.den := runF TI (O110 k) (L84 k) c84 mi84 mo84 v
theorem lk84 (k : Nat) : LinksOK false Tryd.prog 37 (L84 k) c84 := (And.intro True.intro (And.intro True.intro (And.intro (And.intro True.intro (lk_L84_3 k)) (And.intro True.intro True.intro))))
theorem fn84 (k : Nat) (args : List AV) (x : mi84.den) (r : mo84.den) (h1 : args.length = mi84.items.length) (h2 : mi84.dec (Th.start args) = some x) (h3 : F84 k x = some r) : CallOK false Tryd.prog 84 args (ansOf (outL mo84.items r)) :=
  call_of hm hT (ok_O110 k) (fn := Tryd.f84) (c := c84) Tryd.func84 rfl rfl rfl (lk84 k) rfl (by decide) rfl h1 h2 h3
noncomputable def O84 (k : Nat) : Orc := fun R f args K => bif Nat.beq f 84 then callF mi84 mo84 (F84 k) args K else O110 k R f args K
theorem ok_O84 (k : Nat) : OrcOK (O84 k) (CallOK false Tryd.prog) := orc_add (fn84 k) (ok_O110 k)
noncomputable def c71 : Code := Tryd.f71.body.getD .skip
noncomputable def mi71 : Msk := ⟨[(.tmp 0, .val (.st (.cons (.int .i64) (.cons .str (.cons (.int .u64) (.cons (.int .u32) (.cons .str (.cons .str .nil))))))))], []⟩
noncomputable def mo71 : Msk := ⟨[(.tmp 2, .val .bool)], []⟩
noncomputable def L71 (k : Nat) : LOrc := fun _ _ _ _ => none
noncomputable def F71 (k : Nat) (v : mi71.den) : Option mo71.den := runF TI (O84 k) (L71 k) c71 mi71 mo71 v
theorem lk71 (k : Nat) : LinksOK false Tryd.prog 30 (L71 k) c71 := (And.intro True.intro (And.intro (And.intro True.intro (And.intro (And.intro True.intro (And.intro (And.intro True.intro True.intro) True.intro)) (And.intro True.intro (And.intro (And.intro True.intro True.intro) True.intro)))) (And.intro True.intro True.intro)))
theorem fn71 (k : Nat) (args : List AV) (x : mi71.den) (r : mo71.den) (h1 : args.length = mi71.items.length) (h2 : mi71.dec (Th.start args) = some x) (h3 : F71 k x = some r) : CallOK false Tryd.prog 71 args (ansOf (outL mo71.items r)) :=
  call_of hm hT (ok_O84 k) (fn := Tryd.f71) (c := c71) Tryd.func71 rfl rfl rfl (lk71 k) rfl (by decide) rfl h1 h2 h3
noncomputable def O71 (k : Nat) : Orc := fun R f args K => bif Nat.beq f 71 then callF mi71 mo71 (F71 k) args K else O84 k R f args K
theorem ok_O71 (k : Nat) : OrcOK (O71 k) (CallOK false Tryd.prog) := orc_add (fn71 k) (ok_O84 k)
noncomputable def c17 : Code := Tryd.f17.body.getD .skip
noncomputable def mi17 : Msk := ⟨[(.tmp 0, .val (.st (.cons (.int .u32) (.cons .str .nil))))], []⟩
noncomputable def mo17 : Msk := ⟨[(.tmp 2, .val .bool)], []⟩
noncomputable def L17 (k : Nat) : LOrc := fun _ _ _ _ => none
noncomputable def F17 (k : Nat) (v : mi17.den) : Option mo17.den := runF TI (O71 k) (L17 k) c17 mi17 mo17 v
theorem lk17 (k : Nat) : LinksOK false Tryd.prog 7 (L17 k) c17 := (And.intro True.intro (And.intro True.intro True.intro))
theorem fn17 (k : Nat) (args : List AV) (x : mi17.den) (r : mo17.den) (h1 : args.length = mi17.items.length) (h2 : mi17.dec (Th.start args) = some x) (h3 : F17 k x = some r) : CallOK false Tryd.prog 17 args (ansOf (outL mo17.items r)) :=
  call_of hm hT (ok_O71 k) (fn := Tryd.f17) (c := c17) Tryd.func17 rfl rfl rfl (lk17 k) rfl (by decide) rfl h1 h2 h3
noncomputable def O17 (k : Nat) : Orc := fun R f args K => bif Nat.beq f 17 then callF mi17 mo17 (F17 k) args K else O71 k R f args K
theorem ok_O17 (k : Nat) : OrcOK (O17 k) (CallOK false Tryd.prog) := orc_add (fn17 k) (ok_O71 k)
noncomputable def c5 : Code := Tryd.f5.body.getD .skip
noncomputable def mi5 : Msk := ⟨[(.tmp 0, .val (.slice (.slice (.int .u8)))), (.tmp 1, .val (.slice (.slice (.int .u8)))), (.tmp 2, .val (.st (.cons (.int .u32) (.cons .str .nil)))), (.tmp 3, .val (.st (.cons (.int .i64) (.cons .str (.cons (.int .u64) (.cons (.int .u32) (.cons .str (.cons .str .nil)))))))), (.tmp 4, .val (.int .u8))], []⟩
noncomputable def mo5 : Msk := ⟨[(.tmp 10, .val .bool)], []⟩
noncomputable def L5 (k : Nat) : LOrc := fun _ _ _ _ => none
noncomputable def F5 (k : Nat) (v : mi5.den) : Option mo5.den := runF TI (O17 k) (L5 k) c5 mi5 mo5 v
theorem lk5 (k : Nat) : LinksOK false Tryd.prog 171 (L5 k) c5 := (And.intro True.intro (And.intro (And.intro True.intro (And.intro (And.intro True.intro True.intro) True.intro)) (And.intro (And.intro True.intro (And.intro (And.intro True.intro True.intro) True.intro)) (And.intro True.intro (And.intro True.intro (And.intro (And.intro True.intro (And.intro (And.intro True.intro True.intro) True.intro)) (And.intro True.intro (And.intro True.intro (And.intro True.intro (And.intro (And.intro True.intro (And.intro (And.intro True.intro True.intro) True.intro)) (And.intro (And.intro True.intro (And.intro (And.intro True.intro True.intro) True.intro)) (And.intro True.intro (And.intro (And.intro True.intro (And.intro (And.intro True.intro True.intro) True.intro)) (And.intro True.intro True.intro))))))))))))))
theorem fn5 (k : Nat) (args : List AV) (x : mi5.den) (r : mo5.den) (h1 : args.length = mi5.items.length) (h2 : mi5.dec (Th.start args) = some x) (h3 : F5 k x = some r) : CallOK false Tryd.prog 5 args (ansOf (outL mo5.items r)) :=
  call_of hm hT (ok_O17 k) (fn := Tryd.f5) (c := c5) Tryd.func5 rfl rfl rfl (lk5 k) rfl (by decide) rfl h1 h2 h3
noncomputable def O5 (k : Nat) : Orc := fun R f args K => bif Nat.beq f 5 then callF mi5 mo5 (F5 k) args K else O17 k R f args K
theorem ok_O5 (k : Nat) : OrcOK (O5 k) (CallOK false Tryd.prog) := orc_add (fn5 k) (ok_O17 k)
noncomputable def c35 : Code := Tryd.f35.body.getD .skip
noncomputable def mi35 : Msk := ⟨[(.tmp 0, .val (.st (.cons (.int .i64) (.cons (.slice (.slice (.st (.cons (.st (.cons (.int .u32) (.cons .str .nil))) (.cons (.int .i64) (.cons .str (.cons (.int .u64) (.cons .str (.cons (.int .i64) (.cons (.int .i64) .nil)))))))))) .nil))))], []⟩
noncomputable def mo35 : Msk := ⟨[(.tmp 2, .val (.int .i64))], []⟩
noncomputable def L35_3 (k : Nat) : LOrc := fun _ _ _ _ => none
noncomputable def b35_3 : Code := (findLoop 3 c35).getD .skip
noncomputable def m35_3 : Msk := ⟨[(.tmp 3, .val (.int .i64)), (.tmp 7, .val (.slice (.slice (.st (.cons (.st (.cons (.int .u32) (.cons .str .nil))) (.cons (.int .i64) (.cons .str (.cons (.int .u64) (.cons .str (.cons (.int .i64) (.cons (.int .i64) .nil))))))))))), (.tmp 8, .val (.int .i64)), (.tmp 9, .val (.int .i64))], []⟩
noncomputable def x35_3 : List (X × Msk) := [(.exit 0, ⟨[(.tmp 3, .val (.int .i64))], []⟩)]
noncomputable def F35_3 (k : Nat) : Nat → m35_3.den → Option (denE x35_3)
  | 0, _ => none
  | j + 1, v => round TI (O5 k) (L35_3 k) b35_3 m35_3 x35_3 (F35_3 k j) v
theorem lk35_3_ (k : Nat) : LinksOK false Tryd.prog 19 (L35_3 k) b35_3 := (And.intro True.intro (And.intro (And.intro True.intro True.intro) (And.intro (And.intro True.intro True.intro) True.intro)))
noncomputable def L35 (k : Nat) : LOrc := fun R lk s K => match lk with
  | .loop r => bif Nat.beq r 3 then link m35_3 x35_3 (F35_3 k k) s K else none
  | .label l => none
theorem lk_L35_3 (k : Nat) : LoopOK false Tryd.prog 19 (L35 k) b35_3 := loopOK_of hm hT (ok_O5 k) (fun _ _ _ h => h) rfl (lk35_3_ k) rfl rfl (F := F35_3 k) (fun _ => rfl) (fun _ _ => rfl) (n := k) fun _ _ _ => rfl
noncomputable def F35 (k : Nat) (v : mi35.den) : Option mo35.den := runF TI (O5 k) (L35 k) c35 mi35 mo35 v
theorem lk35 (k : Nat) : LinksOK false Tryd.prog 19 (L35 k) c35 := (And.intro True.intro (And.intro True.intro (And.intro (And.intro True.intro (lk_L35_3 k)) (And.intro True.intro True.intro))))
theorem fn35 (k : Nat) (args : List AV) (x : mi35.den) (r : mo35.den) (h1 : args.length = mi35.items.length) (h2 : mi35.dec (Th.start args) = some x) (h3 : F35 k x = some r) : CallOK false Tryd.prog 35 args (ansOf (outL mo35.items r)) :=
  call_of hm hT (ok_O5 k) (fn := Tryd.f35) (c := c35) Tryd.func35 rfl rfl rfl (lk35 k) rfl (by decide) rfl h1 h2 h3
noncomputable def O35 (k : Nat) : Orc := fun R f args K => bif Nat.beq f 35 then callF mi35 mo35 (F35 k) args K else O5 k R f args K
theorem ok_O35 (k : Nat) : OrcOK (O35 k) (CallOK false Tryd.prog) := orc_add (fn35 k) (ok_O5 k)
noncomputable def c38 : Code := Tryd.f38.body.getD .skip
noncomputable def mi38 : Msk := ⟨[(.tmp 0, .val (.st (.cons (.int .u32) (.cons .str .nil))))], []⟩
noncomputable def mo38 : Msk := ⟨[(.tmp 2, .val .bool)], []⟩
noncomputable def L38 (k : Nat) : LOrc := fun _ _ _ _ => none
noncomputable def F38 (k : Nat) (v : mi38.den) : Option mo38.den := runF TI (O35 k) (L38 k) c38 mi38 mo38 v
theorem lk38 (k : Nat) : LinksOK false Tryd.prog 9 (L38 k) c38 := (And.intro True.intro (And.intro True.intro True.intro))
theorem fn38 (k : Nat) (args : List AV) (x : mi38.den) (r : mo38.den) (h1 : args.length = mi38.items.length) (h2 : mi38.dec (Th.start args) = some x) (h3 : F38 k x = some r) : CallOK false Tryd.prog 38 args (ansOf (outL mo38.items r)) :=
  call_of hm hT (ok_O35 k) (fn := Tryd.f38) (c := c38) Tryd.func38 rfl rfl rfl (lk38 k) rfl (by decide) rfl h1 h2 h3
noncomputable def O38 (k : Nat) : Orc := fun R f args K => bif Nat.beq f 38 then callF mi38 mo38 (F38 k) args K else O35 k R f args K
theorem ok_O38 (k : Nat) : OrcOK (O38 k) (CallOK false Tryd.prog) := orc_add (fn38 k) (ok_O35 k)
noncomputable def c41 : Code := Tryd.f41.body.getD .skip
noncomputable def mi41 : Msk := ⟨[(.tmp 0, .val (.st (.cons (.st (.cons (.int .u32) (.cons .str .nil))) (.cons (.int .i64) (.cons .str (.cons (.int .u64) (.cons .str (.cons (.int .i64) (.cons (.int .i64) .nil)))))))))], []⟩
noncomputable def mo41 : Msk := ⟨[(.tmp 2, .val .bool)], []⟩
noncomputable def L41 (k : Nat) : LOrc := fun _ _ _ _ => none
noncomputable def F41 (k : Nat) (v : mi41.den) : Option mo41.den := runF TI (O38 k) (L41 k) c41 mi41 mo41 v
theorem lk41 (k : Nat) : LinksOK false Tryd.prog 65 (L41 k) c41 := (And.intro True.intro (And.intro (And.intro True.intro (And.intro (And.intro True.intro True.intro) True.intro)) (And.intro (And.intro True.intro (And.intro True.intro (And.intro (And.intro True.intro True.intro) (And.intro True.intro (And.intro (And.intro True.intro True.intro) (And.intro True.intro (And.intro (And.intro True.intro True.intro) (And.intro (And.intro True.intro (And.intro True.intro (And.intro True.intro (And.intro True.intro True.intro)))) (And.intro (And.intro True.intro True.intro) True.intro))))))))) (And.intro True.intro True.intro))))
theorem fn41 (k : Nat) (args : List AV) (x : mi41.den) (r : mo41.den) (h1 : args.length = mi41.items.length) (h2 : mi41.dec (Th.start args) = some x) (h3 : F41 k x = some r) : CallOK false Tryd.prog 41 args (ansOf (outL mo41.items r)) :=
  call_of hm hT (ok_O38 k) (fn := Tryd.f41) (c := c41) Tryd.func41 rfl rfl rfl (lk41 k) rfl (by decide) rfl h1 h2 h3
noncomputable def O41 (k : Nat) : Orc := fun R f args K => bif Nat.beq f 41 then callF mi41 mo41 (F41 k) args K else O38 k R f args K
theorem ok_O41 (k : Nat) : OrcOK (O41 k) (CallOK false Tryd.prog) := orc_add (fn41 k) (ok_O38 k)
noncomputable def c12 : Code := Tryd.f12.body.getD .skip
noncomputable def mi12 : Msk := ⟨[(.tmp 0, .val (.st (.cons (.st (.cons (.int .u32) (.cons .str .nil))) (.cons (.int .i64) (.cons .str (.cons (.int .u64) (.cons .str (.cons (.int .i64) (.cons (.int .i64) .nil)))))))))], []⟩
noncomputable def mo12 : Msk := ⟨[(.tmp 2, .val .bool)], []⟩
noncomputable def L12 (k : Nat) : LOrc := fun _ _ _ _ => none
noncomputable def F12 (k : Nat) (v : mi12.den) : Option mo12.den := runF TI (O41 k) (L12 k) c12 mi12 mo12 v
theorem lk12 (k : Nat) : LinksOK false Tryd.prog 25 (L12 k) c12 := (And.intro True.intro (And.intro True.intro True.intro))
theorem fn12 (k : Nat) (args : List AV) (x : mi12.den) (r : mo12.den) (h1 : args.length = mi12.items.length) (h2 : mi12.dec (Th.start args) = some x) (h3 : F12 k x = some r) : CallOK false Tryd.prog 12 args (ansOf (outL mo12.items r)) :=
  call_of hm hT (ok_O41 k) (fn := Tryd.f12) (c := c12) Tryd.func12 rfl rfl rfl (lk12 k) rfl (by decide) rfl h1 h2 h3
noncomputable def O12 (k : Nat) : Orc := fun R f args K => bif Nat.beq f 12 then callF mi12 mo12 (F12 k) args K else O41 k R f args K
theorem ok_O12 (k : Nat) : OrcOK (O12 k) (CallOK false Tryd.prog) := orc_add (fn12 k) (ok_O41 k)
noncomputable def c44 : Code := Tryd.f44.body.getD .skip
noncomputable def mi44 : Msk := ⟨[(.tmp 0, .val (.slice (.st (.cons (.st (.cons (.int .u32) (.cons .str .nil))) (.cons (.int .i64) (.cons .str (.cons (.int .u64) (.cons .str (.cons (.int .i64) (.cons (.int .i64) .nil))))))))))], []⟩
noncomputable def mo44 : Msk := ⟨[(.tmp 2, .val .bool)], []⟩
noncomputable def L44_g0 (k : Nat) : LOrc := fun _ _ _ _ => none
noncomputable def b44_g0 : Code := (findScope 0 c44).getD .skip
noncomputable def l44_g0 : List (X × Msk) := [(.goto 0, ⟨[(.tmp 0, .val (.slice (.st (.cons (.st (.cons (.int .u32) (.cons .str .nil))) (.cons (.int .i64) (.cons .str (.cons (.int .u64) (.cons .str (.cons (.int .i64) (.cons (.int .i64) .nil)))))))))), (.tmp 3, .val (.int .i64))], []⟩)]
noncomputable def x44_g0 : List (X × Msk) := [(.ret, ⟨[(.tmp 2, .val .bool)], []⟩)]
noncomputable def F44_g0 (k : Nat) : Nat → denE l44_g0 → Option (denE x44_g0)
  | 0, _ => none
  | j + 1, v => pass TI (O12 k) (L44_g0 k) b44_g0 l44_g0 x44_g0 (F44_g0 k j) v
theorem lk44_g0_ (k : Nat) : LinksOK false Tryd.prog 37 (L44_g0 k) b44_g0 := (And.intro True.intro (And.intro True.intro (And.intro (And.intro True.intro (And.intro (And.intro True.intro True.intro) True.intro)) (And.intro (And.intro True.intro (And.intro (And.intro True.intro True.intro) True.intro)) (And.intro True.intro True.intro)))))
noncomputable def L44 (k : Nat) : LOrc := fun R lk s K => match lk with
  | .loop r => none
  | .label l => (match findLabel b44_g0 l with | some _ => linkJ l44_g0 x44_g0 (F44_g0 k k) l s K | none => none)
theorem lk_L44_g0 (k : Nat) : JumpsOK false Tryd.prog 37 (L44 k) b44_g0 := jumpsOK_of hm hT (ok_O12 k) (fun _ _ _ h => h) rfl (lk44_g0_ k) rfl rfl (F := F44_g0 k) (fun _ => rfl) (fun _ _ => rfl) (n := k) fun R l s K rest hf => by
  show (match findLabel b44_g0 l with | some _ => linkJ l44_g0 x44_g0 (F44_g0 k k) l s K | none => none) = _
  rw [hf]
noncomputable def F44 (k : Nat) (v : mi44.den) : Option mo44.den := runF TI (O12 k) (L44 k) c44 mi44 mo44 v
theorem lk44 (k : Nat) : LinksOK false Tryd.prog 37 (L44 k) c44 := (And.intro True.intro (And.intro (lk_L44_g0 k) (And.intro True.intro (And.intro True.intro (And.intro (And.intro True.intro (And.intro (And.intro True.intro True.intro) True.intro)) (And.intro (And.intro True.intro (And.intro (And.intro True.intro True.intro) True.intro)) (And.intro True.intro True.intro)))))))
theorem fn44 (k : Nat) (args : List AV) (x : mi44.den) (r : mo44.den) (h1 : args.length = mi44.items.length) (h2 : mi44.dec (Th.start args) = some x) (h3 : F44 k x = some r) : CallOK false Tryd.prog 44 args (ansOf (outL mo44.items r)) :=
  call_of hm hT (ok_O12 k) (fn := Tryd.f44) (c := c44) Tryd.func44 rfl rfl rfl (lk44 k) rfl (by decide) rfl h1 h2 h3
noncomputable def O44 (k : Nat) : Orc := fun R f args K => bif Nat.beq f 44 then callF mi44 mo44 (F44 k) args K else O12 k R f args K
theorem ok_O44 (k : Nat) : OrcOK (O44 k) (CallOK false Tryd.prog) := orc_add (fn44 k) (ok_O12 k)
noncomputable def c43 : Code := Tryd.f43.body.getD .skip
noncomputable def mi43 : Msk := ⟨[(.tmp 0, .val (.st (.cons (.int .u32) (.cons .str .nil)))), (.tmp 1, .val (.int .i64))], []⟩
noncomputable def mo43 : Msk := ⟨[(.tmp 4, .val (.int .i64))], []⟩
noncomputable def L43_6 (k : Nat) : LOrc := fun _ _ _ _ => none
noncomputable def b43_6 : Code := (findLoop 6 c43).getD .skip
noncomputable def m43_6 : Msk := ⟨[(.tmp 1, .val (.int .i64)), (.tmp 7, .val (.int .u32)), (.tmp 32, .row false (.int .u8)), (.tmp 33, .val (.int .i64)), (.tmp 34, .val (.int .i64))], []⟩
noncomputable def x43_6 : List (X × Msk) := [(.exit 0, ⟨[(.tmp 1, .val (.int .i64)), (.tmp 7, .val (.int .u32))], []⟩)]
noncomputable def F43_6 (k : Nat) : Nat → m43_6.den → Option (denE x43_6)
  | 0, _ => none
  | j + 1, v => round TI (O44 k) (L43_6 k) b43_6 m43_6 x43_6 (F43_6 k j) v
theorem lk43_6_ (k : Nat) : LinksOK false Tryd.prog 49 (L43_6 k) b43_6 := (And.intro True.intro (And.intro (And.intro True.intro True.intro) (And.intro (And.intro True.intro True.intro) True.intro)))
noncomputable def L43 (k : Nat) : LOrc := fun R lk s K => match lk with
  | .loop r => bif Nat.beq r 6 then link m43_6 x43_6 (F43_6 k k) s K else none
  | .label l => none
theorem lk_L43_6 (k : Nat) : LoopOK false Tryd.prog 49 (L43 k) b43_6 := loopOK_of hm hT (ok_O44 k) (fun _ _ _ h => h) rfl (lk43_6_ k) rfl rfl (F := F43_6 k) (fun _ => rfl) (fun _ _ => rfl) (n := k) fun _ _ _ => rfl
noncomputable def F43 (k : Nat) (v : mi43.den) : Option mo43.den := runF TI (O44 k) (L43 k) c43 mi43 mo43 v
theorem lk43 (k : Nat) : LinksOK false Tryd.prog 49 (L43 k) c43 := (And.intro True.intro (And.intro (And.intro True.intro (And.intro (And.intro True.intro True.intro) True.intro)) (And.intro True.intro (And.intro True.intro (And.intro (And.intro True.intro (lk_L43_6 k)) (And.intro True.intro True.intro))))))
theorem fn43 (k : Nat) (args : List AV) (x : mi43.den) (r : mo43.den) (h1 : args.length = mi43.items.length) (h2 : mi43.dec (Th.start args) = some x) (h3 : F43 k x = some r) : CallOK false Tryd.prog 43 args (ansOf (outL mo43.items r)) :=
  call_of hm hT (ok_O44 k) (fn := Tryd.f43) (c := c43) Tryd.func43 rfl rfl rfl (lk43 k) rfl (by decide) rfl h1 h2 h3
noncomputable def O43 (k : Nat) : Orc := fun R f args K => bif Nat.beq f 43 then callF mi43 mo43 (F43 k) args K else O44 k R f args K
theorem ok_O43 (k : Nat) : OrcOK (O43 k) (CallOK false Tryd.prog) := orc_add (fn43 k) (ok_O44 k)
noncomputable def c42 : Code := Tryd.f42.body.getD .skip
noncomputable def mi42 : Msk := ⟨[(.tmp 0, .val (.st (.cons (.st (.cons (.int .u32) (.cons .str .nil))) (.cons (.int .i64) (.cons .str (.cons (.int .u64) (.cons .str (.cons (.int .i64) (.cons (.int .i64) .nil))))))))), (.tmp 1, .val (.ref (.cons (.int .i64) (.cons (.slice (.slice (.st (.cons (.st (.cons (.int .u32) (.cons .str .nil))) (.cons (.int .i64) (.cons .str (.cons (.int .u64) (.cons .str (.cons (.int .i64) (.cons (.int .i64) .nil)))))))))) .nil)))), (.tmp 2, .val (.ref (.cons (.int .i64) .nil)))], []⟩
noncomputable def mo42 : Msk := ⟨[(.tmp 4, .val .bool)], []⟩
noncomputable def L42 (k : Nat) : LOrc := fun _ _ _ _ => none
noncomputable def F42 (k : Nat) (v : mi42.den) : Option mo42.den := runF TI (O43 k) (L42 k) c42 mi42 mo42 v
theorem lk42 (k : Nat) : LinksOK false Tryd.prog 13 (L42 k) c42 := (And.intro True.intro (And.intro True.intro True.intro))
theorem fn42 (k : Nat) (args : List AV) (x : mi42.den) (r : mo42.den) (h1 : args.length = mi42.items.length) (h2 : mi42.dec (Th.start args) = some x) (h3 : F42 k x = some r) : CallOK false Tryd.prog 42 args (ansOf (outL mo42.items r)) :=
  call_of hm hT (ok_O43 k) (fn := Tryd.f42) (c := c42) Tryd.func42 rfl rfl rfl (lk42 k) rfl (by decide) rfl h1 h2 h3
noncomputable def O42 (k : Nat) : Orc := fun R f args K => bif Nat.beq f 42 then callF mi42 mo42 (F42 k) args K else O43 k R f args K
theorem ok_O42 (k : Nat) : OrcOK (O42 k) (CallOK false Tryd.prog) := orc_add (fn42 k) (ok_O43 k)
noncomputable def c7000008 : Code := Tryd.f78.body.getD .skip
noncomputable def mi7000008 : Msk := ⟨[(.tmp 0, .val (.slice (.st (.cons (.st (.cons (.int .u32) (.cons .str .nil))) (.cons (.int .i64) (.cons .str (.cons (.int .u64) (.cons .str (.cons (.int .i64) (.cons (.int .i64) .nil)))))))))), (.tmp 1, .val (.clo 42 (.cons (.ref (.cons (.int .i64) (.cons (.slice (.slice (.st (.cons (.st (.cons (.int .u32) (.cons .str .nil))) (.cons (.int .i64) (.cons .str (.cons (.int .u64) (.cons .str (.cons (.int .i64) (.cons (.int .i64) .nil)))))))))) .nil))) (.cons (.ref (.cons (.int .i64) .nil)) .nil))))], []⟩
noncomputable def mo7000008 : Msk := ⟨[(.tmp 4, .val (.int .i64))], []⟩
noncomputable def L7000008_2 (k : Nat) : LOrc := fun _ _ _ _ => none
noncomputable def b7000008_2 : Code := (findLoop 2 c7000008).getD .skip
noncomputable def m7000008_2 : Msk := ⟨[(.tmp 0, .val (.slice (.st (.cons (.st (.cons (.int .u32) (.cons .str .nil))) (.cons (.int .i64) (.cons .str (.cons (.int .u64) (.cons .str (.cons (.int .i64) (.cons (.int .i64) .nil)))))))))), (.tmp 1, .val (.clo 42 (.cons (.ref (.cons (.int .i64) (.cons (.slice (.slice (.st (.cons (.st (.cons (.int .u32) (.cons .str .nil))) (.cons (.int .i64) (.cons .str (.cons (.int .u64) (.cons .str (.cons (.int .i64) (.cons (.int .i64) .nil)))))))))) .nil))) (.cons (.ref (.cons (.int .i64) .nil)) .nil)))), (.tmp 7, .val (.int .i64)), (.tmp 8, .val (.int .i64))], []⟩
noncomputable def x7000008_2 : List (X × Msk) := [(.exit 0, ⟨[], []⟩), (.ret, ⟨[(.tmp 4, .val (.int .i64))], []⟩)]
noncomputable def F7000008_2 (k : Nat) : Nat → m7000008_2.den → Option (denE x7000008_2)
  | 0, _ => none
  | j + 1, v => round TI (O42 k) (L7000008_2 k) b7000008_2 m7000008_2 x7000008_2 (F7000008_2 k j) v
theorem lk7000008_2_ (k : Nat) : LinksOK false Tryd.prog 19 (L7000008_2 k) b7000008_2 := (And.intro True.intro (And.intro (And.intro True.intro True.intro) (And.intro (And.intro True.intro (And.intro True.intro (And.intro (And.intro True.intro True.intro) True.intro))) True.intro)))
noncomputable def L7000008 (k : Nat) : LOrc := fun R lk s K => match lk with
  | .loop r => bif Nat.beq r 2 then link m7000008_2 x7000008_2 (F7000008_2 k k) s K else none
  | .label l => none
theorem lk_L7000008_2 (k : Nat) : LoopOK false Tryd.prog 19 (L7000008 k) b7000008_2 := loopOK_of hm hT (ok_O42 k) (fun _ _ _ h => h) rfl (lk7000008_2_ k) rfl rfl (F := F7000008_2 k) (fun _ => rfl) (fun _ _ => rfl) (n := k) fun _ _ _ => rfl
noncomputable def F7000008 (k : Nat) (v : mi7000008.den) : Option mo7000008.den := runF TI (O42 k) (L7000008 k) c7000008 mi7000008 mo7000008 v
theorem lk7000008 (k : Nat) : LinksOK false Tryd.prog 19 (L7000008 k) c7000008 := (And.intro True.intro (And.intro (And.intro True.intro (lk_L7000008_2 k)) (And.intro True.intro True.intro)))
theorem fn7000008 (k : Nat) (args : List AV) (x : mi7000008.den) (r : mo7000008.den) (h1 : args.length = mi7000008.items.length) (h2 : mi7000008.dec (Th.start args) = some x) (h3 : F7000008 k x = some r) : CallOK false Tryd.prog 78 args (ansOf (outL mo7000008.items r)) :=
  call_of hm hT (ok_O42 k) (fn := Tryd.f78) (c := c7000008) Tryd.func78 rfl rfl rfl (lk7000008 k) rfl (by decide) rfl h1 h2 h3
noncomputable def O7000008 (k : Nat) : Orc := fun R f args K => bif (bif Nat.beq f 78 then isClo 1 42 args else false) then callF mi7000008 mo7000008 (F7000008 k) args K else O42 k R f args K
theorem ok_O7000008 (k : Nat) : OrcOK (O7000008 k) (CallOK false Tryd.prog) := orc_addP (fn7000008 k) (ok_O42 k)
noncomputable def c7000009 : Code := Tryd.f45.body.getD .skip
noncomputable def mi7000009 : Msk := ⟨[(.tmp 0, .val (.slice (.st (.cons (.st (.cons (.int .u32) (.cons .str .nil))) (.cons (.int .i64) (.cons .str (.cons (.int .u64) (.cons .str (.cons (.int .i64) (.cons (.int .i64) .nil)))))))))), (.tmp 1, .val (.clo 42 (.cons (.ref (.cons (.int .i64) (.cons (.slice (.slice (.st (.cons (.st (.cons (.int .u32) (.cons .str .nil))) (.cons (.int .i64) (.cons .str (.cons (.int .u64) (.cons .str (.cons (.int .i64) (.cons (.int .i64) .nil)))))))))) .nil))) (.cons (.ref (.cons (.int .i64) .nil)) .nil))))], []⟩
noncomputable def mo7000009 : Msk := ⟨[(.tmp 4, .val .bool)], []⟩
noncomputable def L7000009 (k : Nat) : LOrc := fun _ _ _ _ => none
noncomputable def F7000009 (k : Nat) (v : mi7000009.den) : Option mo7000009.den := runF TI (O7000008 k) (L7000009 k) c7000009 mi7000009 mo7000009 v
theorem lk7000009 (k : Nat) : LinksOK false Tryd.prog 9 (L7000009 k) c7000009 := (And.intro True.intro (And.intro True.intro True.intro))
theorem fn7000009 (k : Nat) (args : List AV) (x : mi7000009.den) (r : mo7000009.den) (h1 : args.length = mi7000009.items.length) (h2 : mi7000009.dec (Th.start args) = some x) (h3 : F7000009 k x = some r) : CallOK false Tryd.prog 45 args (ansOf (outL mo7000009.items r)) :=
  call_of hm hT (ok_O7000008 k) (fn := Tryd.f45) (c := c7000009) Tryd.func45 rfl rfl rfl (lk7000009 k) rfl (by decide) rfl h1 h2 h3
noncomputable def O7000009 (k : Nat) : Orc := fun R f args K => bif (bif Nat.beq f 45 then isClo 1 42 args else false) then callF mi7000009 mo7000009 (F7000009 k) args K else O7000008 k R f args K
theorem ok_O7000009 (k : Nat) : OrcOK (O7000009 k) (CallOK false Tryd.prog) := orc_addP (fn7000009 k) (ok_O7000008 k)
noncomputable def c13 : Code := Tryd.f13.body.getD .skip
noncomputable def mi13 : Msk := ⟨[(.tmp 0, .val (.st (.cons (.int .i64) (.cons (.slice (.slice (.st (.cons (.st (.cons (.int .u32) (.cons .str .nil))) (.cons (.int .i64) (.cons .str (.cons (.int .u64) (.cons .str (.cons (.int .i64) (.cons (.int .i64) .nil)))))))))) .nil))))], []⟩
noncomputable def mo13 : Msk := ⟨[(.tmp 2, .val .bool)], []⟩
noncomputable def L13_4 (k : Nat) : LOrc := fun _ _ _ _ => none
noncomputable def b13_4 : Code := (findLoop 4 c13).getD .skip
noncomputable def m13_4 : Msk := ⟨[(.tmp 1, .val (.ref (.cons (.int .i64) (.cons (.slice (.slice (.st (.cons (.st (.cons (.int .u32) (.cons .str .nil))) (.cons (.int .i64) (.cons .str (.cons (.int .u64) (.cons .str (.cons (.int .i64) (.cons (.int .i64) .nil)))))))))) .nil)))), (.tmp 34, .val (.slice (.slice (.st (.cons (.st (.cons (.int .u32) (.cons .str .nil))) (.cons (.int .i64) (.cons .str (.cons (.int .u64) (.cons .str (.cons (.int .i64) (.cons (.int .i64) .nil))))))))))), (.tmp 35, .val (.int .i64)), (.tmp 36, .val (.int .i64))], []⟩
noncomputable def x13_4 : List (X × Msk) := [(.exit 0, ⟨[], []⟩), (.ret, ⟨[(.tmp 2, .val .bool)], []⟩)]
noncomputable def F13_4 (k : Nat) : Nat → m13_4.den → Option (denE x13_4)
  | 0, _ => none
  | j + 1, v => round TI (O7000009 k) (L13_4 k) b13_4 m13_4 x13_4 (F13_4 k j) v
theorem lk13_4_ (k : Nat) : LinksOK false Tryd.prog 51 (L13_4 k) b13_4 := (And.intro True.intro (And.intro (And.intro True.intro True.intro) (And.intro (And.intro True.intro (And.intro True.intro (And.intro True.intro (And.intro (And.intro True.intro True.intro) True.intro)))) True.intro)))
noncomputable def L13 (k : Nat) : LOrc := fun R lk s K => match lk with
  | .loop r => bif Nat.beq r 4 then link m13_4 x13_4 (F13_4 k k) s K else none
  | .label l => none
theorem lk_L13_4 (k : Nat) : LoopOK false Tryd.prog 51 (L13 k) b13_4 := loopOK_of hm hT (ok_O7000009 k) (fun _ _ _ h => h) rfl (lk13_4_ k) rfl rfl (F := F13_4 k) (fun _ => rfl) (fun _ _ => rfl) (n := k) fun _ _ _ => rfl
noncomputable def F13 (k : Nat) (v : mi13.den) : Option mo13.den := runF TI (O7000009 k) (L13 k) c13 mi13 mo13 v
theorem lk13 (k : Nat) : LinksOK false Tryd.prog 51 (L13 k) c13 := (And.intro True.intro (And.intro (And.intro True.intro (And.intro (And.intro True.intro True.intro) True.intro)) (And.intro (And.intro True.intro (lk_L13_4 k)) (And.intro True.intro True.intro))))
theorem fn13 (k : Nat) (args : List AV) (x : mi13.den) (r : mo13.den) (h1 : args.length = mi13.items.length) (h2 : mi13.dec (Th.start args) = some x) (h3 : F13 k x = some r) : CallOK false Tryd.prog 13 args (ansOf (outL mo13.items r)) :=
  call_of hm hT (ok_O7000009 k) (fn := Tryd.f13) (c := c13) Tryd.func13 rfl rfl rfl (lk13 k) rfl (by decide) rfl h1 h2 h3
noncomputable def O13 (k : Nat) : Orc := fun R f args K => bif Nat.beq f 13 then callF mi13 mo13 (F13 k) args K else O7000009 k R f args K
theorem ok_O13 (k : Nat) : OrcOK (O13 k) (CallOK false Tryd.prog) := orc_add (fn13 k) (ok_O7000009 k)
noncomputable def c8 : Code := Tryd.f8.body.getD .skip
noncomputable def mi8 : Msk := ⟨[(.tmp 0, .val (.int .i64)), (.tmp 1, .val (.int .i64))], []⟩
noncomputable def mo8 : Msk := ⟨[(.res 4, .val (.st (.cons (.int .i64) (.cons (.slice (.slice (.st (.cons (.st (.cons (.int .u32) (.cons .str .nil))) (.cons (.int .i64) (.cons .str (.cons (.int .u64) (.cons .str (.cons (.int .i64) (.cons (.int .i64) .nil)))))))))) .nil)))), (.tmp 5, .val (.int .i64))], []⟩
noncomputable def L8 (k : Nat) : LOrc := fun _ _ _ _ => none
noncomputable def F8 (k : Nat) (v : mi8.den) : Option mo8.den := runF TI (O13 k) (L8 k) c8 mi8 mo8 v
theorem lk8 (k : Nat) : LinksOK false Tryd.prog 22 (L8 k) c8 := (And.intro True.intro (And.intro (And.intro True.intro (And.intro (And.intro True.intro True.intro) True.intro)) (And.intro (And.intro True.intro (And.intro True.intro (And.intro (And.intro True.intro True.intro) True.intro))) (And.intro True.intro True.intro))))
theorem fn8 (k : Nat) (args : List AV) (x : mi8.den) (r : mo8.den) (h1 : args.length = mi8.items.length) (h2 : mi8.dec (Th.start args) = some x) (h3 : F8 k x = some r) : CallOK false Tryd.prog 8 args (ansOf (outL mo8.items r)) :=
  call_of hm hT (ok_O13 k) (fn := Tryd.f8) (c := c8) Tryd.func8 rfl rfl rfl (lk8 k) rfl (by decide) rfl h1 h2 h3
noncomputable def O8 (k : Nat) : Orc := fun R f args K => bif Nat.beq f 8 then callF mi8 mo8 (F8 k) args K else O13 k R f args K
theorem ok_O8 (k : Nat) : OrcOK (O8 k) (CallOK false Tryd.prog) := orc_add (fn8 k) (ok_O13 k)
noncomputable def c33 : Code := Tryd.f33.body.getD .skip
noncomputable def mi33 : Msk := ⟨[(.tmp 0, .val (.st (.cons (.int .i64) (.cons (.slice (.slice (.st (.cons (.st (.cons (.int .u32) (.cons .str .nil))) (.cons (.int .i64) (.cons .str (.cons (.int .u64) (.cons .str (.cons (.int .i64) (.cons (.int .i64) .nil)))))))))) .nil)))), (.tmp 1, .val (.st (.cons (.int .u32) (.cons .str .nil))))], []⟩
noncomputable def mo33 : Msk := ⟨[(.tmp 4, .val (.slice (.st (.cons (.st (.cons (.int .u32) (.cons .str .nil))) (.cons (.int .i64) (.cons .str (.cons (.int .u64) (.cons .str (.cons (.int .i64) (.cons (.int .i64) .nil)))))))))), (.tmp 5, .val (.int .i64))], []⟩
noncomputable def L33 (k : Nat) : LOrc := fun _ _ _ _ => none
noncomputable def F33 (k : Nat) (v : mi33.den) : Option mo33.den := runF TI (O8 k) (L33 k) c33 mi33 mo33 v
theorem lk33 (k : Nat) : LinksOK false Tryd.prog 21 (L33 k) c33 := (And.intro True.intro (And.intro True.intro (And.intro (And.intro True.intro (And.intro (And.intro True.intro True.intro) True.intro)) (And.intro True.intro True.intro))))
theorem fn33 (k : Nat) (args : List AV) (x : mi33.den) (r : mo33.den) (h1 : args.length = mi33.items.length) (h2 : mi33.dec (Th.start args) = some x) (h3 : F33 k x = some r) : CallOK false Tryd.prog 33 args (ansOf (outL mo33.items r)) :=
  call_of hm hT (ok_O8 k) (fn := Tryd.f33) (c := c33) Tryd.func33 rfl rfl rfl (lk33 k) rfl (by decide) rfl h1 h2 h3
noncomputable def O33 (k : Nat) : Orc := fun R f args K => bif Nat.beq f 33 then callF mi33 mo33 (F33 k) args K else O8 k R f args K
theorem ok_O33 (k : Nat) : OrcOK (O33 k) (CallOK false Tryd.prog) := orc_add (fn33 k) (ok_O8 k)
noncomputable def c34 : Code := Tryd.f34.body.getD .skip
noncomputable def mi34 : Msk := ⟨[(.tmp 0, .val (.slice (.st (.cons (.st (.cons (.int .u32) (.cons .str .nil))) (.cons (.int .i64) (.cons .str (.cons (.int .u64) (.cons .str (.cons (.int .i64) (.cons (.int .i64) .nil)))))))))), (.tmp 1, .val (.st (.cons (.int .u32) (.cons .str .nil))))], []⟩
noncomputable def mo34 : Msk := ⟨[(.res 4, .val (.st (.cons (.st (.cons (.int .u32) (.cons .str .nil))) (.cons (.int .i64) (.cons .str (.cons (.int .u64) (.cons .str (.cons (.int .i64) (.cons (.int .i64) .nil))))))))), (.tmp 5, .val .bool)], []⟩
noncomputable def L34_2 (k : Nat) : LOrc := fun _ _ _ _ => none
noncomputable def b34_2 : Code := (findLoop 2 c34).getD .skip
noncomputable def m34_2 : Msk := ⟨[(.tmp 3, .ptr 3 0), (.tmp 4, .ptr 4 0), (.tmp 8, .val (.slice (.st (.cons (.st (.cons (.int .u32) (.cons .str .nil))) (.cons (.int .i64) (.cons .str (.cons (.int .u64) (.cons .str (.cons (.int .i64) (.cons (.int .i64) .nil)))))))))), (.tmp 9, .val (.int .i64)), (.tmp 10, .val (.int .i64)), (.cell 3 0, .val (.int .u32)), (.cell 3 1, .val .str), (.cell 4 0, .val (.int .u32)), (.cell 4 1, .val .str), (.cell 4 2, .val (.int .i64)), (.cell 4 3, .val .str), (.cell 4 4, .val (.int .u64)), (.cell 4 5, .val .str), (.cell 4 6, .val (.int .i64)), (.cell 4 7, .val (.int .i64))], [(3, 2), (4, 8)]⟩
noncomputable def x34_2 : List (X × Msk) := [(.exit 0, ⟨[(.tmp 4, .ptr 4 0), (.cell 4 0, .val (.int .u32)), (.cell 4 1, .val .str), (.cell 4 2, .val (.int .i64)), (.cell 4 3, .val .str), (.cell 4 4, .val (.int .u64)), (.cell 4 5, .val .str), (.cell 4 6, .val (.int .i64)), (.cell 4 7, .val (.int .i64))], [(4, 8)]⟩), (.ret, ⟨[(.tmp 4, .ptr 4 0), (.tmp 5, .val .bool), (.cell 4 0, .val (.int .u32)), (.cell 4 1, .val .str), (.cell 4 2, .val (.int .i64)), (.cell 4 3, .val .str), (.cell 4 4, .val (.int .u64)), (.cell 4 5, .val .str), (.cell 4 6, .val (.int .i64)), (.cell 4 7, .val (.int .i64))], [(4, 8)]⟩)]
noncomputable def F34_2 (k : Nat) : Nat → m34_2.den → Option (denE x34_2)
  | 0, _ => none
  | j + 1, v => round TI (O33 k) (L34_2 k) b34_2 m34_2 x34_2 (F34_2 k j) v
theorem lk34_2_ (k : Nat) : LinksOK false Tryd.prog 21 (L34_2 k) b34_2 := (And.intro True.intro (And.intro (And.intro True.intro True.intro) (And.intro (And.intro True.intro (And.intro True.intro (And.intro (And.intro True.intro True.intro) True.intro))) True.intro)))
noncomputable def L34 (k : Nat) : LOrc := fun R lk s K => match lk with
  | .loop r => bif Nat.beq r 2 then link m34_2 x34_2 (F34_2 k k) s K else none
  | .label l => none
theorem lk_L34_2 (k : Nat) : LoopOK false Tryd.prog 21 (L34 k) b34_2 := loopOK_of hm hT (ok_O33 k) (fun _ _ _ h => h) rfl (lk34_2_ k) rfl rfl (F := F34_2 k) (fun _ => rfl) (fun _ _ => rfl) (n := k) fun _ _ _ => rfl
noncomputable def F34 (k : Nat) (v : mi34.den) : Option mo34.den := runF TI (O33 k) (L34 k) c34 mi34 mo34 v
theorem lk34 (k : Nat) : LinksOK false Tryd.prog 21 (L34 k) c34 := (And.intro True.intro (And.intro (And.intro True.intro (lk_L34_2 k)) (And.intro True.intro True.intro)))
theorem fn34 (k : Nat) (args : List AV) (x : mi34.den) (r : mo34.den) (h1 : args.length = mi34.items.length) (h2 : mi34.dec (Th.start args) = some x) (h3 : F34 k x = some r) : CallOK false Tryd.prog 34 args (ansOf (outL mo34.items r)) :=
  call_of hm hT (ok_O33 k) (fn := Tryd.f34) (c := c34) Tryd.func34 rfl rfl rfl (lk34 k) rfl (by decide) rfl h1 h2 h3
noncomputable def O34 (k : Nat) : Orc := fun R f args K => bif Nat.beq f 34 then callF mi34 mo34 (F34 k) args K else O33 k R f args K
theorem ok_O34 (k : Nat) : OrcOK (O34 k) (CallOK false Tryd.prog) := orc_add (fn34 k) (ok_O33 k)
noncomputable def c102 : Code := Tryd.f102.body.getD .skip
noncomputable def mi102 : Msk := ⟨[(.tmp 0, .val (.st (.cons (.st (.cons (.int .u32) (.cons .str .nil))) (.cons (.int .i64) (.cons .str (.cons (.int .u64) (.cons .str (.cons (.int .i64) (.cons (.int .i64) .nil))))))))), (.tmp 1, .val (.st (.cons (.int .u32) (.cons .str .nil))))], []⟩
noncomputable def mo102 : Msk := ⟨[(.tmp 4, .val (.int .i64))], []⟩
noncomputable def L102 (k : Nat) : LOrc := fun _ _ _ _ => none
noncomputable def F102 (k : Nat) (v : mi102.den) : Option mo102.den := runF TI (O34 k) (L102 k) c102 mi102 mo102 v
theorem lk102 (k : Nat) : LinksOK false Tryd.prog 9 (L102 k) c102 := (And.intro True.intro (And.intro True.intro True.intro))
theorem fn102 (k : Nat) (args : List AV) (x : mi102.den) (r : mo102.den) (h1 : args.length = mi102.items.length) (h2 : mi102.dec (Th.start args) = some x) (h3 : F102 k x = some r) : CallOK false Tryd.prog 102 args (ansOf (outL mo102.items r)) :=
  call_of hm hT (ok_O34 k) (fn := Tryd.f102) (c := c102) Tryd.func102 rfl rfl rfl (lk102 k) rfl (by decide) rfl h1 h2 h3
noncomputable def O102 (k : Nat) : Orc := fun R f args K => bif Nat.beq f 102 then callF mi102 mo102 (F102 k) args K else O34 k R f args K
theorem ok_O102 (k : Nat) : OrcOK (O102 k) (CallOK false Tryd.prog) := orc_add (fn102 k) (ok_O34 k)
noncomputable def c7000010 : Code := Tryd.f101.body.getD .skip
noncomputable def mi7000010 : Msk := ⟨[(.tmp 0, .val (.slice (.st (.cons (.st (.cons (.int .u32) (.cons .str .nil))) (.cons (.int .i64) (.cons .str (.cons (.int .u64) (.cons .str (.cons (.int .i64) (.cons (.int .i64) .nil)))))))))), (.tmp 1, .val (.st (.cons (.int .u32) (.cons .str .nil)))), (.tmp 2, .val (.clo 102 .nil))], []⟩
noncomputable def mo7000010 : Msk := ⟨[(.tmp 6, .val (.int .i64)), (.tmp 7, .val .bool)], []⟩
noncomputable def L7000010_3 (k : Nat) : LOrc := fun _ _ _ _ => none
noncomputable def b7000010_3 : Code := (findLoop 3 c7000010).getD .skip
noncomputable def m7000010_3 : Msk := ⟨[(.tmp 0, .val (.slice (.st (.cons (.st (.cons (.int .u32) (.cons .str .nil))) (.cons (.int .i64) (.cons .str (.cons (.int .u64) (.cons .str (.cons (.int .i64) (.cons (.int .i64) .nil)))))))))), (.tmp 2, .val (.clo 102 .nil)), (.tmp 4, .ptr 4 0), (.tmp 8, .val (.int .i64)), (.tmp 9, .val (.int .i64)), (.tmp 10, .val (.int .i64)), (.cell 4 0, .val (.int .u32)), (.cell 4 1, .val .str)], [(4, 2)]⟩
noncomputable def x7000010_3 : List (X × Msk) := [(.exit 0, ⟨[(.tmp 0, .val (.slice (.st (.cons (.st (.cons (.int .u32) (.cons .str .nil))) (.cons (.int .i64) (.cons .str (.cons (.int .u64) (.cons .str (.cons (.int .i64) (.cons (.int .i64) .nil)))))))))), (.tmp 2, .val (.clo 102 .nil)), (.tmp 4, .ptr 4 0), (.tmp 8, .val (.int .i64)), (.tmp 9, .val (.int .i64)), (.cell 4 0, .val (.int .u32)), (.cell 4 1, .val .str)], [(4, 2)]⟩)]
noncomputable def F7000010_3 (k : Nat) : Nat → m7000010_3.den → Option (denE x7000010_3)
  | 0, _ => none
  | j + 1, v => round TI (O102 k) (L7000010_3 k) b7000010_3 m7000010_3 x7000010_3 (F7000010_3 k j) v
theorem lk7000010_3_ (k : Nat) : LinksOK false Tryd.prog 49 (L7000010_3 k) b7000010_3 := (And.intro (And.intro True.intro (And.intro True.intro True.intro)) (And.intro True.intro (And.intro True.intro (And.intro True.intro True.intro))))
noncomputable def L7000010 (k : Nat) : LOrc := fun R lk s K => match lk with
  | .loop r => bif Nat.beq r 3 then link m7000010_3 x7000010_3 (F7000010_3 k k) s K else none
  | .label l => none
theorem lk_L7000010_3 (k : Nat) : LoopOK false Tryd.prog 49 (L7000010 k) b7000010_3 := loopOK_of hm hT (ok_O102 k) (fun _ _ _ h => h) rfl (lk7000010_3_ k) rfl rfl (F := F7000010_3 k) (fun _ => rfl) (fun _ _ => rfl) (n := k) fun _ _ _ => rfl
noncomputable def F7000010 (k : Nat) (v : mi7000010.den) : Option mo7000010.den := runF TI (O102 k) (L7000010 k) c7000010 mi7000010 mo7000010 v
theorem lk7000010 (k : Nat) : LinksOK false Tryd.prog 49 (L7000010 k) c7000010 := (And.intro True.intro (And.intro True.intro (And.intro True.intro (And.intro (lk_L7000010_3 k) (And.intro True.intro True.intro)))))
theorem fn7000010 (k : Nat) (args : List AV) (x : mi7000010.den) (r : mo7000010.den) (h1 : args.length = mi7000010.items.length) (h2 : mi7000010.dec (Th.start args) = some x) (h3 : F7000010 k x = some r) : CallOK false Tryd.prog 101 args (ansOf (outL mo7000010.items r)) :=
  call_of hm hT (ok_O102 k) (fn := Tryd.f101) (c := c7000010) Tryd.func101 rfl rfl rfl (lk7000010 k) rfl (by decide) rfl h1 h2 h3
noncomputable def O7000010 (k : Nat) : Orc := fun R f args K => bif (bif Nat.beq f 101 then isClo 2 102 args else false) then callF mi7000010 mo7000010 (F7000010 k) args K else O102 k R f args K
theorem ok_O7000010 (k : Nat) : OrcOK (O7000010 k) (CallOK false Tryd.prog) := orc_addP (fn7000010 k) (ok_O102 k)
noncomputable def c67 : Code := Tryd.f67.body.getD .skip
noncomputable def mi67 : Msk := ⟨[(.tmp 0, .val (.slice (.st (.cons (.st (.cons (.int .u32) (.cons .str .nil))) (.cons (.int .i64) (.cons .str (.cons (.int .u64) (.cons .str (.cons (.int .i64) (.cons (.int .i64) .nil)))))))))), (.tmp 1, .val (.st (.cons (.int .u32) (.cons .str .nil))))], []⟩
noncomputable def mo67 : Msk := ⟨[(.tmp 4, .val (.int .i64)), (.tmp 5, .val .bool)], []⟩
noncomputable def L67 (k : Nat) : LOrc := fun _ _ _ _ => none
noncomputable def F67 (k : Nat) (v : mi67.den) : Option mo67.den := runF TI (O7000010 k) (L67 k) c67 mi67 mo67 v
theorem lk67 (k : Nat) : LinksOK false Tryd.prog 11 (L67 k) c67 := (And.intro True.intro (And.intro True.intro True.intro))
theorem fn67 (k : Nat) (args : List AV) (x : mi67.den) (r : mo67.den) (h1 : args.length = mi67.items.length) (h2 : mi67.dec (Th.start args) = some x) (h3 : F67 k x = some r) : CallOK false Tryd.prog 67 args (ansOf (outL mo67.items r)) :=
  call_of hm hT (ok_O7000010 k) (fn := Tryd.f67) (c := c67) Tryd.func67 rfl rfl rfl (lk67 k) rfl (by decide) rfl h1 h2 h3
noncomputable def O67 (k : Nat) : Orc := fun R f args K => bif Nat.beq f 67 then callF mi67 mo67 (F67 k) args K else O7000010 k R f args K
theorem ok_O67 (k : Nat) : OrcOK (O67 k) (CallOK false Tryd.prog) := orc_add (fn67 k) (ok_O7000010 k)
noncomputable def c69 : Code := Tryd.f69.body.getD .skip
noncomputable def mo69 : Msk := ⟨[(.tmp 2, .row false (.st (.cons (.st (.cons (.int .u32) (.cons .str .nil))) (.cons (.int .i64) (.cons .str (.cons (.int .u64) (.cons .str (.cons (.int .i64) (.cons (.int .i64) .nil)))))))))], []⟩
noncomputable def L69 : LOrc := fun _ _ _ _ => none
noncomputable def F69 (k : Nat) (l : List (Ty.den (.st (.cons (.st (.cons (.int .u32) (.cons .str .nil))) (.cons (.int .i64) (.cons .str (.cons (.int .u64) (.cons .str (.cons (.int .i64) (.cons (.int .i64) .nil)))))))))) : Option mo69.den := run TI (O67 k) L69 c69 (Th.start [.nsl (.st (.cons (.st (.cons (.int .u32) (.cons .str .nil))) (.cons (.int .i64) (.cons .str (.cons (.int .u64) (.cons .str (.cons (.int .i64) (.cons (.int .i64) .nil)))))))) l]) (endF mo69)
theorem fn69 (k : Nat) (l : List (Ty.den (.st (.cons (.st (.cons (.int .u32) (.cons .str .nil))) (.cons (.int .i64) (.cons .str (.cons (.int .u64) (.cons .str (.cons (.int .i64) (.cons (.int .i64) .nil)))))))))) (r : mo69.den) (h : F69 k l = some r) : CallOK false Tryd.prog 69 [.sl (.st (.cons (.st (.cons (.int .u32) (.cons .str .nil))) (.cons (.int .i64) (.cons .str (.cons (.int .u64) (.cons .str (.cons (.int .i64) (.cons (.int .i64) .nil)))))))) l] (ansOf (outL mo69.items r)) :=
  call_nil hm hT (ok_O67 k) (fn := Tryd.f69) (c := c69) Tryd.func69 rfl rfl rfl ((And.intro True.intro (And.intro (And.intro True.intro (And.intro (And.intro True.intro True.intro) True.intro)) (And.intro True.intro True.intro))) : LinksOK false Tryd.prog 8 L69 c69) (by decide) rfl (fun e => by subst e; exact h) h
noncomputable def O69 (k : Nat) : Orc := fun R f args K => bif Nat.beq f 69 then callN (.st (.cons (.st (.cons (.int .u32) (.cons .str .nil))) (.cons (.int .i64) (.cons .str (.cons (.int .u64) (.cons .str (.cons (.int .i64) (.cons (.int .i64) .nil)))))))) mo69 (F69 k) args K else O67 k R f args K
theorem ok_O69 (k : Nat) : OrcOK (O69 k) (CallOK false Tryd.prog) := orc_addN (fn69 k) (ok_O67 k)
noncomputable def F68 (k : Nat) (v : List (Ty.den (.st (.cons (.st (.cons (.int .u32) (.cons .str .nil))) (.cons (.int .i64) (.cons .str (.cons (.int .u64) (.cons .str (.cons (.int .i64) (.cons (.int .i64) .nil))))))))) × Int × List (Ty.den (.st (.cons (.st (.cons (.int .u32) (.cons .str .nil))) (.cons (.int .i64) (.cons .str (.cons (.int .u64) (.cons .str (.cons (.int .i64) (.cons (.int .i64) .nil))))))))) × Unit) : Option (List (Ty.den (.st (.cons (.st (.cons (.int .u32) (.cons .str .nil))) (.cons (.int .i64) (.cons .str (.cons (.int .u64) (.cons .str (.cons (.int .i64) (.cons (.int .i64) .nil))))))))) × Unit) := sel (decide (0 ≤ v.2.1)) (sel (decide (v.2.1 ≤ Int.ofNat v.1.length)) (sel (decide (v.1.length ≤ 1000000)) (sel (decide (v.2.2.1.length = 1)) (some (v.1.take v.2.1.toNat ++ v.2.2.1 ++ v.1.drop v.2.1.toNat, ())) none) none) none) none
noncomputable def O68 (k : Nat) : Orc := fun R f args K => bif Nat.beq f 68 then (match args with | [.own T' l, .int .i64 i, .sl T'' q] => (match T'.dec (.st (.cons (.st (.cons (.int .u32) (.cons .str .nil))) (.cons (.int .i64) (.cons .str (.cons (.int .u64) (.cons .str (.cons (.int .i64) (.cons (.int .i64) .nil)))))))) with | some h => (match T''.dec (.st (.cons (.st (.cons (.int .u32) (.cons .str .nil))) (.cons (.int .i64) (.cons .str (.cons (.int .u64) (.cons .str (.cons (.int .i64) (.cons (.int .i64) .nil)))))))) with | some h2 => ocall (F68 k (h.down ▸ l, i, h2.down ▸ q, ())) fun r => K (.back (.own (.st (.cons (.st (.cons (.int .u32) (.cons .str .nil))) (.cons (.int .i64) (.cons .str (.cons (.int .u64) (.cons .str (.cons (.int .i64) (.cons (.int .i64) .nil)))))))) r.1) [.lent []]) | none => none) | none => none) | _ => none) else O69 k R f args K
theorem ok_O68 (k : Nat) : OrcOK (O68 k) (CallOK false Tryd.prog) := by
  intro R f args K r h
  unfold O68 at h
  cases hb : Nat.beq f 68 with
  | false => rw [hb] at h; exact ok_O69 k R f args K r h
  | true =>
    rw [hb] at h
    rw [Nat.eq_of_beq_eq_true hb]
    simp only [cond_true] at h
    split at h
    · rename_i T' l i T'' q
      cases hd : T'.dec (.st (.cons (.st (.cons (.int .u32) (.cons .str .nil))) (.cons (.int .i64) (.cons .str (.cons (.int .u64) (.cons .str (.cons (.int .i64) (.cons (.int .i64) .nil)))))))) with
      | none => rw [hd] at h; cases h
      | some hh =>
        obtain ⟨rfl⟩ := hh
        rw [hd] at h
        simp only [] at h
        cases hd2 : T''.dec (.st (.cons (.st (.cons (.int .u32) (.cons .str .nil))) (.cons (.int .i64) (.cons .str (.cons (.int .u64) (.cons .str (.cons (.int .i64) (.cons (.int .i64) .nil)))))))) with
        | none => rw [hd2] at h; cases h
        | some hh2 =>
        obtain ⟨rfl⟩ := hh2
        rw [hd2] at h
        obtain ⟨y, hy, h⟩ := obind_some h
        unfold F68 at hy
        by_cases c1 : 0 ≤ i
        · rw [sel_pos c1] at hy
          by_cases c2 : i ≤ Int.ofNat (l : List (Ty.den (.st (.cons (.st (.cons (.int .u32) (.cons .str .nil))) (.cons (.int .i64) (.cons .str (.cons (.int .u64) (.cons .str (.cons (.int .i64) (.cons (.int .i64) .nil)))))))))).length
          · rw [sel_pos c2] at hy
            by_cases c3 : (l : List (Ty.den (.st (.cons (.st (.cons (.int .u32) (.cons .str .nil))) (.cons (.int .i64) (.cons .str (.cons (.int .u64) (.cons .str (.cons (.int .i64) (.cons (.int .i64) .nil)))))))))).length ≤ 1000000
            · rw [sel_pos c3] at hy
              by_cases c4 : (q : List (Ty.den (.st (.cons (.st (.cons (.int .u32) (.cons .str .nil))) (.cons (.int .i64) (.cons .str (.cons (.int .u64) (.cons .str (.cons (.int .i64) (.cons (.int .i64) .nil)))))))))).length = 1
              · rw [sel_pos c4] at hy
                cases hy
                obtain ⟨x, rfl⟩ : ∃ x, q = [x] := List.length_eq_one_iff.1 c4
                obtain ⟨ti, d, z, E⟩ := hT.get (t := 37) (i := ⟨.struct, 8, 88, (.st (.cons (.st (.cons (.int .u32) (.cons .str .nil))) (.cons (.int .i64) (.cons .str (.cons (.int .u64) (.cons .str (.cons (.int .i64) (.cons (.int .i64) .nil)))))))), [.int .u32 0, .str [], .int .i64 0, .str [], .int .u64 0, .str [], .int .i64 0, .int .i64 0], [(0, 34), (2, 3), (3, 9), (4, 35), (5, 9), (6, 3), (7, 3)], [2, 1, 1, 1, 1, 1, 1], true, true, [], []⟩) rfl
                exact ⟨_, Ins68.calls E rfl (fun e => by cases e) (by decide) (by decide) l i x c1 c2 c3, h⟩
              · rw [sel_neg c4] at hy; cases hy
            · rw [sel_neg c3] at hy; cases hy
          · rw [sel_neg c2] at hy; cases hy
        · rw [sel_neg c1] at hy; cases hy
    · cases h
noncomputable def c36 : Code := Tryd.f36.body.getD .skip
noncomputable def mi36 : Msk := ⟨[(.tmp 0, .val (.slice (.st (.cons (.st (.cons (.int .u32) (.cons .str .nil))) (.cons (.int .i64) (.cons .str (.cons (.int .u64) (.cons .str (.cons (.int .i64) (.cons (.int .i64) .nil)))))))))), (.tmp 1, .val (.st (.cons (.st (.cons (.int .u32) (.cons .str .nil))) (.cons (.int .i64) (.cons .str (.cons (.int .u64) (.cons .str (.cons (.int .i64) (.cons (.int .i64) .nil)))))))))], []⟩
noncomputable def mo36 : Msk := ⟨[(.tmp 4, .val (.slice (.st (.cons (.st (.cons (.int .u32) (.cons .str .nil))) (.cons (.int .i64) (.cons .str (.cons (.int .u64) (.cons .str (.cons (.int .i64) (.cons (.int .i64) .nil)))))))))), (.tmp 5, .val (.int .i64))], []⟩
noncomputable def L36 (k : Nat) : LOrc := fun _ _ _ _ => none
noncomputable def F36 (k : Nat) (v : mi36.den) : Option mo36.den := runF TI (O68 k) (L36 k) c36 mi36 mo36 v
theorem lk36 (k : Nat) : LinksOK false Tryd.prog 38 (L36 k) c36 := (And.intro True.intro (And.intro (And.intro True.intro (And.intro (And.intro True.intro True.intro) True.intro)) (And.intro True.intro (And.intro (And.intro True.intro (And.intro (And.intro True.intro True.intro) (And.intro True.intro (And.intro (And.intro True.intro True.intro) True.intro)))) (And.intro True.intro True.intro)))))
theorem fn36 (k : Nat) (args : List AV) (x : mi36.den) (r : mo36.den) (h1 : args.length = mi36.items.length) (h2 : mi36.dec (Th.start args) = some x) (h3 : F36 k x = some r) : CallOK false Tryd.prog 36 args (ansOf (outL mo36.items r)) :=
  call_of hm hT (ok_O68 k) (fn := Tryd.f36) (c := c36) Tryd.func36 rfl rfl rfl (lk36 k) rfl (by decide) rfl h1 h2 h3
noncomputable def O36 (k : Nat) : Orc := fun R f args K => bif Nat.beq f 36 then callF mi36 mo36 (F36 k) args K else O68 k R f args K
theorem ok_O36 (k : Nat) : OrcOK (O36 k) (CallOK false Tryd.prog) := orc_add (fn36 k) (ok_O68 k)
noncomputable def c70 : Code := Tryd.f70.body.getD .skip
noncomputable def mo70 : Msk := ⟨[(.tmp 2, .row false (.slice (.st (.cons (.st (.cons (.int .u32) (.cons .str .nil))) (.cons (.int .i64) (.cons .str (.cons (.int .u64) (.cons .str (.cons (.int .i64) (.cons (.int .i64) .nil))))))))))], []⟩
noncomputable def L70 : LOrc := fun _ _ _ _ => none
noncomputable def F70 (k : Nat) (l : List (Ty.den (.slice (.st (.cons (.st (.cons (.int .u32) (.cons .str .nil))) (.cons (.int .i64) (.cons .str (.cons (.int .u64) (.cons .str (.cons (.int .i64) (.cons (.int .i64) .nil))))))))))) : Option mo70.den := run TI (O36 k) L70 c70 (Th.start [.nsl (.slice (.st (.cons (.st (.cons (.int .u32) (.cons .str .nil))) (.cons (.int .i64) (.cons .str (.cons (.int .u64) (.cons .str (.cons (.int .i64) (.cons (.int .i64) .nil))))))))) l]) (endF mo70)
theorem fn70 (k : Nat) (l : List (Ty.den (.slice (.st (.cons (.st (.cons (.int .u32) (.cons .str .nil))) (.cons (.int .i64) (.cons .str (.cons (.int .u64) (.cons .str (.cons (.int .i64) (.cons (.int .i64) .nil))))))))))) (r : mo70.den) (h : F70 k l = some r) : CallOK false Tryd.prog 70 [.sl (.slice (.st (.cons (.st (.cons (.int .u32) (.cons .str .nil))) (.cons (.int .i64) (.cons .str (.cons (.int .u64) (.cons .str (.cons (.int .i64) (.cons (.int .i64) .nil))))))))) l] (ansOf (outL mo70.items r)) :=
  call_nil hm hT (ok_O36 k) (fn := Tryd.f70) (c := c70) Tryd.func70 rfl rfl rfl ((And.intro True.intro (And.intro (And.intro True.intro (And.intro (And.intro True.intro True.intro) True.intro)) (And.intro True.intro True.intro))) : LinksOK false Tryd.prog 8 L70 c70) (by decide) rfl (fun e => by subst e; exact h) h
noncomputable def O70 (k : Nat) : Orc := fun R f args K => bif Nat.beq f 70 then callN (.slice (.st (.cons (.st (.cons (.int .u32) (.cons .str .nil))) (.cons (.int .i64) (.cons .str (.cons (.int .u64) (.cons .str (.cons (.int .i64) (.cons (.int .i64) .nil))))))))) mo70 (F70 k) args K else O36 k R f args K
theorem ok_O70 (k : Nat) : OrcOK (O70 k) (CallOK false Tryd.prog) := orc_addN (fn70 k) (ok_O36 k)
noncomputable def c37 : Code := Tryd.f37.body.getD .skip
noncomputable def mi37 : Msk := ⟨[(.tmp 0, .val (.st (.cons (.int .i64) (.cons (.slice (.slice (.st (.cons (.st (.cons (.int .u32) (.cons .str .nil))) (.cons (.int .i64) (.cons .str (.cons (.int .u64) (.cons .str (.cons (.int .i64) (.cons (.int .i64) .nil)))))))))) .nil)))), (.tmp 1, .val (.int .i64)), (.tmp 2, .val (.slice (.st (.cons (.st (.cons (.int .u32) (.cons .str .nil))) (.cons (.int .i64) (.cons .str (.cons (.int .u64) (.cons .str (.cons (.int .i64) (.cons (.int .i64) .nil))))))))))], []⟩
noncomputable def mo37 : Msk := ⟨[(.res 6, .val (.st (.cons (.int .i64) (.cons (.slice (.slice (.st (.cons (.st (.cons (.int .u32) (.cons .str .nil))) (.cons (.int .i64) (.cons .str (.cons (.int .u64) (.cons .str (.cons (.int .i64) (.cons (.int .i64) .nil)))))))))) .nil))))], []⟩
noncomputable def L37 (k : Nat) : LOrc := fun _ _ _ _ => none
noncomputable def F37 (k : Nat) (v : mi37.den) : Option mo37.den := runF TI (O70 k) (L37 k) c37 mi37 mo37 v
theorem lk37 (k : Nat) : LinksOK false Tryd.prog 17 (L37 k) c37 := (And.intro True.intro (And.intro True.intro (And.intro True.intro (And.intro True.intro True.intro))))
theorem fn37 (k : Nat) (args : List AV) (x : mi37.den) (r : mo37.den) (h1 : args.length = mi37.items.length) (h2 : mi37.dec (Th.start args) = some x) (h3 : F37 k x = some r) : CallOK false Tryd.prog 37 args (ansOf (outL mo37.items r)) :=
  call_of hm hT (ok_O70 k) (fn := Tryd.f37) (c := c37) Tryd.func37 rfl rfl rfl (lk37 k) rfl (by decide) rfl h1 h2 h3
noncomputable def O37 (k : Nat) : Orc := fun R f args K => bif Nat.beq f 37 then callF mi37 mo37 (F37 k) args K else O70 k R f args K
theorem ok_O37 (k : Nat) : OrcOK (O37 k) (CallOK false Tryd.prog) := orc_add (fn37 k) (ok_O70 k)
noncomputable def c11 : Code := Tryd.f11.body.getD .skip
noncomputable def mi11 : Msk := ⟨[(.tmp 0, .val (.st (.cons (.int .i64) (.cons (.slice (.slice (.st (.cons (.st (.cons (.int .u32) (.cons .str .nil))) (.cons (.int .i64) (.cons .str (.cons (.int .u64) (.cons .str (.cons (.int .i64) (.cons (.int .i64) .nil)))))))))) .nil)))), (.tmp 1, .val (.st (.cons (.st (.cons (.int .u32) (.cons .str .nil))) (.cons (.int .i64) (.cons .str (.cons (.int .u64) (.cons .str (.cons (.int .i64) (.cons (.int .i64) .nil)))))))))], []⟩
noncomputable def mo11 : Msk := ⟨[(.res 4, .val (.st (.cons (.int .i64) (.cons (.slice (.slice (.st (.cons (.st (.cons (.int .u32) (.cons .str .nil))) (.cons (.int .i64) (.cons .str (.cons (.int .u64) (.cons .str (.cons (.int .i64) (.cons (.int .i64) .nil)))))))))) .nil)))), (.tmp 5, .val (.int .i64))], []⟩
noncomputable def L11 (k : Nat) : LOrc := fun _ _ _ _ => none
noncomputable def F11 (k : Nat) (v : mi11.den) : Option mo11.den := runF TI (O37 k) (L11 k) c11 mi11 mo11 v
theorem lk11 (k : Nat) : LinksOK false Tryd.prog 57 (L11 k) c11 := (And.intro True.intro (And.intro (And.intro True.intro (And.intro (And.intro True.intro True.intro) True.intro)) (And.intro True.intro (And.intro (And.intro True.intro (And.intro True.intro (And.intro (And.intro True.intro True.intro) True.intro))) (And.intro (And.intro True.intro (And.intro (And.intro True.intro True.intro) True.intro)) (And.intro True.intro (And.intro (And.intro True.intro (And.intro (And.intro True.intro True.intro) True.intro)) (And.intro True.intro True.intro))))))))
theorem fn11 (k : Nat) (args : List AV) (x : mi11.den) (r : mo11.den) (h1 : args.length = mi11.items.length) (h2 : mi11.dec (Th.start args) = some x) (h3 : F11 k x = some r) : CallOK false Tryd.prog 11 args (ansOf (outL mo11.items r)) :=
  call_of hm hT (ok_O37 k) (fn := Tryd.f11) (c := c11) Tryd.func11 rfl rfl rfl (lk11 k) rfl (by decide) rfl h1 h2 h3
noncomputable def O11 (k : Nat) : Orc := fun R f args K => bif Nat.beq f 11 then callF mi11 mo11 (F11 k) args K else O37 k R f args K
theorem ok_O11 (k : Nat) : OrcOK (O11 k) (CallOK false Tryd.prog) := orc_add (fn11 k) (ok_O37 k)
noncomputable def F79 (k : Nat) (v : List (Ty.den (.st (.cons (.st (.cons (.int .u32) (.cons .str .nil))) (.cons (.int .i64) (.cons .str (.cons (.int .u64) (.cons .str (.cons (.int .i64) (.cons (.int .i64) .nil))))))))) × Int × Int × Unit) : Option (List (Ty.den (.st (.cons (.st (.cons (.int .u32) (.cons .str .nil))) (.cons (.int .i64) (.cons .str (.cons (.int .u64) (.cons .str (.cons (.int .i64) (.cons (.int .i64) .nil))))))))) × Unit) := sel (decide (0 ≤ v.2.1)) (sel (decide (v.2.1 ≤ v.2.2.1)) (sel (decide (v.2.2.1 ≤ Int.ofNat v.1.length)) (some (v.1.take v.2.1.toNat ++ v.1.drop v.2.2.1.toNat, ())) none) none) none
noncomputable def O79 (k : Nat) : Orc := fun R f args K => bif Nat.beq f 79 then (match args with | [.own T' l, .int .i64 i, .int .i64 j] => (match T'.dec (.st (.cons (.st (.cons (.int .u32) (.cons .str .nil))) (.cons (.int .i64) (.cons .str (.cons (.int .u64) (.cons .str (.cons (.int .i64) (.cons (.int .i64) .nil)))))))) with | some h => ocall (F79 k (h.down ▸ l, i, j, ())) fun r => K (.back (.own (.st (.cons (.st (.cons (.int .u32) (.cons .str .nil))) (.cons (.int .i64) (.cons .str (.cons (.int .u64) (.cons .str (.cons (.int .i64) (.cons (.int .i64) .nil)))))))) r.1) [.lent []]) | none => none) | _ => none) else O11 k R f args K
theorem ok_O79 (k : Nat) : OrcOK (O79 k) (CallOK false Tryd.prog) := by
  intro R f args K r h
  unfold O79 at h
  cases hb : Nat.beq f 79 with
  | false => rw [hb] at h; exact ok_O11 k R f args K r h
  | true =>
    rw [hb] at h
    rw [Nat.eq_of_beq_eq_true hb]
    simp only [cond_true] at h
    split at h
    · rename_i T' l i j
      cases hd : T'.dec (.st (.cons (.st (.cons (.int .u32) (.cons .str .nil))) (.cons (.int .i64) (.cons .str (.cons (.int .u64) (.cons .str (.cons (.int .i64) (.cons (.int .i64) .nil)))))))) with
      | none => rw [hd] at h; cases h
      | some hh =>
        obtain ⟨rfl⟩ := hh
        rw [hd] at h
        obtain ⟨y, hy, h⟩ := obind_some h
        unfold F79 at hy
        by_cases c1 : 0 ≤ i
        · rw [sel_pos c1] at hy
          by_cases c2 : i ≤ j
          · rw [sel_pos c2] at hy
            by_cases c3 : j ≤ Int.ofNat (l : List (Ty.den (.st (.cons (.st (.cons (.int .u32) (.cons .str .nil))) (.cons (.int .i64) (.cons .str (.cons (.int .u64) (.cons .str (.cons (.int .i64) (.cons (.int .i64) .nil)))))))))).length
            · rw [sel_pos c3] at hy
              cases hy
              obtain ⟨ti, d, z, E⟩ := hT.get (t := 37) (i := ⟨.struct, 8, 88, (.st (.cons (.st (.cons (.int .u32) (.cons .str .nil))) (.cons (.int .i64) (.cons .str (.cons (.int .u64) (.cons .str (.cons (.int .i64) (.cons (.int .i64) .nil)))))))), [.int .u32 0, .str [], .int .i64 0, .str [], .int .u64 0, .str [], .int .i64 0, .int .i64 0], [(0, 34), (2, 3), (3, 9), (4, 35), (5, 9), (6, 3), (7, 3)], [2, 1, 1, 1, 1, 1, 1], true, true, [], []⟩) rfl
              exact ⟨_, Del79.calls E rfl rfl l i j c1 c2 c3, h⟩
            · rw [sel_neg c3] at hy; cases hy
          · rw [sel_neg c2] at hy; cases hy
        · rw [sel_neg c1] at hy; cases hy
    · cases h
noncomputable def c47 : Code := Tryd.f47.body.getD .skip
noncomputable def mi47 : Msk := ⟨[(.tmp 0, .val (.slice (.st (.cons (.st (.cons (.int .u32) (.cons .str .nil))) (.cons (.int .i64) (.cons .str (.cons (.int .u64) (.cons .str (.cons (.int .i64) (.cons (.int .i64) .nil)))))))))), (.tmp 1, .val (.st (.cons (.int .u32) (.cons .str .nil))))], []⟩
noncomputable def mo47 : Msk := ⟨[(.tmp 4, .val (.slice (.st (.cons (.st (.cons (.int .u32) (.cons .str .nil))) (.cons (.int .i64) (.cons .str (.cons (.int .u64) (.cons .str (.cons (.int .i64) (.cons (.int .i64) .nil)))))))))), (.tmp 5, .val (.int .i64))], []⟩
noncomputable def L47 (k : Nat) : LOrc := fun _ _ _ _ => none
noncomputable def F47 (k : Nat) (v : mi47.den) : Option mo47.den := runF TI (O79 k) (L47 k) c47 mi47 mo47 v
theorem lk47 (k : Nat) : LinksOK false Tryd.prog 27 (L47 k) c47 := (And.intro True.intro (And.intro (And.intro True.intro (And.intro (And.intro True.intro True.intro) True.intro)) (And.intro True.intro (And.intro (And.intro True.intro (And.intro (And.intro True.intro True.intro) True.intro)) (And.intro True.intro True.intro)))))
theorem fn47 (k : Nat) (args : List AV) (x : mi47.den) (r : mo47.den) (h1 : args.length = mi47.items.length) (h2 : mi47.dec (Th.start args) = some x) (h3 : F47 k x = some r) : CallOK false Tryd.prog 47 args (ansOf (outL mo47.items r)) :=
  call_of hm hT (ok_O79 k) (fn := Tryd.f47) (c := c47) Tryd.func47 rfl rfl rfl (lk47 k) rfl (by decide) rfl h1 h2 h3
noncomputable def O47 (k : Nat) : Orc := fun R f args K => bif Nat.beq f 47 then callF mi47 mo47 (F47 k) args K else O79 k R f args K
theorem ok_O47 (k : Nat) : OrcOK (O47 k) (CallOK false Tryd.prog) := orc_add (fn47 k) (ok_O79 k)
noncomputable def c20 : Code := Tryd.f20.body.getD .skip
noncomputable def mi20 : Msk := ⟨[(.tmp 0, .val (.st (.cons (.int .i64) (.cons (.slice (.slice (.st (.cons (.st (.cons (.int .u32) (.cons .str .nil))) (.cons (.int .i64) (.cons .str (.cons (.int .u64) (.cons .str (.cons (.int .i64) (.cons (.int .i64) .nil)))))))))) .nil)))), (.tmp 1, .val (.st (.cons (.int .u32) (.cons .str .nil))))], []⟩
noncomputable def mo20 : Msk := ⟨[(.res 4, .val (.st (.cons (.int .i64) (.cons (.slice (.slice (.st (.cons (.st (.cons (.int .u32) (.cons .str .nil))) (.cons (.int .i64) (.cons .str (.cons (.int .u64) (.cons .str (.cons (.int .i64) (.cons (.int .i64) .nil)))))))))) .nil)))), (.tmp 5, .val (.int .i64))], []⟩
noncomputable def L20 (k : Nat) : LOrc := fun _ _ _ _ => none
noncomputable def F20 (k : Nat) (v : mi20.den) : Option mo20.den := runF TI (O47 k) (L20 k) c20 mi20 mo20 v
theorem lk20 (k : Nat) : LinksOK false Tryd.prog 50 (L20 k) c20 := (And.intro True.intro (And.intro (And.intro True.intro (And.intro (And.intro True.intro True.intro) True.intro)) (And.intro True.intro (And.intro True.intro (And.intro (And.intro True.intro (And.intro (And.intro True.intro True.intro) (And.intro (And.intro True.intro (And.intro True.intro True.intro)) (And.intro (And.intro True.intro True.intro) True.intro)))) (And.intro True.intro (And.intro True.intro True.intro)))))))
theorem fn20 (k : Nat) (args : List AV) (x : mi20.den) (r : mo20.den) (h1 : args.length = mi20.items.length) (h2 : mi20.dec (Th.start args) = some x) (h3 : F20 k x = some r) : CallOK false Tryd.prog 20 args (ansOf (outL mo20.items r)) :=
  call_of hm hT (ok_O47 k) (fn := Tryd.f20) (c := c20) Tryd.func20 rfl rfl rfl (lk20 k) rfl (by decide) rfl h1 h2 h3
noncomputable def O20 (k : Nat) : Orc := fun R f args K => bif Nat.beq f 20 then callF mi20 mo20 (F20 k) args K else O47 k R f args K
theorem ok_O20 (k : Nat) : OrcOK (O20 k) (CallOK false Tryd.prog) := orc_add (fn20 k) (ok_O47 k)
noncomputable def c46 : Code := Tryd.f46.body.getD .skip
noncomputable def mi46 : Msk := ⟨[(.tmp 0, .val (.slice (.st (.cons (.st (.cons (.int .u32) (.cons .str .nil))) (.cons (.int .i64) (.cons .str (.cons (.int .u64) (.cons .str (.cons (.int .i64) (.cons (.int .i64) .nil)))))))))), (.tmp 1, .val (.int .i64)), (.tmp 2, .val (.st (.cons (.st (.cons (.int .u32) (.cons .str .nil))) (.cons (.int .i64) (.cons .str (.cons (.int .u64) (.cons .str (.cons (.int .i64) (.cons (.int .i64) .nil)))))))))], []⟩
noncomputable def mo46 : Msk := ⟨[(.tmp 6, .val (.slice (.st (.cons (.st (.cons (.int .u32) (.cons .str .nil))) (.cons (.int .i64) (.cons .str (.cons (.int .u64) (.cons .str (.cons (.int .i64) (.cons (.int .i64) .nil)))))))))), (.tmp 7, .val (.int .i64))], []⟩
noncomputable def L46 (k : Nat) : LOrc := fun _ _ _ _ => none
noncomputable def F46 (k : Nat) (v : mi46.den) : Option mo46.den := runF TI (O20 k) (L46 k) c46 mi46 mo46 v
theorem lk46 (k : Nat) : LinksOK false Tryd.prog 47 (L46 k) c46 := (And.intro True.intro (And.intro (And.intro True.intro (And.intro (And.intro True.intro True.intro) True.intro)) (And.intro True.intro (And.intro (And.intro True.intro (And.intro (And.intro True.intro True.intro) (And.intro True.intro (And.intro (And.intro True.intro True.intro) True.intro)))) (And.intro True.intro (And.intro True.intro (And.intro True.intro True.intro)))))))
theorem fn46 (k : Nat) (args : List AV) (x : mi46.den) (r : mo46.den) (h1 : args.length = mi46.items.length) (h2 : mi46.dec (Th.start args) = some x) (h3 : F46 k x = some r) : CallOK false Tryd.prog 46 args (ansOf (outL mo46.items r)) :=
  call_of hm hT (ok_O20 k) (fn := Tryd.f46) (c := c46) Tryd.func46 rfl rfl rfl (lk46 k) rfl (by decide) rfl h1 h2 h3
noncomputable def O46 (k : Nat) : Orc := fun R f args K => bif Nat.beq f 46 then callF mi46 mo46 (F46 k) args K else O20 k R f args K
theorem ok_O46 (k : Nat) : OrcOK (O46 k) (CallOK false Tryd.prog) := orc_add (fn46 k) (ok_O20 k)
noncomputable def c18 : Code := Tryd.f18.body.getD .skip
noncomputable def mi18 : Msk := ⟨[(.tmp 0, .val (.st (.cons (.int .i64) (.cons (.slice (.slice (.st (.cons (.st (.cons (.int .u32) (.cons .str .nil))) (.cons (.int .i64) (.cons .str (.cons (.int .u64) (.cons .str (.cons (.int .i64) (.cons (.int .i64) .nil)))))))))) .nil)))), (.tmp 1, .val (.int .i64)), (.tmp 2, .val (.st (.cons (.st (.cons (.int .u32) (.cons .str .nil))) (.cons (.int .i64) (.cons .str (.cons (.int .u64) (.cons .str (.cons (.int .i64) (.cons (.int .i64) .nil)))))))))], []⟩
noncomputable def mo18 : Msk := ⟨[(.res 6, .val (.st (.cons (.int .i64) (.cons (.slice (.slice (.st (.cons (.st (.cons (.int .u32) (.cons .str .nil))) (.cons (.int .i64) (.cons .str (.cons (.int .u64) (.cons .str (.cons (.int .i64) (.cons (.int .i64) .nil)))))))))) .nil)))), (.tmp 7, .val (.int .i64))], []⟩
noncomputable def L18 (k : Nat) : LOrc := fun _ _ _ _ => none
noncomputable def F18 (k : Nat) (v : mi18.den) : Option mo18.den := runF TI (O46 k) (L18 k) c18 mi18 mo18 v
theorem lk18 (k : Nat) : LinksOK false Tryd.prog 43 (L18 k) c18 := (And.intro True.intro (And.intro (And.intro True.intro (And.intro (And.intro True.intro True.intro) True.intro)) (And.intro True.intro (And.intro True.intro (And.intro (And.intro True.intro (And.intro (And.intro True.intro True.intro) True.intro)) (And.intro True.intro True.intro))))))
theorem fn18 (k : Nat) (args : List AV) (x : mi18.den) (r : mo18.den) (h1 : args.length = mi18.items.length) (h2 : mi18.dec (Th.start args) = some x) (h3 : F18 k x = some r) : CallOK false Tryd.prog 18 args (ansOf (outL mo18.items r)) :=
  call_of hm hT (ok_O46 k) (fn := Tryd.f18) (c := c18) Tryd.func18 rfl rfl rfl (lk18 k) rfl (by decide) rfl h1 h2 h3
noncomputable def O18 (k : Nat) : Orc := fun R f args K => bif Nat.beq f 18 then callF mi18 mo18 (F18 k) args K else O46 k R f args K
theorem ok_O18 (k : Nat) : OrcOK (O18 k) (CallOK false Tryd.prog) := orc_add (fn18 k) (ok_O46 k)
noncomputable def c10 : Code := Tryd.f10.body.getD .skip
noncomputable def mi10 : Msk := ⟨[(.tmp 0, .val (.st (.cons (.int .i64) (.cons (.slice (.slice (.st (.cons (.st (.cons (.int .u32) (.cons .str .nil))) (.cons (.int .i64) (.cons .str (.cons (.int .u64) (.cons .str (.cons (.int .i64) (.cons (.int .i64) .nil)))))))))) .nil)))), (.tmp 1, .val (.st (.cons (.int .u32) (.cons .str .nil))))], []⟩
noncomputable def mo10 : Msk := ⟨[(.res 4, .val (.st (.cons (.st (.cons (.int .u32) (.cons .str .nil))) (.cons (.int .i64) (.cons .str (.cons (.int .u64) (.cons .str (.cons (.int .i64) (.cons (.int .i64) .nil))))))))), (.tmp 5, .val .bool)], []⟩
noncomputable def L10 (k : Nat) : LOrc := fun _ _ _ _ => none
noncomputable def F10 (k : Nat) (v : mi10.den) : Option mo10.den := runF TI (O18 k) (L10 k) c10 mi10 mo10 v
theorem lk10 (k : Nat) : LinksOK false Tryd.prog 23 (L10 k) c10 := (And.intro True.intro (And.intro (And.intro True.intro (And.intro (And.intro True.intro True.intro) True.intro)) (And.intro True.intro (And.intro True.intro True.intro))))
theorem fn10 (k : Nat) (args : List AV) (x : mi10.den) (r : mo10.den) (h1 : args.length = mi10.items.length) (h2 : mi10.dec (Th.start args) = some x) (h3 : F10 k x = some r) : CallOK false Tryd.prog 10 args (ansOf (outL mo10.items r)) :=
  call_of hm hT (ok_O18 k) (fn := Tryd.f10) (c := c10) Tryd.func10 rfl rfl rfl (lk10 k) rfl (by decide) rfl h1 h2 h3
noncomputable def O10 (k : Nat) : Orc := fun R f args K => bif Nat.beq f 10 then callF mi10 mo10 (F10 k) args K else O18 k R f args K
theorem ok_O10 (k : Nat) : OrcOK (O10 k) (CallOK false Tryd.prog) := orc_add (fn10 k) (ok_O18 k)
noncomputable def F61 (k : Nat) (v : Int × Unit) : Option (List (Ty.den (.st (.cons (.st (.cons (.int .u32) (.cons .str .nil))) (.cons (.int .i64) (.cons .str (.cons (.int .u64) (.cons .str (.cons (.int .i64) (.cons (.int .i64) .nil))))))))) × Unit) := sel (decide (0 ≤ v.1)) (sel (decide (v.1 * 88 ≤ 140737488355328)) (some ([], ())) none) none
noncomputable def O61 (k : Nat) : Orc := fun R f args K => bif Nat.beq f 61 then (match args with | [.nilsl, .int .i64 n] => ocall (F61 k (n, ())) fun r => K (.own (.st (.cons (.st (.cons (.int .u32) (.cons .str .nil))) (.cons (.int .i64) (.cons .str (.cons (.int .u64) (.cons .str (.cons (.int .i64) (.cons (.int .i64) .nil)))))))) r.1) | _ => none) else O10 k R f args K
theorem ok_O61 (k : Nat) : OrcOK (O61 k) (CallOK false Tryd.prog) := by
  intro R f args K r h
  unfold O61 at h
  cases hb : Nat.beq f 61 with
  | false => rw [hb] at h; exact ok_O10 k R f args K r h
  | true =>
    rw [hb] at h
    rw [Nat.eq_of_beq_eq_true hb]
    simp only [cond_true] at h
    split at h
    · rename_i m
      unfold F61 at h
      by_cases h0 : 0 ≤ m
      · rw [sel_pos h0] at h
        by_cases h1 : m * 88 ≤ 140737488355328
        · rw [sel_pos h1] at h
          obtain ⟨ti, d, z, E⟩ := hT.get (t := 37) (i := ⟨.struct, 8, 88, (.st (.cons (.st (.cons (.int .u32) (.cons .str .nil))) (.cons (.int .i64) (.cons .str (.cons (.int .u64) (.cons .str (.cons (.int .i64) (.cons (.int .i64) .nil)))))))), [.int .u32 0, .str [], .int .i64 0, .str [], .int .u64 0, .str [], .int .i64 0, .int .i64 0], [(0, 34), (2, 3), (3, 9), (4, 35), (5, 9), (6, 3), (7, 3)], [2, 1, 1, 1, 1, 1, 1], true, true, [], []⟩) rfl
          exact ⟨_, Grow61.calls E (by decide) m h0 h1 (by omega), h⟩
        · rw [sel_neg h1] at h; cases h
      · rw [sel_neg h0] at h; cases h
    · cases h
noncomputable def c29 : Code := Tryd.f29.body.getD .skip
noncomputable def mi29 : Msk := ⟨[(.tmp 0, .val (.slice (.slice (.st (.cons (.st (.cons (.int .u32) (.cons .str .nil))) (.cons (.int .i64) (.cons .str (.cons (.int .u64) (.cons .str (.cons (.int .i64) (.cons (.int .i64) .nil)))))))))))], []⟩
noncomputable def mo29 : Msk := ⟨[(.tmp 2, .row false (.st (.cons (.st (.cons (.int .u32) (.cons .str .nil))) (.cons (.int .i64) (.cons .str (.cons (.int .u64) (.cons .str (.cons (.int .i64) (.cons (.int .i64) .nil)))))))))], []⟩
noncomputable def L29_3 (k : Nat) : LOrc := fun _ _ _ _ => none
noncomputable def b29_3 : Code := (findLoop 3 c29).getD .skip
noncomputable def m29_3 : Msk := ⟨[(.tmp 0, .val (.slice (.slice (.st (.cons (.st (.cons (.int .u32) (.cons .str .nil))) (.cons (.int .i64) (.cons .str (.cons (.int .u64) (.cons .str (.cons (.int .i64) (.cons (.int .i64) .nil))))))))))), (.tmp 3, .val (.int .i64)), (.tmp 9, .val (.slice (.slice (.st (.cons (.st (.cons (.int .u32) (.cons .str .nil))) (.cons (.int .i64) (.cons .str (.cons (.int .u64) (.cons .str (.cons (.int .i64) (.cons (.int .i64) .nil))))))))))), (.tmp 10, .val (.int .i64)), (.tmp 11, .val (.int .i64))], []⟩
noncomputable def x29_3 : List (X × Msk) := [(.exit 0, ⟨[(.tmp 0, .val (.slice (.slice (.st (.cons (.st (.cons (.int .u32) (.cons .str .nil))) (.cons (.int .i64) (.cons .str (.cons (.int .u64) (.cons .str (.cons (.int .i64) (.cons (.int .i64) .nil))))))))))), (.tmp 3, .val (.int .i64))], []⟩)]
noncomputable def F29_3 (k : Nat) : Nat → m29_3.den → Option (denE x29_3)
  | 0, _ => none
  | j + 1, v => round TI (O61 k) (L29_3 k) b29_3 m29_3 x29_3 (F29_3 k j) v
theorem lk29_3_ (k : Nat) : LinksOK false Tryd.prog 36 (L29_3 k) b29_3 := (And.intro True.intro (And.intro (And.intro True.intro True.intro) (And.intro (And.intro True.intro (And.intro True.intro (And.intro True.intro (And.intro True.intro True.intro)))) True.intro)))
noncomputable def L29_11 (k : Nat) : LOrc := fun _ _ _ _ => none
noncomputable def b29_11 : Code := (findLoop 11 c29).getD .skip
noncomputable def m29_11 : Msk := ⟨[(.tmp 6, .row false (.st (.cons (.st (.cons (.int .u32) (.cons .str .nil))) (.cons (.int .i64) (.cons .str (.cons (.int .u64) (.cons .str (.cons (.int .i64) (.cons (.int .i64) .nil))))))))), (.tmp 25, .val (.slice (.slice (.st (.cons (.st (.cons (.int .u32) (.cons .str .nil))) (.cons (.int .i64) (.cons .str (.cons (.int .u64) (.cons .str (.cons (.int .i64) (.cons (.int .i64) .nil))))))))))), (.tmp 26, .val (.int .i64)), (.tmp 27, .val (.int .i64))], []⟩
noncomputable def x29_11 : List (X × Msk) := [(.exit 2, ⟨[(.tmp 6, .row false (.st (.cons (.st (.cons (.int .u32) (.cons .str .nil))) (.cons (.int .i64) (.cons .str (.cons (.int .u64) (.cons .str (.cons (.int .i64) (.cons (.int .i64) .nil)))))))))], []⟩)]
noncomputable def F29_11 (k : Nat) : Nat → m29_11.den → Option (denE x29_11)
  | 0, _ => none
  | j + 1, v => round TI (O61 k) (L29_11 k) b29_11 m29_11 x29_11 (F29_11 k j) v
theorem lk29_11_ (k : Nat) : LinksOK false Tryd.prog 36 (L29_11 k) b29_11 := (And.intro True.intro (And.intro (And.intro True.intro True.intro) (And.intro (And.intro True.intro True.intro) True.intro)))
noncomputable def L29 (k : Nat) : LOrc := fun R lk s K => match lk with
  | .loop r => bif Nat.beq r 3 then link m29_3 x29_3 (F29_3 k k) s K else bif Nat.beq r 11 then link m29_11 x29_11 (F29_11 k k) s K else none
  | .label l => none
theorem lk_L29_3 (k : Nat) : LoopOK false Tryd.prog 36 (L29 k) b29_3 := loopOK_of hm hT (ok_O61 k) (fun _ _ _ h => h) rfl (lk29_3_ k) rfl rfl (F := F29_3 k) (fun _ => rfl) (fun _ _ => rfl) (n := k) fun _ _ _ => rfl
theorem lk_L29_11 (k : Nat) : LoopOK false Tryd.prog 36 (L29 k) b29_11 := loopOK_of hm hT (ok_O61 k) (fun _ _ _ h => h) rfl (lk29_11_ k) rfl rfl (F := F29_11 k) (fun _ => rfl) (fun _ _ => rfl) (n := k) fun _ _ _ => rfl
noncomputable def F29 (k : Nat) (v : mi29.den) : Option mo29.den := runF TI (O61 k) (L29 k) c29 mi29 mo29 v
theorem lk29 (k : Nat) : LinksOK false Tryd.prog 36 (L29 k) c29 := (And.intro True.intro (And.intro True.intro (And.intro (And.intro True.intro (lk_L29_3 k)) (And.intro True.intro (And.intro (And.intro True.intro (lk_L29_11 k)) (And.intro True.intro True.intro))))))
theorem fn29 (k : Nat) (args : List AV) (x : mi29.den) (r : mo29.den) (h1 : args.length = mi29.items.length) (h2 : mi29.dec (Th.start args) = some x) (h3 : F29 k x = some r) : CallOK false Tryd.prog 29 args (ansOf (outL mo29.items r)) :=
  call_of hm hT (ok_O61 k) (fn := Tryd.f29) (c := c29) Tryd.func29 rfl rfl rfl (lk29 k) rfl (by decide) rfl h1 h2 h3
noncomputable def O29 (k : Nat) : Orc := fun R f args K => bif Nat.beq f 29 then callF mi29 mo29 (F29 k) args K else O61 k R f args K
theorem ok_O29 (k : Nat) : OrcOK (O29 k) (CallOK false Tryd.prog) := orc_add (fn29 k) (ok_O61 k)
noncomputable def F7000011 (k : Nat) (v : List (Ty.den (.st (.cons (.st (.cons (.int .u32) (.cons .str .nil))) (.cons (.int .i64) (.cons .str (.cons (.int .u64) (.cons .str (.cons (.int .i64) (.cons (.int .i64) .nil))))))))) × Unit × Unit) : Option (List (Ty.den (.st (.cons (.st (.cons (.int .u32) (.cons .str .nil))) (.cons (.int .i64) (.cons .str (.cons (.int .u64) (.cons .str (.cons (.int .i64) (.cons (.int .i64) .nil))))))))) × Unit) := Sort30.sortO (Ty.dflt (.st (.cons (.st (.cons (.int .u32) (.cons .str .nil))) (.cons (.int .i64) (.cons .str (.cons (.int .u64) (.cons .str (.cons (.int .i64) (.cons (.int .i64) .nil))))))))) (fun x y => F31 k (x, (y, PUnit.unit))) v.1
noncomputable def O7000011 (k : Nat) : Orc := fun R f args K => bif (bif Nat.beq f 30 then isClo 1 31 args else false) then (match args with | [.own T' l, .fnv q C x] => (match T'.dec (.st (.cons (.st (.cons (.int .u32) (.cons .str .nil))) (.cons (.int .i64) (.cons .str (.cons (.int .u64) (.cons .str (.cons (.int .i64) (.cons (.int .i64) .nil)))))))), C.dec .nil with | some h, some _ => ocall (F7000011 k (h.down ▸ l, ((), ()))) fun r => K (.back (.tup []) [.lent [], .own (.st (.cons (.st (.cons (.int .u32) (.cons .str .nil))) (.cons (.int .i64) (.cons .str (.cons (.int .u64) (.cons .str (.cons (.int .i64) (.cons (.int .i64) .nil)))))))) r.1]) | _, _ => none) | _ => none) else O29 k R f args K
theorem ok_O7000011 (k : Nat) : OrcOK (O7000011 k) (CallOK false Tryd.prog) := by
  intro R f args K r h
  unfold O7000011 at h
  cases hb : (bif Nat.beq f 30 then isClo 1 31 args else false) with
  | false => rw [hb] at h; exact ok_O29 k R f args K r h
  | true =>
    rw [hb] at h
    simp only [cond_true] at h
    cases hf : Nat.beq f 30 with
    | false => rw [hf] at hb; cases hb
    | true =>
    rw [hf] at hb
    rw [Nat.eq_of_beq_eq_true hf]
    split at h
    · rename_i T' l q C x
      have hq : Nat.beq 31 q = true := hb
      have hq := Nat.eq_of_beq_eq_true hq
      subst hq
      cases hd : T'.dec (.st (.cons (.st (.cons (.int .u32) (.cons .str .nil))) (.cons (.int .i64) (.cons .str (.cons (.int .u64) (.cons .str (.cons (.int .i64) (.cons (.int .i64) .nil)))))))) with
      | none => rw [hd] at h; cases h
      | some hh =>
        cases hc : C.dec .nil with
        | none => rw [hd, hc] at h; cases h
        | some hc2 =>
        rw [hd, hc] at h
        obtain ⟨rfl⟩ := hh
        obtain ⟨rfl⟩ := hc2
        obtain ⟨y, hy, h⟩ := obind_some h
        obtain ⟨ti, d, z, E⟩ := hT.get (t := 37) (i := ⟨.struct, 8, 88, (.st (.cons (.st (.cons (.int .u32) (.cons .str .nil))) (.cons (.int .i64) (.cons .str (.cons (.int .u64) (.cons .str (.cons (.int .i64) (.cons (.int .i64) .nil)))))))), [.int .u32 0, .str [], .int .i64 0, .str [], .int .u64 0, .str [], .int .i64 0, .int .i64 0], [(0, 34), (2, 3), (3, 9), (4, 35), (5, 9), (6, 3), (7, 3)], [2, 1, 1, 1, 1, 1, 1], true, true, [], []⟩) rfl
        exact ⟨_, Sort30.calls E rfl rfl rfl rfl (fun e => by cases e) (fun x y => F31 k (x, (y, PUnit.unit))) (fun x y r hr => fn31 k [Ty.av (.st (.cons (.st (.cons (.int .u32) (.cons .str .nil))) (.cons (.int .i64) (.cons .str (.cons (.int .u64) (.cons .str (.cons (.int .i64) (.cons (.int .i64) .nil)))))))) x, Ty.av (.st (.cons (.st (.cons (.int .u32) (.cons .str .nil))) (.cons (.int .i64) (.cons .str (.cons (.int .u64) (.cons .str (.cons (.int .i64) (.cons (.int .i64) .nil)))))))) y] (x, (y, PUnit.unit)) r rfl rfl hr) l y hy, h⟩
    · cases h
noncomputable def c9 : Code := Tryd.f9.body.getD .skip
noncomputable def mi9 : Msk := ⟨[(.tmp 0, .val (.st (.cons (.int .i64) (.cons (.slice (.slice (.st (.cons (.st (.cons (.int .u32) (.cons .str .nil))) (.cons (.int .i64) (.cons .str (.cons (.int .u64) (.cons .str (.cons (.int .i64) (.cons (.int .i64) .nil)))))))))) .nil))))], []⟩
noncomputable def mo9 : Msk := ⟨[(.tmp 2, .row false (.st (.cons (.st (.cons (.int .u32) (.cons .str .nil))) (.cons (.int .i64) (.cons .str (.cons (.int .u64) (.cons .str (.cons (.int .i64) (.cons (.int .i64) .nil)))))))))], []⟩
noncomputable def L9 (k : Nat) : LOrc := fun _ _ _ _ => none
noncomputable def F9 (k : Nat) (v : mi9.den) : Option mo9.den := runF TI (O7000011 k) (L9 k) c9 mi9 mo9 v
theorem lk9 (k : Nat) : LinksOK false Tryd.prog 13 (L9 k) c9 := (And.intro True.intro (And.intro (And.intro True.intro (And.intro (And.intro True.intro True.intro) True.intro)) (And.intro True.intro (And.intro True.intro (And.intro True.intro True.intro)))))
theorem fn9 (k : Nat) (args : List AV) (x : mi9.den) (r : mo9.den) (h1 : args.length = mi9.items.length) (h2 : mi9.dec (Th.start args) = some x) (h3 : F9 k x = some r) : CallOK false Tryd.prog 9 args (ansOf (outL mo9.items r)) :=
  call_of hm hT (ok_O7000011 k) (fn := Tryd.f9) (c := c9) Tryd.func9 rfl rfl rfl (lk9 k) rfl (by decide) rfl h1 h2 h3
noncomputable def O9 (k : Nat) : Orc := fun R f args K => bif Nat.beq f 9 then callF mi9 mo9 (F9 k) args K else O7000011 k R f args K
theorem ok_O9 (k : Nat) : OrcOK (O9 k) (CallOK false Tryd.prog) := orc_add (fn9 k) (ok_O7000011 k)
noncomputable def c6 : Code := Tryd.f6.body.getD .skip
noncomputable def mi6 : Msk := ⟨[], []⟩
noncomputable def mo6 : Msk := ⟨[(.tmp 0, .val .bool)], []⟩
noncomputable def L6 (k : Nat) : LOrc := fun _ _ _ _ => none
noncomputable def F6 (k : Nat) (v : mi6.den) : Option mo6.den := runF TI (O9 k) (L6 k) c6 mi6 mo6 v
theorem lk6 (k : Nat) : LinksOK false Tryd.prog 111 (L6 k) c6 := (And.intro True.intro (And.intro True.intro (And.intro True.intro (And.intro True.intro (And.intro True.intro (And.intro True.intro (And.intro True.intro (And.intro True.intro (And.intro True.intro (And.intro True.intro (And.intro True.intro (And.intro True.intro (And.intro True.intro True.intro)))))))))))))
theorem fn6 (k : Nat) (args : List AV) (x : mi6.den) (r : mo6.den) (h1 : args.length = mi6.items.length) (h2 : mi6.dec (Th.start args) = some x) (h3 : F6 k x = some r) : CallOK false Tryd.prog 6 args (ansOf (outL mo6.items r)) :=
  call_of hm hT (ok_O9 k) (fn := Tryd.f6) (c := c6) Tryd.func6 rfl rfl rfl (lk6 k) rfl (by decide) rfl h1 h2 h3
noncomputable def O6 (k : Nat) : Orc := fun R f args K => bif Nat.beq f 6 then callF mi6 mo6 (F6 k) args K else O9 k R f args K
theorem ok_O6 (k : Nat) : OrcOK (O6 k) (CallOK false Tryd.prog) := orc_add (fn6 k) (ok_O9 k)
noncomputable def c16 : Code := Tryd.f16.body.getD .skip
noncomputable def mi16 : Msk := ⟨[(.tmp 0, .val (.st (.cons (.st (.cons (.int .u32) (.cons .str .nil))) (.cons (.int .i64) (.cons .str (.cons (.int .u64) (.cons .str (.cons (.int .i64) (.cons (.int .i64) .nil)))))))))], []⟩
noncomputable def mo16 : Msk := ⟨[(.tmp 2, .val .bool)], []⟩
noncomputable def L16 (k : Nat) : LOrc := fun _ _ _ _ => none
noncomputable def F16 (k : Nat) (v : mi16.den) : Option mo16.den := runF TI (O6 k) (L16 k) c16 mi16 mo16 v
theorem lk16 (k : Nat) : LinksOK false Tryd.prog 18 (L16 k) c16 := (And.intro True.intro (And.intro True.intro True.intro))
theorem fn16 (k : Nat) (args : List AV) (x : mi16.den) (r : mo16.den) (h1 : args.length = mi16.items.length) (h2 : mi16.dec (Th.start args) = some x) (h3 : F16 k x = some r) : CallOK false Tryd.prog 16 args (ansOf (outL mo16.items r)) :=
  call_of hm hT (ok_O6 k) (fn := Tryd.f16) (c := c16) Tryd.func16 rfl rfl rfl (lk16 k) rfl (by decide) rfl h1 h2 h3
noncomputable def O16 (k : Nat) : Orc := fun R f args K => bif Nat.beq f 16 then callF mi16 mo16 (F16 k) args K else O6 k R f args K
theorem ok_O16 (k : Nat) : OrcOK (O16 k) (CallOK false Tryd.prog) := orc_add (fn16 k) (ok_O6 k)
noncomputable def c7 : Code := Tryd.f7.body.getD .skip
noncomputable def mi7 : Msk := ⟨[(.tmp 0, .val (.slice (.st (.cons (.st (.cons (.int .u32) (.cons .str .nil))) (.cons (.int .i64) (.cons .str (.cons (.int .u64) (.cons .str (.cons (.int .i64) (.cons (.int .i64) .nil))))))))))], []⟩
noncomputable def mo7 : Msk := ⟨[(.tmp 2, .val .bool)], []⟩
noncomputable def L7_2 (k : Nat) : LOrc := fun _ _ _ _ => none
noncomputable def b7_2 : Code := (findLoop 2 c7).getD .skip
noncomputable def m7_2 : Msk := ⟨[(.tmp 0, .val (.slice (.st (.cons (.st (.cons (.int .u32) (.cons .str .nil))) (.cons (.int .i64) (.cons .str (.cons (.int .u64) (.cons .str (.cons (.int .i64) (.cons (.int .i64) .nil)))))))))), (.tmp 3, .val (.int .i64))], []⟩
noncomputable def x7_2 : List (X × Msk) := [(.exit 0, ⟨[(.tmp 0, .val (.slice (.st (.cons (.st (.cons (.int .u32) (.cons .str .nil))) (.cons (.int .i64) (.cons .str (.cons (.int .u64) (.cons .str (.cons (.int .i64) (.cons (.int .i64) .nil))))))))))], []⟩), (.ret, ⟨[(.tmp 2, .val .bool)], []⟩)]
noncomputable def F7_2 (k : Nat) : Nat → m7_2.den → Option (denE x7_2)
  | 0, _ => none
  | j + 1, v => round TI (O16 k) (L7_2 k) b7_2 m7_2 x7_2 (F7_2 k j) v
theorem lk7_2_ (k : Nat) : LinksOK false Tryd.prog 23 (L7_2 k) b7_2 := (And.intro (And.intro True.intro (And.intro True.intro True.intro)) (And.intro (And.intro True.intro (And.intro (And.intro True.intro True.intro) True.intro)) True.intro))
noncomputable def L7 (k : Nat) : LOrc := fun R lk s K => match lk with
  | .loop r => bif Nat.beq r 2 then link m7_2 x7_2 (F7_2 k k) s K else none
  | .label l => none
theorem lk_L7_2 (k : Nat) : LoopOK false Tryd.prog 23 (L7 k) b7_2 := loopOK_of hm hT (ok_O16 k) (fun _ _ _ h => h) rfl (lk7_2_ k) rfl rfl (F := F7_2 k) (fun _ => rfl) (fun _ _ => rfl) (n := k) fun _ _ _ => rfl
noncomputable def F7 (k : Nat) (v : mi7.den) : Option mo7.den := runF TI (O16 k) (L7 k) c7 mi7 mo7 v
theorem lk7 (k : Nat) : LinksOK false Tryd.prog 23 (L7 k) c7 := (And.intro True.intro (And.intro (And.intro True.intro (lk_L7_2 k)) (And.intro True.intro True.intro)))
theorem fn7 (k : Nat) (args : List AV) (x : mi7.den) (r : mo7.den) (h1 : args.length = mi7.items.length) (h2 : mi7.dec (Th.start args) = some x) (h3 : F7 k x = some r) : CallOK false Tryd.prog 7 args (ansOf (outL mo7.items r)) :=
  call_of hm hT (ok_O16 k) (fn := Tryd.f7) (c := c7) Tryd.func7 rfl rfl rfl (lk7 k) rfl (by decide) rfl h1 h2 h3
noncomputable def O7 (k : Nat) : Orc := fun R f args K => bif Nat.beq f 7 then callF mi7 mo7 (F7 k) args K else O16 k R f args K
theorem ok_O7 (k : Nat) : OrcOK (O7 k) (CallOK false Tryd.prog) := orc_add (fn7 k) (ok_O16 k)
noncomputable def c14 : Code := Tryd.f14.body.getD .skip
noncomputable def mi14 : Msk := ⟨[(.tmp 0, .val (.slice (.st (.cons (.st (.cons (.int .u32) (.cons .str .nil))) (.cons (.int .i64) (.cons .str (.cons (.int .u64) (.cons .str (.cons (.int .i64) (.cons (.int .i64) .nil)))))))))), (.tmp 1, .val (.slice (.st (.cons (.st (.cons (.int .u32) (.cons .str .nil))) (.cons (.int .i64) (.cons .str (.cons (.int .u64) (.cons .str (.cons (.int .i64) (.cons (.int .i64) .nil))))))))))], []⟩
noncomputable def mo14 : Msk := ⟨[(.tmp 4, .val .bool)], []⟩
noncomputable def L14_4 (k : Nat) : LOrc := fun _ _ _ _ => none
noncomputable def b14_4 : Code := (findLoop 4 c14).getD .skip
noncomputable def m14_4 : Msk := ⟨[(.tmp 0, .val (.slice (.st (.cons (.st (.cons (.int .u32) (.cons .str .nil))) (.cons (.int .i64) (.cons .str (.cons (.int .u64) (.cons .str (.cons (.int .i64) (.cons (.int .i64) .nil)))))))))), (.tmp 1, .val (.slice (.st (.cons (.st (.cons (.int .u32) (.cons .str .nil))) (.cons (.int .i64) (.cons .str (.cons (.int .u64) (.cons .str (.cons (.int .i64) (.cons (.int .i64) .nil)))))))))), (.tmp 5, .val (.int .i64))], []⟩
noncomputable def x14_4 : List (X × Msk) := [(.exit 0, ⟨[], []⟩), (.ret, ⟨[(.tmp 4, .val .bool)], []⟩)]
noncomputable def F14_4 (k : Nat) : Nat → m14_4.den → Option (denE x14_4)
  | 0, _ => none
  | j + 1, v => round TI (O7 k) (L14_4 k) b14_4 m14_4 x14_4 (F14_4 k j) v
theorem lk14_4_ (k : Nat) : LinksOK false Tryd.prog 26 (L14_4 k) b14_4 := (And.intro (And.intro True.intro (And.intro True.intro True.intro)) (And.intro (And.intro True.intro (And.intro (And.intro True.intro True.intro) True.intro)) True.intro))
noncomputable def L14 (k : Nat) : LOrc := fun R lk s K => match lk with
  | .loop r => bif Nat.beq r 4 then link m14_4 x14_4 (F14_4 k k) s K else none
  | .label l => none
theorem lk_L14_4 (k : Nat) : LoopOK false Tryd.prog 26 (L14 k) b14_4 := loopOK_of hm hT (ok_O7 k) (fun _ _ _ h => h) rfl (lk14_4_ k) rfl rfl (F := F14_4 k) (fun _ => rfl) (fun _ _ => rfl) (n := k) fun _ _ _ => rfl
noncomputable def F14 (k : Nat) (v : mi14.den) : Option mo14.den := runF TI (O7 k) (L14 k) c14 mi14 mo14 v
theorem lk14 (k : Nat) : LinksOK false Tryd.prog 26 (L14 k) c14 := (And.intro True.intro (And.intro (And.intro True.intro (And.intro (And.intro True.intro True.intro) True.intro)) (And.intro (And.intro True.intro (lk_L14_4 k)) (And.intro True.intro True.intro))))
theorem fn14 (k : Nat) (args : List AV) (x : mi14.den) (r : mo14.den) (h1 : args.length = mi14.items.length) (h2 : mi14.dec (Th.start args) = some x) (h3 : F14 k x = some r) : CallOK false Tryd.prog 14 args (ansOf (outL mo14.items r)) :=
  call_of hm hT (ok_O7 k) (fn := Tryd.f14) (c := c14) Tryd.func14 rfl rfl rfl (lk14 k) rfl (by decide) rfl h1 h2 h3
noncomputable def O14 (k : Nat) : Orc := fun R f args K => bif Nat.beq f 14 then callF mi14 mo14 (F14 k) args K else O7 k R f args K
theorem ok_O14 (k : Nat) : OrcOK (O14 k) (CallOK false Tryd.prog) := orc_add (fn14 k) (ok_O7 k)
noncomputable def c3 : Code := Tryd.f3.body.getD .skip
noncomputable def mi3 : Msk := ⟨[(.tmp 0, .val (.int .u8)), (.tmp 1, .val (.int .u8)), (.tmp 2, .val (.int .u8)), (.tmp 3, .val (.slice (.st (.cons (.st (.cons (.int .u32) (.cons .str .nil))) (.cons (.int .i64) (.cons .str (.cons (.int .u64) (.cons .str (.cons (.int .i64) (.cons (.int .i64) .nil))))))))))], []⟩
noncomputable def mo3 : Msk := ⟨[(.tmp 8, .val .bool)], []⟩
noncomputable def L3_10 (k : Nat) : LOrc := fun _ _ _ _ => none
noncomputable def b3_10 : Code := (findLoop 10 c3).getD .skip
noncomputable def m3_10 : Msk := ⟨[(.tmp 3, .val (.slice (.st (.cons (.st (.cons (.int .u32) (.cons .str .nil))) (.cons (.int .i64) (.cons .str (.cons (.int .u64) (.cons .str (.cons (.int .i64) (.cons (.int .i64) .nil)))))))))), (.tmp 9, .ptr 9 0), (.tmp 11, .ptr 11 0), (.tmp 13, .val (.int .i64)), (.cell 9 0, .val (.int .i64)), (.cell 9 1, .val (.slice (.slice (.st (.cons (.st (.cons (.int .u32) (.cons .str .nil))) (.cons (.int .i64) (.cons .str (.cons (.int .u64) (.cons .str (.cons (.int .i64) (.cons (.int .i64) .nil))))))))))), (.cell 11 0, .val (.int .i64)), (.cell 11 1, .val (.slice (.slice (.st (.cons (.st (.cons (.int .u32) (.cons .str .nil))) (.cons (.int .i64) (.cons .str (.cons (.int .u64) (.cons .str (.cons (.int .i64) (.cons (.int .i64) .nil)))))))))))], [(9, 2), (11, 2)]⟩
noncomputable def x3_10 : List (X × Msk) := [(.exit 0, ⟨[(.tmp 9, .ptr 9 0), (.tmp 11, .ptr 11 0), (.cell 9 0, .val (.int .i64)), (.cell 9 1, .val (.slice (.slice (.st (.cons (.st (.cons (.int .u32) (.cons .str .nil))) (.cons (.int .i64) (.cons .str (.cons (.int .u64) (.cons .str (.cons (.int .i64) (.cons (.int .i64) .nil))))))))))), (.cell 11 0, .val (.int .i64)), (.cell 11 1, .val (.slice (.slice (.st (.cons (.st (.cons (.int .u32) (.cons .str .nil))) (.cons (.int .i64) (.cons .str (.cons (.int .u64) (.cons .str (.cons (.int .i64) (.cons (.int .i64) .nil)))))))))))], [(9, 2), (11, 2)]⟩), (.ret, ⟨[(.tmp 8, .val .bool)], []⟩)]
noncomputable def F3_10 (k : Nat) : Nat → m3_10.den → Option (denE x3_10)
  | 0, _ => none
  | j + 1, v => round TI (O14 k) (L3_10 k) b3_10 m3_10 x3_10 (F3_10 k j) v
theorem lk3_10_ (k : Nat) : LinksOK false Tryd.prog 184 (L3_10 k) b3_10 := (And.intro (And.intro True.intro (And.intro True.intro True.intro)) (And.intro (And.intro True.intro (And.intro True.intro (And.intro True.intro (And.intro True.intro (And.intro True.intro (And.intro (And.intro True.intro (And.intro (And.intro True.intro True.intro) True.intro)) (And.intro (And.intro True.intro (And.intro (And.intro True.intro (And.intro True.intro (And.intro (And.intro True.intro True.intro) True.intro))) True.intro)) True.intro))))))) True.intro))
noncomputable def L3 (k : Nat) : LOrc := fun R lk s K => match lk with
  | .loop r => bif Nat.beq r 10 then link m3_10 x3_10 (F3_10 k k) s K else none
  | .label l => none
theorem lk_L3_10 (k : Nat) : LoopOK false Tryd.prog 184 (L3 k) b3_10 := loopOK_of hm hT (ok_O14 k) (fun _ _ _ h => h) rfl (lk3_10_ k) rfl rfl (F := F3_10 k) (fun _ => rfl) (fun _ _ => rfl) (n := k) fun _ _ _ => rfl
noncomputable def F3 (k : Nat) (v : mi3.den) : Option mo3.den := runF TI (O14 k) (L3 k) c3 mi3 mo3 v
theorem lk3 (k : Nat) : LinksOK false Tryd.prog 184 (L3 k) c3 := (And.intro True.intro (And.intro (And.intro True.intro (And.intro (And.intro True.intro True.intro) True.intro)) (And.intro (And.intro True.intro (And.intro (And.intro True.intro True.intro) True.intro)) (And.intro True.intro (And.intro True.intro (And.intro (And.intro True.intro (And.intro (And.intro True.intro True.intro) True.intro)) (And.intro (And.intro True.intro (lk_L3_10 k)) (And.intro True.intro True.intro))))))))
theorem fn3 (k : Nat) (args : List AV) (x : mi3.den) (r : mo3.den) (h1 : args.length = mi3.items.length) (h2 : mi3.dec (Th.start args) = some x) (h3 : F3 k x = some r) : CallOK false Tryd.prog 3 args (ansOf (outL mo3.items r)) :=
  call_of hm hT (ok_O14 k) (fn := Tryd.f3) (c := c3) Tryd.func3 rfl rfl rfl (lk3 k) rfl (by decide) rfl h1 h2 h3
noncomputable def O3 (k : Nat) : Orc := fun R f args K => bif Nat.beq f 3 then callF mi3 mo3 (F3 k) args K else O14 k R f args K
theorem ok_O3 (k : Nat) : OrcOK (O3 k) (CallOK false Tryd.prog) := orc_add (fn3 k) (ok_O14 k)
noncomputable def c4 : Code := Tryd.f4.body.getD .skip
noncomputable def mi4 : Msk := ⟨[(.tmp 0, .val (.st (.cons (.int .i64) (.cons (.slice (.slice (.st (.cons (.st (.cons (.int .u32) (.cons .str .nil))) (.cons (.int .i64) (.cons .str (.cons (.int .u64) (.cons .str (.cons (.int .i64) (.cons (.int .i64) .nil)))))))))) .nil)))), (.tmp 1, .val (.st (.cons (.st (.cons (.int .u32) (.cons .str .nil))) (.cons (.int .i64) (.cons .str (.cons (.int .u64) (.cons .str (.cons (.int .i64) (.cons (.int .i64) .nil))))))))), (.tmp 2, .val (.int .i64)), (.tmp 3, .val (.st (.cons (.int .u32) (.cons .str .nil))))], []⟩
noncomputable def mo4 : Msk := ⟨[(.tmp 8, .val .bool)], []⟩
noncomputable def L4 (k : Nat) : LOrc := fun _ _ _ _ => none
noncomputable def F4 (k : Nat) (v : mi4.den) : Option mo4.den := runF TI (O3 k) (L4 k) c4 mi4 mo4 v
theorem lk4 (k : Nat) : LinksOK false Tryd.prog 206 (L4 k) c4 := (And.intro True.intro (And.intro (And.intro True.intro (And.intro (And.intro True.intro True.intro) True.intro)) (And.intro (And.intro True.intro (And.intro (And.intro True.intro True.intro) True.intro)) (And.intro True.intro (And.intro True.intro (And.intro True.intro (And.intro (And.intro True.intro (And.intro (And.intro True.intro (And.intro True.intro (And.intro True.intro (And.intro (And.intro True.intro True.intro) True.intro)))) (And.intro True.intro (And.intro (And.intro True.intro True.intro) True.intro)))) (And.intro True.intro (And.intro (And.intro True.intro (And.intro (And.intro True.intro True.intro) True.intro)) (And.intro True.intro (And.intro True.intro (And.intro True.intro True.intro))))))))))))
theorem fn4 (k : Nat) (args : List AV) (x : mi4.den) (r : mo4.den) (h1 : args.length = mi4.items.length) (h2 : mi4.dec (Th.start args) = some x) (h3 : F4 k x = some r) : CallOK false Tryd.prog 4 args (ansOf (outL mo4.items r)) :=
  call_of hm hT (ok_O3 k) (fn := Tryd.f4) (c := c4) Tryd.func4 rfl rfl rfl (lk4 k) rfl (by decide) rfl h1 h2 h3
noncomputable def O4 (k : Nat) : Orc := fun R f args K => bif Nat.beq f 4 then callF mi4 mo4 (F4 k) args K else O3 k R f args K
theorem ok_O4 (k : Nat) : OrcOK (O4 k) (CallOK false Tryd.prog) := orc_add (fn4 k) (ok_O3 k)
end Go.Proofs.YtcgnmecbdleehaaDoor.G
end
section
set_option maxRecDepth 1000000
set_option linter.unusedVariables false
set_option linter.unusedSimpArgs false
namespace Go.Proofs.YtcgnmecbdleehaaDoor.G
open Go Go.Proofs.YtcgnmecbdleehaaDoor Th
noncomputable def G99 (k : Nat) (v : Int × Unit) : Option (Bool × Unit) := F99 k v
theorem G99_eq (k : Nat) (v0 : Int) : G99 k (v0, ()) = some (!decide (v0 = v0), ()) := by kernel_rfl
noncomputable def G65 (k : Nat) (v : Int × Int × Unit) : Option (Int × Unit) := F65 k v
theorem G65_eq (k : Nat) (v0 v1 : Int) : G65 k (v0, v1, ()) = ocall (G99 k (v0, ())) fun r => ocall (G99 k (v1, ())) fun r_1 => sel r.1 (sel r_1.1 (some (0, ())) (some ((-1 : Int), ()))) (sel r_1.1 (some (1, ())) (sel (decide (v0 < v1)) (some ((-1 :
 Int), ())) (sel (decide (v1 < v0)) (some (1, ())) (some (0, ()))))) := by kernel_rfl
noncomputable def G100 (k : Nat) (v : List UInt8 × Unit) : Option (Bool × Unit) := F100 k v
theorem G100_eq (k : Nat) (v0 : List UInt8) : G100 k (v0, ()) = some (!decide (v0 = v0), ()) := by kernel_rfl
noncomputable def G66 (k : Nat) (v : List UInt8 × List UInt8 × Unit) : Option (Int × Unit) := F66 k v
theorem G66_eq (k : Nat) (v0 v1 : List UInt8) : G66 k (v0, v1, ()) = ocall (G100 k (v0, ())) fun r => ocall (G100 k (v1, ())) fun r_1 => sel r.1 (sel r_1.1 (some (0, ())) (some ((-1 : Int), ()))) (sel r_1.1 (some (1, ())) (sel (Go.Op.bytesLess v0 v1)
 (some ((-1 : Int), ())) (sel (!(Go.Op.bytesLess v0 v1 || decide (v0 = v1))) (some (1, ())) (some (0, ()))))) := by kernel_rfl
noncomputable def G64_3 (k : Nat) (j : Nat) (v : Int × List Int × Int × Int × Unit) : Option (Int × Unit ⊕ Int × Unit) := F64_3 k j v
theorem G64_3_eq (k : Nat) (j : Nat) (v0 : Int) (v1 : List Int) (v2 v3 : Int) : G64_3 k (j + 1) (v0, v1, v2, v3, ()) = sel (decide (v3 < v2)) (sel (decide (0 ≤ v3)) (sel (decide (v3 < Int.ofNat v1.length)) (sel (!decide (v1.getD v3.toNat 0 = v0)) (some (Sum.inr (v1.getD v3.toNat 0,
 ()))) (G64_3 k j (v0, v1, v2, IntKind.i64.wrap (v3 + 1), ()))) none) none) (some (Sum.inl (v0, ()))) := by kernel_rfl
noncomputable def G64 (k : Nat) (v : List Int × Unit) : Option (Int × Unit) := F64 k v
theorem G64_eq (k : Nat) (v0 : List Int) : G64 k (v0, ()) = ocall (G64_3 k k (0, v0, Int.ofNat v0.length, 0, ())) fun e => esel e (fun v => some (v.1, ())) fun e => some (e.1, ()) := by kernel_rfl
noncomputable def G32 (k : Nat) (v : (Int × List UInt8 × Unit) × (Int × List UInt8 × Unit) × Unit) : Option (Int × Unit) := F32 k v
theorem G32_eq (k : Nat) (v0 : Int) (v1 : List UInt8) (v2 : Int) (v3 : List UInt8) : G32 k ((v0, v1, ()), (v2, v3, ()), ()) = ocall (G65 k (v0, v2, ())) fun r => ocall (G66 k (v1, v3, ())) fun r_1 => ocall (G64 k ([r.1, r_1.1], ())) fun r => some (r.1,
 ()) := by kernel_rfl
noncomputable def G31 (k : Nat) (v : ((Int × List UInt8 × Unit) × Int × List UInt8 × Int × List UInt8 × Int × Int × Unit) × ((Int × List UInt8 × Unit) × Int × List UInt8 × Int × List UInt8 × Int × Int × Unit) × Unit) : Option (Int × Unit) := F31 k v
theorem G31_eq (k : Nat) (v0 : Int) (v1 : List UInt8) (v2 : Int) (v3 : List UInt8) (v4 : Int) (v5 : List UInt8) (v6 v7 v8 : Int) (v9 : List UInt8) (v10 : Int) (v11 : List UInt8) (v12 : Int) (v13 : List UInt8) (v14 v15 : Int) : G31 k (((v0, v1, ()), v2, v3, v4, v5, v6, v7, ()), ((v8,
 v9, ()), v10, v11, v12, v13, v14, v15, ()), ()) = ocall (G32 k ((v0, v1, ()), (v8, v9, ()), ())) fun r => some (r.1, ()) := by kernel_rfl
noncomputable def G105 (k : Nat) (v : Int × Unit) : Option (Bool × Unit) := F105 k v
theorem G105_eq (k : Nat) (v0 : Int) : G105 k (v0, ()) = sel (decide (v0 = 1)) (sel (decide (v0 = 1)) (some (true, ())) (some (false, ()))) (sel (decide (v0 = 3)) (sel (decide (v0 = 3)) (some (true, ())) (some (false, ()))) (sel (decide (v0 = 5)) (sel (decide
 (v0 = 5)) (some (true, ())) (some (false, ()))) (sel (decide (v0 = 6)) (some (true, ())) (some (false, ()))))) := by kernel_rfl
noncomputable def G72_g0 (k : Nat) (j : Nat) (v : List UInt8 × Int × Unit) : Option (Bool × Unit) := F72_g0 k j v
theorem G72_g0_eq (k : Nat) (j : Nat) (v0 : List UInt8) (v1 : Int) : G72_g0 k (j + 1) (v0, v1, ()) = sel (decide (v1 = Int.ofNat v0.length)) (some (decide (0 < v1), ())) (sel (decide (0 ≤ v1)) (sel (decide (v1 < Int.ofNat v0.length)) (sel (decide (Int.ofNat (v0.getD v1.toNat 0).toNat
 < 48)) (some (false, ())) (sel (decide (0 ≤ v1)) (sel (decide (v1 < Int.ofNat v0.length)) (sel (decide (57 < Int.ofNat (v0.getD v1.toNat 0).toNat)) (some (false, ())) (G72_g0 k j (v0, IntKind.i64.wrap (v1 + 1), ()))) none) none)) none) none) := by kernel_rfl
noncomputable def G72 (k : Nat) (v : List UInt8 × Unit) : Option (Bool × Unit) := F72 k v
theorem G72_eq (k : Nat) (v0 : List UInt8) : G72 k (v0, ()) = sel (decide (0 = Int.ofNat v0.length)) (some (false, ())) (sel (decide (0 < Int.ofNat v0.length)) (sel (decide (Int.ofNat (v0.getD (Int.toNat 0) 0).toNat < 48)) (some (false, ())) (sel (decide (0 < Int.ofNat
 v0.length)) (sel (decide (57 < Int.ofNat (v0.getD (Int.toNat 0) 0).toNat)) (some (false, ())) (ocall (G72_g0 k k (v0, IntKind.i64.wrap (0 + 1), ())) fun e => some (e.1, ()))) none)) none) := by kernel_rfl
noncomputable def G73 (k : Nat) (v : List UInt8 × Bool × Unit) : Option (Int × Unit) := F73 k v
theorem G73_eq (k : Nat) (v0 : List UInt8) (v1 : Bool) : G73 k (v0, v1, ()) = sel (decide (v0.length ≤ 9223372036854775807)) (some ((Sum.sumOf (Sum.backs (toBytes v0)) v1).1, ())) none := by kernel_rfl
noncomputable def G39 (k : Nat) (v : List UInt8 × Unit) : Option (Bool × Unit) := F39 k v
theorem G39_eq (k : Nat) (v0 : List UInt8) : G39 k (v0, ()) = ocall (G72 k (v0, ())) fun r => sel r.1 (ocall (G73 k (v0, false, ())) fun r => some (decide (r.1.tmod 10 = 0), ())) (some (false, ())) := by kernel_rfl
noncomputable def G82 (k : Nat) (v : Int × Unit) : Option (List UInt8 × Unit) := F82 k v
theorem G82_eq (k : Nat) (v0 : Int) : G82 k (v0, ()) = sel (decide (v0 < 0)) (some ([], ())) (sel (decide (8 ≤ v0)) (some ([], ())) (sel (decide (0 ≤ v0)) (sel (decide (v0 < Int.ofNat 8)) (some ([[], [48, 49, 48, 48], [48, 49, 49, 48], [48, 52, 48, 48], [48, 52, 49, 48], [48,
 52, 50, 48], [48, 52, 50, 49], [48, 52, 51, 48]].getD v0.toNat [], ())) none) none)) := by kernel_rfl
noncomputable def G77_5 (k : Nat) (j : Nat) (v : Int × List Int × Int × Unit) : Option (Int × List Int × Unit) := F77_5 k j v
theorem G77_5_eq (k : Nat) (j : Nat) (v0 : Int) (v1 : List Int) (v2 : Int) : G77_5 k (j + 1) (v0, v1, v2, ()) = sel (decide (0 ≤ v2)) (sel (decide (0 ≤ v2)) (sel (decide (v2 < Int.ofNat v1.length)) (sel (decide (v2.toNat < v1.length)) (G77_5 k j (IntKind.u64.wrap (v0.tdiv 10), v1.set
 v2.toNat (IntKind.u8.wrap (48 + IntKind.u8.wrap (v0.tmod 10))), IntKind.i64.wrap (v2 - 1), ())) none) none) none) (some (v0, v1, ())) := by kernel_rfl
noncomputable def G77 (k : Nat) (v : Int × Int × Unit) : Option (List UInt8 × Int × Unit) := F77 k v
theorem G77_eq (k : Nat) (v0 v1 : Int) : G77 k (v0, v1, ()) = sel (decide (v1 < 1)) (some ([], 1, ())) (sel (decide (19 < v1)) (some ([], 1, ())) (sel (decide (0 ≤ v1)) (sel (decide (v1 ≤ v1)) (sel (decide (v1 ≤ 140737488355328)) (sel (decide (v1 * Int.ofNat 1 ≤
 140737488355328)) (ocall (G77_5 k k (v0, List.replicate v1.toNat 0, IntKind.i64.wrap (v1 - 1), ())) fun e => sel (decide (0 < e.1)) (some ([], 10, ())) (some (ofBytes e.2.1, 0, ()))) none) none) none) none)) := by kernel_rfl
noncomputable def G83 (k : Nat) (v : (Int × List UInt8 × Int × Int × List UInt8 × List UInt8 × Unit) × Unit) : Option (List (Int × List UInt8 × Unit) × Unit) := F83 k v
theorem G83_eq (k : Nat) (v0 : Int) (v1 : List UInt8) (v2 v3 : Int) (v4 v5 : List UInt8) : G83 k ((v0, v1, v2, v3, v4, v5, ()), ()) = ocall (G77 k (IntKind.u64.wrap v3, 6, ())) fun r => ocall (G105 k (v0, ())) fun r_1 => sel (!r_1.1) (some ([(11, r.1, ()),
 (37, v4, ()), (39, v5, ())], ())) (ocall (G77 k (v2, 12, ())) fun r_2 => sel (decide (5 ≤ v0)) (ocall (G82 k (1, ())) fun r_3 => sel (decide (r_3.1.length + r.1.length ≤ 140737488355328)) (sel (decide ((r_3.1 ++ r.1).length + 32 ≤ 140737488355328)) (some ([(2,
 v1, ()), (4, r_2.1, ()), (11, r.1, ()), (37, v4, ()), (90, r_3.1 ++ r.1 ++ [48, 48, 48, 48, 48, 48, 48, 48, 48, 48, 48, 48, 48, 48, 48, 48, 48, 48, 48, 48, 48, 48, 48, 48, 48, 48, 48, 48, 48, 48, 48, 48], ())], ())) none) none) (some ([(2, v1,
 ()), (4, r_2.1, ()), (11, r.1, ()), (37, v4, ())], ()))) := by kernel_rfl
noncomputable def G74_2 (k : Nat) (j : Nat) (v : Int × List (Int × Int × Int × Unit) × Int × Int × Int × Int × Int × Unit) : Option (Int × Int × Int × Unit ⊕ Bool × Int × Int × Int × Unit) := F74_2 k j v
theorem G74_2_eq (k : Nat) (j : Nat) (v0 : Int) (v1 : List (Int × Int × Int × Unit)) (v2 v3 v4 v5 v6 : Int) : G74_2 k (j + 1) (v0, v1, v2, v3, v4, v5, v6, ()) = sel (decide (v3 < v2)) (sel (decide (0 ≤ v3)) (sel (decide (v3 < Int.ofNat v1.length)) (sel (decide (v3.toNat < v1.length)) (sel
 (decide ((v1.getD v3.toNat (0, 0, 0, ())).1 = v0)) (some (Sum.inr (true, (v1.getD v3.toNat (0, 0, 0, ())).1, (v1.getD v3.toNat (0, 0, 0, ())).2.1, (v1.getD v3.toNat (0, 0, 0, ())).2.2.1, ()))) (G74_2 k j (v0, v1, v2, IntKind.i64.wrap (v3 + 1), v4, v5, v6,
 ()))) none) none) none) (some (Sum.inl (v4, v5, v6, ()))) := by kernel_rfl
noncomputable def G74 (k : Nat) (v : Int × Unit) : Option ((Int × Int × Int × Unit) × Bool × Unit) := F74 k v
theorem G74_eq (k : Nat) (v0 : Int) : G74 k (v0, ()) = ocall (G74_2 k k (v0, [(2, 3, 19, ()), (3, 1, 6, ()), (4, 1, 12, ()), (7, 1, 10, ()), (11, 1, 6, ()), (12, 1, 6, ()), (37, 2, 12, ()), (38, 2, 6, ()), (39, 2, 2,
 ()), (41, 2, 8, ()), (44, 4, 25, ()), (48, 5, 999, ()), (49, 1, 3, ()), (90, 1, 42, ()), (120, 5, 999, ())], Int.ofNat 15, 0, 0, 0, 0, ())) fun e => esel e (fun v => some ((0, 0, 0, ()), false, ())) fun e => some
 ((e.2.1, e.2.2.1, e.2.2.2.1, ()), e.1, ()) := by kernel_rfl
noncomputable def G75 (k : Nat) (v : (Int × Int × Int × Unit) × Unit) : Option ((Int × Int × Unit) × Unit ⊕ (Int × Unit) × Unit) := F75 k v
theorem G75_eq (k : Nat) (v0 v1 v2 : Int) : G75 k ((v0, v1, v2, ()), ()) = sel (decide (v1 = 3)) (sel (decide (v1 = 3)) (some (Sum.inl ((2, v2, ()), ()))) (sel (decide (v1 = 5)) (some (Sum.inl ((3, v2, ()), ()))) (some (Sum.inr ((v2, ()),
 ()))))) (sel (decide (v1 = 4)) (some (Sum.inl ((2, v2, ()), ()))) (sel (decide (v1 = 5)) (some (Sum.inl ((3, v2, ()), ()))) (some (Sum.inr ((v2, ()), ()))))) := by kernel_rfl
noncomputable def G160 (k : Nat) (v : (Int × Int × Unit) × Int × Unit) : Option (Bool × Unit) := F160 k v
theorem G160_eq (k : Nat) (v0 v1 v2 : Int) : G160 k ((v0, v1, ()), v2, ()) = sel (decide (1 ≤ v2)) (some (decide (v2 ≤ v1), ())) (some (false, ())) := by kernel_rfl
noncomputable def G162 (k : Nat) (v : (Int × Unit) × Int × Unit) : Option (Bool × Unit) := F162 k v
theorem G162_eq (k : Nat) (v0 v1 : Int) : G162 k ((v0, ()), v1, ()) = some (decide (v1 = v0), ()) := by kernel_rfl
noncomputable def G76 (k : Nat) (v : (Int × Int × Int × Unit) × List UInt8 × Unit) : Option (Bool × Unit) := F76 k v
theorem G76_eq (k : Nat) (v0 v1 v2 : Int) (v3 : List UInt8) : G76 k ((v0, v1, v2, ()), v3, ()) = sel (decide (v3.length ≤ 9223372036854775807)) (ocall (G72 k (v3, ())) fun r => some (Signs.signsOf v1 r.1 v3, ())) none := by kernel_rfl
noncomputable def G40 (k : Nat) (v : Int × List UInt8 × Unit) : Option (Bool × Unit) := F40 k v
theorem G40_eq (k : Nat) (v0 : Int) (v1 : List UInt8) : G40 k (v0, v1, ()) = ocall (G74 k (v0, ())) fun r => sel r.2.1 (ocall (G75 k ((r.1.1, r.1.2.1, r.1.2.2.1, ()), ())) fun r_1 => esel r_1 (fun v => ocall (G160 k ((v.1.1, v.1.2.1, ()), Int.ofNat v1.length,
 ())) fun r_2 => sel r_2.1 (ocall (G76 k ((r.1.1, r.1.2.1, r.1.2.2.1, ()), v1, ())) fun r => some (r.1, ())) (some (false, ()))) fun e => ocall (G162 k ((e.1.1, ()), Int.ofNat v1.length, ())) fun r_2 => sel r_2.1 (ocall (G76 k ((r.1.1, r.1.2.1,
 r.1.2.2.1, ()), v1, ())) fun r => some (r.1, ())) (some (false, ()))) (some (false, ())) := by kernel_rfl
noncomputable def G110 (k : Nat) (v : List UInt8 × Unit) : Option (Bool × Unit) := F110 k v
theorem G110_eq (k : Nat) (v0 : List UInt8) : G110 k (v0, ()) = sel (decide (v0 = [48, 49, 48, 48])) (sel (decide (v0 = [48, 49, 48, 48])) (some (true, ())) (some (false, ()))) (sel (decide (v0 = [48, 49, 49, 48])) (sel (decide (v0 = [48, 49, 49, 48])) (some (true,
 ())) (some (false, ()))) (sel (decide (v0 = [48, 52, 48, 48])) (sel (decide (v0 = [48, 52, 48, 48])) (some (true, ())) (some (false, ()))) (sel (decide (v0 = [48, 52, 49, 48])) (sel (decide (v0 = [48, 52, 49, 48])) (some (true, ())) (some (false, ())))
 (sel (decide (v0 = [48, 52, 50, 48])) (sel (decide (v0 = [48, 52, 50, 48])) (some (true, ())) (some (false, ()))) (sel (decide (v0 = [48, 52, 50, 49])) (sel (decide (v0 = [48, 52, 50, 49])) (some (true, ())) (some (false, ()))) (sel (decide (v0 = [48, 52, 51, 48]))
 (some (true, ())) (some (false, ())))))))) := by kernel_rfl
noncomputable def G84_3 (k : Nat) (j : Nat) (v : Int × List (Int × List UInt8 × Unit) × Int × Int × List UInt8 × List (Int × List UInt8 × Unit) × Unit) : Option (List UInt8 × List (Int × List UInt8 × Unit) × Unit ⊕ Bool × Unit) := F84_3 k j v
theorem G84_3_eq (k : Nat) (j : Nat) (v0 : Int) (v1 : List (Int × List UInt8 × Unit)) (v2 v3 : Int) (v4 : List UInt8) (v5 : List (Int × List UInt8 × Unit)) : G84_3 k (j + 1) (v0, v1, v2, v3, v4, v5, ()) = sel (decide (v3 < v2)) (sel (decide (0 ≤ v3)) (sel (decide (v3 < Int.ofNat
 v1.length)) (sel (decide ((v1.getD v3.toNat (0, [], ())).1 ≤ v0)) (some (Sum.inr (false, ()))) (ocall (G40 k ((v1.getD v3.toNat (0, [], ())).1, (v1.getD v3.toNat (0, [], ())).2.1, ())) fun r => sel (!r.1) (some (Sum.inr (false, ()))) (G84_3 k j
 ((v1.getD v3.toNat (0, [], ())).1, v1, v2, IntKind.i64.wrap (v3 + 1), v4, v5, ())))) none) none) (some (Sum.inl (v4, v5, ()))) := by kernel_rfl
noncomputable def G84 (k : Nat) (v : (List UInt8 × List (Int × List UInt8 × Unit) × Unit) × Unit) : Option (Bool × Unit) := F84 k v
theorem G84_eq (k : Nat) (v0 : List UInt8) (v1 : List (Int × List UInt8 × Unit)) : G84 k ((v0, v1, ()), ()) = ocall (G84_3 k k (0, v1, Int.ofNat v1.length, 0, v0, v1, ())) fun e => esel e (fun v => ocall (G110 k (v.1, ())) fun r => sel r.1 (some (decide (0 <
 Int.ofNat v.2.1.length), ())) (some (false, ()))) fun e => some (e.1, ()) := by kernel_rfl
noncomputable def G71 (k : Nat) (v : (Int × List UInt8 × Int × Int × List UInt8 × List UInt8 × Unit) × Unit) : Option (Bool × Unit) := F71 k v
theorem G71_eq (k : Nat) (v0 : Int) (v1 : List UInt8) (v2 v3 : Int) (v4 v5 : List UInt8) : G71 k ((v0, v1, v2, v3, v4, v5, ()), ()) = ocall (G105 k (v0, ())) fun r => sel r.1 (sel (!decide (v5 = [])) (some (false, ())) (ocall (G39 k (v1, ())) fun r => sel
 (!r.1) (some (false, ())) (ocall (G82 k (v0, ())) fun r => ocall (G83 k ((v0, v1, v2, v3, v4, v5, ()), ())) fun r_1 => ocall (G84 k ((r.1, r_1.1, ()), ())) fun r => some (r.1, ())))) (sel (!decide (v1 = [])) (some (false, ())) (sel
 (!decide (v2 = 0)) (some (false, ())) (ocall (G82 k (v0, ())) fun r => ocall (G83 k ((v0, v1, v2, v3, v4, v5, ()), ())) fun r_1 => ocall (G84 k ((r.1, r_1.1, ()), ())) fun r => some (r.1, ())))) := by kernel_rfl
end Go.Proofs.YtcgnmecbdleehaaDoor.G
end
section
set_option maxRecDepth 1000000
set_option linter.unusedVariables false
set_option linter.unusedSimpArgs false
namespace Go.Proofs.YtcgnmecbdleehaaDoor.G
open Go Go.Proofs.YtcgnmecbdleehaaDoor Th
noncomputable def G17 (k : Nat) (v : (Int × List UInt8 × Unit) × Unit) : Option (Bool × Unit) := F17 k v
theorem G17_eq (k : Nat) (v0 : Int) (v1 : List UInt8) : G17 k ((v0, v1, ()), ()) = some (decide (Int.ofNat v1.length ≤ 300), ()) := by kernel_rfl
end Go.Proofs.YtcgnmecbdleehaaDoor.G
end
section
set_option linter.unusedVariables false
set_option linter.unusedSimpArgs false
namespace Go.Proofs.YtcgnmecbdleehaaDoor.G
open Go Go.Proofs.YtcgnmecbdleehaaDoor Th
def dgt (c : UInt8) : Bool := decide (48 ≤ c.toNat) && decide (c.toNat ≤ 57)
def isDig (s : List UInt8) : Bool := decide (0 < s.length) && s.all dgt
theorem dgt_iff {c : UInt8} : dgt c = true ↔ 48 ≤ c.toNat ∧ c.toNat ≤ 57 := by simp [dgt]
theorem drop_at {α : Type} {s : List α} {i : Nat} (h : i < s.length) : s.drop i = s[i] :: s.drop (i + 1) := List.drop_eq_getElem_cons h
theorem G72_g0_is (k : Nat) (s : List UInt8) (hs : s.length ≤ maxLen) : ∀ (j i : Nat), i + j = s.length → ∀ n, j < n → G72_g0 k n (s, (i : Int), ()) = some (decide (0 < s.length) && (s.drop i).all dgt, ()) := by
  rw [maxLen_eq] at hs
  intro j
  induction j with
  | zero =>
    intro i hij n hn
    obtain ⟨n, rfl⟩ : ∃ m, n = m + 1 := ⟨n - 1, by omega⟩
    rw [G72_g0_eq, sel_pos (by simp only [ofNat_len]; omega)]
    rw [List.drop_eq_nil_of_le (by omega)]
    have : decide ((0 : Int) < (i : Int)) = decide (0 < s.length) := decide_eq_decide.2 (by omega)
    simp only [this, List.all_nil, Bool.and_true]
  | succ j ih =>
    intro i hij n hn
    obtain ⟨n, rfl⟩ : ∃ m, n = m + 1 := ⟨n - 1, by omega⟩
    have hlt : i < s.length := by omega
    rw [G72_g0_eq]
    simp only [ofNat_len, Int.toNat_natCast, getD_of hlt, Int.ofNat_eq_natCast]
    rw [sel_neg (by omega), sel_pos (by omega), sel_pos (by omega)]
    rw [drop_at hlt, List.all_cons]
    have hp : decide (0 < s.length) = true := by simp; omega
    by_cases c1 : ((s[i]).toNat : Int) < 48
    · rw [sel_pos c1]
      have : dgt s[i] = false := by rw [Bool.eq_false_iff, Ne, dgt_iff]; omega
      simp [this]
    · rw [sel_neg c1, sel_pos (by omega), sel_pos (by omega)]
      by_cases c2 : (57 : Int) < ((s[i]).toNat : Int)
      · rw [sel_pos c2]
        have : dgt s[i] = false := by rw [Bool.eq_false_iff, Ne, dgt_iff]; omega
        simp [this]
      · rw [sel_neg c2]
        have : dgt s[i] = true := by rw [dgt_iff]; omega
        rw [this, wrap64 (by omega) (by omega)]
        have := ih (i + 1) (by omega) n (by omega)
        simpa using this
theorem G72_is (k : Nat) (s : List UInt8) (hs : s.length ≤ maxLen) (hk : s.length < k) : G72 k (s, ()) = some (isDig s, ()) := by
  have hs' := hs
  rw [maxLen_eq] at hs'
  rw [G72_eq]
  simp only [ofNat_len, isDig]
  cases hs0 : s with
  | nil => rfl
  | cons c t =>
    rw [← hs0]
    have hlt : 0 < s.length := by rw [hs0]; simp
    simp only [Int.ofNat_eq_natCast, show Int.toNat (0 : Int) = 0 from rfl, getD_of hlt]
    rw [sel_neg (by omega), sel_pos (by omega)]
    have hp : decide (0 < s.length) = true := by simp; omega
    have hd := drop_at hlt
    rw [List.drop_zero] at hd
    rw [hp, Bool.true_and]
    have e0 : s.all dgt = (dgt s[0] && (s.drop 1).all dgt) := by
      conv => lhs; rw [hd]
      rw [List.all_cons]
    rw [e0]
    by_cases c1 : ((s[0]).toNat : Int) < 48
    · rw [sel_pos c1]
      have : dgt s[0] = false := by rw [Bool.eq_false_iff, Ne, dgt_iff]; omega
      rw [this]; rfl
    · rw [sel_neg c1, sel_pos (by omega)]
      by_cases c2 : (57 : Int) < ((s[0]).toNat : Int)
      · rw [sel_pos c2]
        have : dgt s[0] = false := by rw [Bool.eq_false_iff, Ne, dgt_iff]; omega
        rw [this]; rfl
      · rw [sel_neg c2]
        have : dgt s[0] = true := by rw [dgt_iff]; omega
        rw [this, wrap64 (by omega) (by omega)]
        have := G72_g0_is k s hs (s.length - 1) 1 (by omega) k (by omega)
        rw [show ((0 : Int) + 1) = ((1 : Nat) : Int) from rfl, this, hp]
        simp
def digs (v : Nat) : Nat → List UInt8
  | 0 => []
  | n + 1 => digs (v / 10) n ++ [UInt8.ofNat (48 + v % 10)]
theorem digs_len (n : Nat) : ∀ v, (digs v n).length = n := by
  induction n with
  | zero => intro v; rfl
  | succ n ih => intro v; simp [digs, ih]
theorem chr_toNat {n : Nat} (h : n < 256) : (UInt8.ofNat n).toNat = n := by rw [UInt8.toNat_ofNat']; omega
theorem ofBytes_append (a b : List Int) : ofBytes (a ++ b) = ofBytes a ++ ofBytes b := by simp [ofBytes]
theorem G77_5_is (k : Nat) : ∀ (i : Nat) (v : Nat) (pre post : List Int), v < 18446744073709551616 → pre.length = i → i ≤ 19 → ∀ n, i < n →
    ∃ mid, mid.length = i ∧ G77_5 k n ((v : Int), pre ++ post, (i : Int) - 1, ()) = some (((v / 10 ^ i : Nat) : Int), mid ++ post, ()) ∧ ofBytes mid = digs v i := by
  intro i
  induction i with
  | zero =>
    intro v pre post hv hp hi n hn
    obtain ⟨n, rfl⟩ : ∃ m, n = m + 1 := ⟨n - 1, by omega⟩
    have : pre = [] := List.length_eq_zero_iff.1 hp
    subst this
    refine ⟨[], rfl, ?_, rfl⟩
    rw [G77_5_eq, sel_neg (by (try simp only []); omega)]
    simp
  | succ i ih =>
    intro v pre post hv hp hi n hn
    obtain ⟨n, rfl⟩ : ∃ m, n = m + 1 := ⟨n - 1, by omega⟩
    obtain ⟨pre', x, rfl⟩ : ∃ p x, pre = p ++ [x] := ⟨pre.dropLast, pre.getLast (by intro h; rw [h] at hp; simp at hp), (List.dropLast_concat_getLast _).symm⟩
    have hp' : pre'.length = i := by simpa using hp
    have hd : v % 10 < 10 := Nat.mod_lt _ (by omega)
    have e1 : ((v : Int)).tdiv 10 = ((v / 10 : Nat) : Int) := by simp [Int.tdiv_eq_ediv_of_nonneg]
    have e2 : ((v : Int)).tmod 10 = ((v % 10 : Nat) : Int) := by simp [Int.tmod_eq_emod_of_nonneg]
    have e3 : (((i + 1 : Nat) : Int) - 1) = (i : Int) := by omega
    rw [G77_5_eq]
    simp only [e1, e2, e3, ofNat_len, Int.toNat_natCast]
    rw [sel_pos (by omega), sel_pos (by omega), sel_pos (by simp; omega), sel_pos (by simp; omega)]
    have w1 : IntKind.u64.wrap ((v / 10 : Nat) : Int) = ((v / 10 : Nat) : Int) := wrapu64 (by omega) (by omega)
    have w2 : IntKind.u8.wrap ((v % 10 : Nat) : Int) = ((v % 10 : Nat) : Int) := wrapu8 (by omega) (by omega)
    have w3 : IntKind.u8.wrap (48 + ((v % 10 : Nat) : Int)) = 48 + ((v % 10 : Nat) : Int) := wrapu8 (by omega) (by omega)
    have w4 : IntKind.i64.wrap ((i : Int) - 1) = (i : Int) - 1 := wrap64 (by omega) (by omega)
    rw [w1, w2, w3, w4]
    have hset : (pre' ++ [x] ++ post).set i (48 + ((v % 10 : Nat) : Int)) = pre' ++ ((48 + ((v % 10 : Nat) : Int)) :: post) := by
      rw [List.append_assoc, List.set_append_right _ _ (by omega)]
      simp [hp']
    rw [hset]
    obtain ⟨mid, m1, m2, m3⟩ := ih (v / 10) pre' ((48 + ((v % 10 : Nat) : Int)) :: post) (by omega) hp' (by omega) n (by omega)
    refine ⟨mid ++ [48 + ((v % 10 : Nat) : Int)], by simp [m1], ?_, ?_⟩
    · rw [m2, Nat.div_div_eq_div_mul, Nat.pow_succ, Nat.mul_comm (10 ^ i) 10]
      simp
    · rw [ofBytes_append, m3, digs]
      have : (48 + ((v % 10 : Nat) : Int)).toNat = 48 + v % 10 := by omega
      show _ ++ [UInt8.ofNat (48 + ((v % 10 : Nat) : Int)).toNat] = _
      rw [this]
def putOK (v : Nat) (n : Int) : List UInt8 × Int :=
  if n < 1 ∨ 19 < n then ([], 1) else if v / 10 ^ n.toNat = 0 then (digs v n.toNat, 0) else ([], 10)
theorem G77_is (k : Nat) (hk : 20 < k) (v : Nat) (n : Int) (hv : v < 18446744073709551616) : G77 k ((v : Int), n, ()) = some ((putOK v n).1, (putOK v n).2, ()) := by
  rw [G77_eq]
  unfold putOK
  by_cases c1 : n < 1
  · rw [sel_pos c1, if_pos (.inl c1)]
  rw [sel_neg c1]
  by_cases c2 : 19 < n
  · rw [sel_pos c2, if_pos (.inr c2)]
  rw [sel_neg c2, if_neg (by omega)]
  obtain ⟨m, rfl⟩ : ∃ m : Nat, n = (m : Int) := ⟨n.toNat, by omega⟩
  simp only [Int.toNat_natCast]
  rw [sel_pos (by omega), sel_pos (by omega), sel_pos (by omega), sel_pos (by simp only [Int.ofNat_eq_natCast]; omega)]
  obtain ⟨mid, m1, m2, m3⟩ := G77_5_is k m v (List.replicate m 0) [] hv (by simp) (by omega) k (by omega)
  rw [wrap64 (by omega) (by omega)]
  simp only [List.append_nil] at m2
  have m2' : G77_5 k k ((v : Int), List.replicate m (OfNat.ofNat (0 : Nat)), (m : Int) - 1, ()) = some (((v / 10 ^ m : Nat) : Int), mid, ()) := m2
  rw [m2', ocall_some]
  generalize v / 10 ^ m = q
  by_cases c3 : q = 0
  · rw [sel_neg (by simp only [c3]; omega), if_pos c3, m3]
  · rw [sel_pos (by (try simp only []); omega), if_neg c3]
def val (a : Nat) (s : List UInt8) : Nat := s.foldl (fun a c => 10 * a + (c.toNat - 48)) a
def getOK (s : List UInt8) : Nat × Int := if s.length = 0 then (0, 2) else if 19 < s.length then (0, 4) else if isDig s = true then (val 0 s, 0) else (0, 3)
end Go.Proofs.YtcgnmecbdleehaaDoor.G
end
section
set_option linter.unusedVariables false
set_option linter.unusedSimpArgs false
set_option maxRecDepth 100000
namespace Go.Proofs.YtcgnmecbdleehaaDoor.G
open Go Go.Proofs.YtcgnmecbdleehaaDoor Th
abbrev Def := Int × Int × Int × Unit
def D : List Def := [(2, 3, 19, ()), (3, 1, 6, ()), (4, 1, 12, ()), (7, 1, 10, ()), (11, 1, 6, ()), (12, 1, 6, ()), (37, 2, 12, ()), (38, 2, 6, ()), (39, 2, 2, ()), (41, 2, 8, ()), (44, 4, 25, ()), (48, 5, 999, ()), (49, 1, 3, ()), (90, 1, 42, ()), (120, 5, 999, ())]
def defOf (n : Int) : Option Def := D.find? fun d => decide (d.1 = n)
theorem G74_2_is (k : Nat) (n a b c : Int) (l : List Def) (hl : l.length ≤ 1000) : ∀ (j i : Nat), i + j = l.length → ∀ m, j < m →
    G74_2 k m (n, l, (l.length : Int), (i : Int), a, b, c, ()) = some (match (l.drop i).find? (fun d => decide (d.1 = n)) with
      | some d => .inr (true, d)
      | none => .inl (a, b, c, ())) := by
  intro j
  induction j with
  | zero =>
    intro i hij m hm
    obtain ⟨m, rfl⟩ : ∃ q, m = q + 1 := ⟨m - 1, by omega⟩
    rw [G74_2_eq, sel_neg (by (try simp only []); omega), List.drop_eq_nil_of_le (by omega)]
    rfl
  | succ j ih =>
    intro i hij m hm
    obtain ⟨m, rfl⟩ : ∃ q, m = q + 1 := ⟨m - 1, by omega⟩
    have hlt : i < l.length := by omega
    rw [G74_2_eq]
    simp only [ofNat_len, Int.toNat_natCast, getD_of hlt]
    rw [sel_pos (by omega), sel_pos (by omega), sel_pos (by omega), sel_pos (by omega), drop_at hlt, List.find?_cons]
    by_cases h : l[i].1 = n
    · rw [sel_pos h]
      simp only [h, decide_true]
      rw [← h]
    · rw [sel_neg h, wrap64 (by omega) (by omega)]
      simp only [h, decide_false]
      exact ih (i + 1) (by omega) m (by omega)
def defR (n : Int) : Def × Bool := match defOf n with
  | some d => (d, true)
  | none => ((0, 0, 0, ()), false)
theorem G74_is (k : Nat) (hk : 20 < k) (n : Int) : G74 k (n, ()) = some ((defR n).1, (defR n).2, ()) := by
  rw [G74_eq]
  have := G74_2_is k n 0 0 0 D (by decide) 15 0 (by decide) k (by omega)
  rw [show ((D.length : Nat) : Int) = Int.ofNat 15 from rfl, show (((0 : Nat) : Int)) = 0 from rfl, List.drop_zero, show (D.find? fun d => decide (d.1 = n)) = defOf n from rfl] at this
  show (ocall (G74_2 k k (n, D, Int.ofNat 15, 0, 0, 0, 0, ())) _) = _
  rw [this, ocall_some]
  unfold defR
  cases defOf n <;> rfl
def flat : List Def → List Int
  | [] => []
  | d :: l => d.1 :: d.2.1 :: d.2.2.1 :: flat l
def ahead (kind : Int) : Nat := if kind = 3 ∨ kind = 4 then 2 else if kind = 5 then 3 else 0
def sized (d : Def) (n : Nat) : Bool := if ahead d.2.1 = 0 then decide ((n : Int) = d.2.2.1) else decide (1 ≤ n) && decide ((n : Int) ≤ d.2.2.1)
def signs (d : Def) (s : List UInt8) : Bool := Signs.signsOf d.2.1 (isDig s) s
def rightF (n : Int) (s : List UInt8) : Bool := match defOf n with
  | some d => sized d s.length && signs d s
  | none => false
theorem G76_is (k : Nat) (d : Def) (s : List UInt8) (hs : s.length ≤ maxLen) (hk : s.length < k) : G76 k ((d.1, d.2.1, d.2.2.1, ()), s, ()) = some (signs d s, ()) := by
  rw [G76_eq, sel_pos (by rw [maxLen_eq] at hs; (try simp only []); omega), G72_is k s hs hk, ocall_some]
  rfl
theorem G75_is (k : Nat) (d : Def) : G75 k ((d.1, d.2.1, d.2.2.1, ()), ()) = some (if ahead d.2.1 = 0 then .inr ((d.2.2.1, ()), ()) else .inl ((((ahead d.2.1 : Nat) : Int), d.2.2.1, ()), ())) := by
  rw [G75_eq]
  unfold ahead
  simp only [sel_dec]
  by_cases h3 : d.2.1 = 3
  · simp [h3]
  · by_cases h4 : d.2.1 = 4
    · simp [h4]
    · by_cases h5 : d.2.1 = 5
      · simp [h5]
      · simp [h3, h4, h5]
theorem G40_is (k : Nat) (hk : 20 < k) (n : Int) (s : List UInt8) (hs : s.length ≤ maxLen) (hks : s.length < k) : G40 k (n, s, ()) = some (rightF n s, ()) := by
  rw [G40_eq, G74_is k hk, ocall_some]
  unfold rightF defR
  cases defOf n with
  | none => rfl
  | some d =>
    simp only [sel_true, G75_is, ocall_some]
    unfold sized
    by_cases h : ahead d.2.1 = 0
    · rw [if_pos h, esel_inr, G162_eq, ocall_some, if_pos h, G76_is k d s hs hks]
      simp only [sel_dec, ofNat_len, ocall_some]
      by_cases c : (s.length : Int) = d.2.2.1 <;> simp [c]
    · rw [if_neg h, esel_inl, G160_eq, if_neg h, G76_is k d s hs hks]
      simp only [sel_dec, ofNat_len, ocall_some]
      by_cases c : (1 : Int) ≤ s.length
      · have c' : 1 ≤ s.length := by omega
        rw [if_pos c, ocall_some]
        by_cases c2 : (s.length : Int) ≤ d.2.2.1 <;> simp [c', c2]
      · have c' : ¬ 1 ≤ s.length := by omega
        rw [if_neg c, ocall_some]
        simp [c']
end Go.Proofs.YtcgnmecbdleehaaDoor.G
end
section
set_option linter.unusedVariables false
set_option linter.unusedSimpArgs false
set_option maxRecDepth 100000
namespace Go.Proofs.YtcgnmecbdleehaaDoor.G
open Go Go.Proofs.YtcgnmecbdleehaaDoor Th
abbrev Txt := List UInt8
abbrev Item := Int × Txt × Unit
abbrev Msg := Txt × List Item × Unit
end Go.Proofs.YtcgnmecbdleehaaDoor.G
end
