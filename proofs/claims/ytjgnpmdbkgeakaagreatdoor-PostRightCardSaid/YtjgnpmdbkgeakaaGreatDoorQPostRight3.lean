/- THE CLAIM'S TEXTS, part 3: what its proof needs of the theory, the functions, their equations and the laws. No condition. -/
import Derived.Test.YtjgnpmdbkgeakaaGreatDoorQPostRight2
import Derived.Lib.OthersKept
import Derived.Laws.RangeAny
import Derived.Shelf.RegionOpenPlain
import Derived.Lib.Walk
import Derived.Lib.SliceRun
import Derived.Lib.AppendZerosOnto
import Derived.Laws.MakeOwn
import Derived.Laws.CopyOwn
import Derived.KernelRfl
section
set_option linter.unusedVariables false
set_option linter.unusedSimpArgs false
namespace Go.Proofs.YtjgnpmdbkgeakaaGreatDoor.Sum
open Go Go.RowKit Go.Shelf Go.Proofs Go.Proofs.YtjgnpmdbkgeakaaGreatDoor Th
attribute [local go_sem] Oper.semAt_some
structure At0 (w : World) (tw : Bool) (b : List UInt8) (cap : Nat) (W : World) : Prop where
  size : W.heap.size = w.heap.size + 4
  below : Below w.heap.size w W
  tw : W.cell? ⟨w.heap.size, 0, none⟩ = some (.bool tw) ∧ W.frozen? ⟨w.heap.size, 0, none⟩ = false
  n : W.cell? ⟨w.heap.size + 1, 0, none⟩ = some (.int .i64 0) ∧ W.frozen? ⟨w.heap.size + 1, 0, none⟩ = false
  bytes : ∀ (i : Nat) (h : i < (toBytes b).length), W.cell? ((⟨w.heap.size + 2, 0, none⟩ : Addr).add i) = some (.int .u8 (toBytes b)[i])
  box : W.cell? ⟨w.heap.size + 3, 0, none⟩ = some (.slice (some ⟨w.heap.size + 2, 0, none⟩) (toBytes b).length cap)
theorem at0 (w : World) (tw : Bool) (b : List UInt8) (cap : Nat) (us : Array Value) (e1 e2 e3 e4 : TypeId) (fr : Nat × Nat) (hus : ∀ (i : Nat) (h : i < b.length), us[i]? = some (.int .u8 (b[i].toNat : Int))) :
    At0 w tw b cap ((((w.alloc (.cells #[.bool tw] e1)).alloc (.cells #[.int .i64 0] e2)).alloc (.cells us e3 fr)).drew.alloc (.cells #[.slice (some ⟨w.heap.size + 1 + 1, 0, none⟩) b.length cap] e4)) := by
  generalize hW : ((((w.alloc (.cells #[.bool tw] e1)).alloc (.cells #[.int .i64 0] e2)).alloc (.cells us e3 fr)).drew.alloc (.cells #[.slice (some ⟨w.heap.size + 1 + 1, 0, none⟩) b.length cap] e4)) = W
  have hh : W.heap = (((w.heap.push (.cells #[.bool tw] e1)).push (.cells #[.int .i64 0] e2)).push (.cells us e3 fr)).push (.cells #[.slice (some ⟨w.heap.size + 1 + 1, 0, none⟩) b.length cap] e4) := by rw [← hW]; rfl
  have g0 : W.heap[w.heap.size]? = some (.cells #[.bool tw] e1) := by rw [hh]; simp only [Array.getElem?_push, Array.size_push]; rw [if_neg (by omega), if_neg (by omega), if_neg (by omega), if_pos trivial]
  have g1 : W.heap[w.heap.size + 1]? = some (.cells #[.int .i64 0] e2) := by rw [hh]; simp only [Array.getElem?_push, Array.size_push]; rw [if_neg (by omega), if_neg (by omega), if_pos trivial]
  have g2 : W.heap[w.heap.size + 2]? = some (.cells us e3 fr) := by rw [hh]; simp only [Array.getElem?_push, Array.size_push]; rw [if_neg (by omega), if_pos trivial]
  have g3 : W.heap[w.heap.size + 3]? = some (.cells #[.slice (some ⟨w.heap.size + 1 + 1, 0, none⟩) b.length cap] e4) := by rw [hh]; simp only [Array.getElem?_push, Array.size_push]; rw [if_pos trivial]
  have hl : (toBytes b).length = b.length := by simp [toBytes]
  refine ⟨by rw [hh]; simp, ?_, ⟨by rw [cell_of g0]; rfl, frozen_of g0 (thawed0 _) (by simp)⟩, ⟨by rw [cell_of g1]; rfl, frozen_of g1 (thawed0 _) (by simp)⟩, fun i h => ?_, by rw [cell_of g3, hl]; rfl⟩
  · rw [← hW]
    refine (((((Below.refl _ w).alloc (Nat.le_refl _) _).alloc (by simp) _).alloc (by simp; omega) _).drew).alloc ?_ _
    show _ ≤ (((w.alloc _).alloc _).alloc _).heap.size
    simp; omega
  · rw [addr_add, cell_of g2, Nat.zero_add, hus i (by omega)]
    simp [toBytes]
theorem round_post {w WW W : World} {tw : Bool} {b : List UInt8} {cap : Nat} (A : At0 w tw b cap WW) {pre : List (Int × Int)} {x : Int × Int} {p : Int × Bool} {v : Int} {c : Bool} {ac : Act}
    (hsn : sumOf (pre ++ [x]) tw = (v, c)) (ht : W.cell? ⟨w.heap.size, 0, none⟩ = some (.bool p.2)) (htf : W.frozen? ⟨w.heap.size, 0, none⟩ = false)
    (hc : W.cell? ⟨w.heap.size + 1, 0, none⟩ = some (.int .i64 p.1)) (hf : W.frozen? ⟨w.heap.size + 1, 0, none⟩ = false) (hb : Below w.heap.size w W) :
    ownPostK (Keep2 (w.heap.size + 3) (w.heap.size + 2)) (fun pre W => (W.cell? ⟨w.heap.size, 0, none⟩ = some (.bool (sumOf pre tw).2) ∧ W.frozen? ⟨w.heap.size, 0, none⟩ = false) ∧ (W.cell? ⟨w.heap.size + 1, 0, none⟩ = some (.int .i64 (sumOf pre tw).1) ∧ W.frozen? ⟨w.heap.size + 1, 0, none⟩ = false) ∧ Below w.heap.size w W)
      (fun _ _ _ => False) (pre ++ [x]) W .normal ac ((W.setCell ⟨w.heap.size + 1, 0, none⟩ (.int .i64 v)).setCell ⟨w.heap.size, 0, none⟩ (.bool c)) := by
  refine ⟨(KeepsOthers.setCell _ _ _).trans (KeepsOthers.setCell _ _ _), fun k hk => ?_, ⟨?_, ?_⟩, ⟨?_, ?_⟩, (hb.setCell (by simp) _).setCell (by simp) _⟩
  · rw [Below.heap_setCell _ _ _ _ (by simp; omega), Below.heap_setCell _ _ _ _ (by simp; omega)]
  · rw [hsn]
    refine World.cell?_setCell_same' _ _ _ ?_
    rw [World.cell?_of_block (Below.heap_setCell _ _ _ _ (by simp)), ht]; rfl
  · rw [World.frozen?_setCell, World.frozen?_setCell]; exact htf
  · rw [hsn, World.cell?_of_block (Below.heap_setCell _ _ _ _ (by simp))]
    refine World.cell?_setCell_same' _ _ _ ?_
    rw [hc]; rfl
  · rw [World.frozen?_setCell, World.frozen?_setCell]; exact hf
set_option maxRecDepth 100000 in
set_option maxHeartbeats 2000000 in
theorem sum_in (n : Nat) (hn : 3 ≤ n) (b : List UInt8) (hlen : b.length ≤ 9223372036854775807) (tw : Bool) (w : World) :
    CallsIn Fence.wide n Tryz.prog 97 #[strV b, .bool tw] w fun e W' => e = .returned (.int .i64 (sumOf (backs (toBytes b)) tw).1) ∧ Below w.heap.size w W' := by
  have h1 : 1 ≤ n := by omega
  refine callsIn_of_wp_marks Tryz.func97 rfl trivial ?_ rfl
  simp only [Tryz.ntmps97, List.size_toArray, List.length_cons, List.length_nil, Nat.reduceAdd, Nat.reduceSub, Array.replicate_succ, Array.replicate_zero, List.push_toArray, List.append_toArray, List.nil_append, List.cons_append]
  gi_wp2
  obtain ⟨cap, us, hcap, hus, hrun⟩ := run_s2b Tryz.prog (src := 9) (dst := 26) (e := 5) ⟨_, Tryz.underlying9⟩ Tryz.underlying26 Tryz.underlying5 b ((w.alloc (.cells #[.bool tw] 4)).alloc (.cells #[.int .i64 0] 3))
  rw [hrun]
  simp only [Result.andThen_ok]
  gi_wp2
  refine ⟨trivial, (back_in Fence.wide (n - 1) trivial rfl _ _ _ _).mono ?_⟩
  rintro e w' ⟨rfl, rfl⟩
  dsimp only
  gi_wp2
  have A := at0 w tw b cap us 4 3 5 26 (us.size, us.size + 1) hus
  have hs : (((w.alloc (Obj.cells #[Value.bool tw] 4)).alloc (Obj.cells #[Value.int IntKind.i64 0] 3)).alloc (Obj.cells us 5 (us.size, us.size + 1))).drew.heap.size = w.heap.size + 3 := by
    show (((w.alloc _).alloc _).alloc _).heap.size = _
    simp
  rw [hs]
  generalize ((((w.alloc (Obj.cells #[Value.bool tw] 4)).alloc (Obj.cells #[Value.int IntKind.i64 0] 3)).alloc (Obj.cells us 5 (us.size, us.size + 1))).drew.alloc (Obj.cells #[Value.slice (some { block := w.heap.size + 1 + 1, off := 0 }) b.length cap] 26)) = WW at A ⊢
  have hlen' : (toBytes b).length = b.length := by simp [toBytes]
  refine wpIn_rangeFunc_ownF rfl h1 (gf := 105) (lb := #[.pointer (some ⟨w.heap.size + 3, 0, none⟩)]) rfl trivial (enters_of Tryz.func105 (by kernel_rfl) rfl)
    (encs := fun x : Int × Int => #[.int .i64 x.1, .int .u8 x.2]) (Kp := Keep2 (w.heap.size + 3) (w.heap.size + 2)) (S := fun ys => ys = backs (toBytes b)) (Sp := fun _ => True) (N := (toBytes b).length) (w0 := WW)
    (fun l J Jx W hW _ _ hY h0 => back1_in Fence.wide (n - 1) trivial rfl (by omega) l (w.heap.size + 3) (toBytes b) ⟨w.heap.size + 2, 0, none⟩ cap J Jx hY W ((hW.cell (p := ⟨w.heap.size + 3, 0, none⟩) (by rw [A.size]; show w.heap.size + 3 < _; omega)).trans A.box)
      (fun i h => (hW.cell (p := (⟨w.heap.size + 2, 0, none⟩ : Addr).add i) (by rw [A.size, addr_add]; show w.heap.size + 2 < _; omega)).trans (A.bytes i h)) (by rw [hlen']; exact hlen) h0)
    (fun h k b hb => (k b hb).trans (h b hb))
    (fun W l o o' hl _ _ _ b hb => World.putObj_heap_other (by rw [A.size] at hl; omega))
    (Below.refl _ _) (fun _ => rfl)
    (fun pre W => (W.cell? ⟨w.heap.size, 0, none⟩ = some (.bool (sumOf pre tw).2) ∧ W.frozen? ⟨w.heap.size, 0, none⟩ = false) ∧ (W.cell? ⟨w.heap.size + 1, 0, none⟩ = some (.int .i64 (sumOf pre tw).1) ∧ W.frozen? ⟨w.heap.size + 1, 0, none⟩ = false) ∧ Below w.heap.size w W)
    (fun _ _ _ => False) ?own (fun _ _ _ _ _ hs _ _ => hs) ⟨A.tw, A.n, A.below⟩
    (fun x => { tmps := #[strV b, .bool tw, undef, .pointer (some ⟨w.heap.size, 0, none⟩), .int .i64 0, .pointer (some ⟨w.heap.size + 1, 0, none⟩), undef, .int .u8 x.2, undef, strV b, .slice (some ⟨w.heap.size + 1 + 1, 0, none⟩) b.length cap, .func (.func 105) #[] #[.pointer (some ⟨w.heap.size + 3, 0, none⟩)], .int .i64 x.1, .int .u8 x.2, undef, undef, undef, undef, undef, undef, undef, undef, undef, undef, undef, undef, undef, undef, undef, undef], defers := [] }) ?assign ?body ?done ?stop
  case own =>
    refine fun s A' B' row hs hg hr => ⟨⟨cell_kept hs.1.1 hg fun r e => (hr r e).2, (frozen_kept hs.1.1 hg fun r e => (hr r e).2).trans hs.1.2⟩, ⟨cell_kept hs.2.1.1 hg fun r e => (hr r e).2, (frozen_kept hs.2.1.1 hg fun r e => (hr r e).2).trans hs.2.1.2⟩, ?_⟩
    exact hs.2.2.grown hg hs.2.2.size (fun k e => by have := (hr k e).1; rw [A.size] at this; omega)
  case assign =>
    intro l x W K hK
    gi_wp2_with (rw [Oper.semAt_eq _ _ _ (fun c h => by cases h)]; go_simp; try go_bits)
    exact hK
  case body =>
    rintro l pre x W ⟨⟨ht, htf⟩, ⟨hc, hf⟩, hb⟩ _
    have hsn := sumOf_snoc pre x tw
    generalize hp : sumOf pre tw = p at ht hc hsn
    obtain ⟨p1, p2⟩ := p
    simp only [] at ht hc
    cases p2
    · gi_wp2_with (rw [Oper.semAt_eq _ _ _ (fun c h => by cases h)]; go_simp; try go_bits)
      exact round_post (p := (p1, false)) A hsn ht htf hc hf hb
    · gi_wp2_with (rw [Oper.semAt_eq _ _ _ (fun c h => by cases h)]; go_simp; try go_bits)
      exact round_post (p := (p1, true)) A hsn ht htf hc hf hb
  case done =>
    rintro D xs W hD rfl ⟨⟨ht, htf⟩, ⟨hc, hf⟩, hb⟩ hK
    gi_wp2
    refine ⟨by simp, .inl ⟨_, _, rfl, run_takeDeferred hK, ?_⟩⟩
    exact ⟨_, results_tmp rfl _ _ _, rfl, hb.grown (grownBy_putObj' W D _) hb.size (fun k e => by cases e; rw [A.size] at hD; omega)⟩
  case stop =>
    rintro D c pre W _ _ h _
    exact h.elim
theorem fn97 (b : List UInt8) (hlen : b.length ≤ 9223372036854775807) (tw : Bool) : CallOK Tryz.prog 97 [.str b, .bool tw] (.int .i64 (sumOf (backs (toBytes b)) tw).1) := by
  refine .inl ⟨rfl, ⟨_, Tryz.func97, by kernel_rfl, by kernel_rfl⟩, fun w pr us hpr _ ha => ?_⟩
  obtain ⟨u1, us1, rfl, h1, h2⟩ : ∃ u1 us1, us = u1 :: us1 ∧ PV w pr (.str b) u1 ∧ All2 (PV w pr) [.bool tw] us1 := by
    cases us with
    | nil => exact ha.elim
    | cons u us => exact ⟨u, us, rfl, ha.1, ha.2⟩
  obtain ⟨u2, us2, rfl, h3, h4⟩ : ∃ u1 us', us1 = u1 :: us' ∧ PV w pr (.bool tw) u1 ∧ All2 (PV w pr) [] us' := by
    cases us1 with
    | nil => exact h2.elim
    | cons u us => exact ⟨u, us, rfl, h2.1, h2.2⟩
  have e1 : u1 = strV b := by rcases h1 with h | ⟨_, _, h, _⟩ <;> first | exact h | cases h
  have e2 : u2 = .bool tw := by rcases h3 with h | ⟨_, _, h, _⟩ <;> first | exact h | cases h
  have e3 : us2 = [] := by cases us2 with | nil => rfl | cons _ _ => exact h4.elim
  subst e1 e2 e3
  refine (callsIn_wide.1 (sum_in 10 (by omega) b hlen tw w)).mono ?_
  rintro e W' ⟨rfl, hb⟩
  exact ⟨_, pr, rfl, hb, fun _ _ _ => Iff.rfl, fun k o h => Nat.lt_of_lt_of_le (hpr k o h) hb.size, none, .inl rfl, rfl⟩
end Go.Proofs.YtjgnpmdbkgeakaaGreatDoor.Sum
end
section
set_option linter.unusedVariables false
set_option linter.unusedSimpArgs false
namespace Go.Proofs.YtjgnpmdbkgeakaaGreatDoor.Signs
open Go Go.RowKit Go.Proofs Go.Proofs.YtjgnpmdbkgeakaaGreatDoor Th Go.Lib
attribute [local go_sem] Oper.semAt_some
def plain (c : UInt8) : Bool := decide (32 ≤ c.toNat) && decide (c.toNat ≤ 126)
def signsOf (kind : Int) (d : Bool) (b : List UInt8) : Bool := if kind = 1 ∨ kind = 3 then d else b.all plain
theorem all_of {bs : ByteArray} (h : ∀ (i : Nat) (h : i < bs.size), plain bs[i] = true) : bs.data.toList.all plain = true := by
  rw [List.all_eq_true]
  intro x hx
  obtain ⟨i, hi, rfl⟩ := List.getElem_of_mem hx
  have hi' : i < bs.size := by rw [Array.length_toList] at hi; exact hi
  have e : bs.data.toList[i] = bs[i] := by rw [Array.getElem_toList]; rfl
  rw [e]; exact h i hi'
theorem not_all {bs : ByteArray} {i : Nat} (h : i < bs.size) (hp : plain bs[i] = false) : bs.data.toList.all plain = false := by
  rw [Bool.eq_false_iff]
  intro ha
  rw [List.all_eq_true] at ha
  have := ha bs[i] (by
    have hi : i < bs.data.toList.length := by rw [Array.length_toList]; exact h
    have e : bs.data.toList[i] = bs[i] := by rw [Array.getElem_toList]; rfl
    rw [← e]; exact List.getElem_mem _)
  rw [hp] at this; cases this
theorem iterPos_of' {w : World} {k : Nat} {s : ByteArray} {p : Nat} (h : w.heap[k]? = some (.stringIter s p)) : w.iterPos k = p := by simp [World.iterPos, h]
set_option maxRecDepth 100000 in
set_option maxHeartbeats 2000000 in
theorem signs_in (n : Nat) (hn : 3 ≤ n) (f kind size : Int) (bs : ByteArray) (hlen : bs.size ≤ 9223372036854775807) (d : Bool) (w : World)
    (hIs : ∀ w1 : World, Below w.heap.size w w1 → Calls Tryz.prog 96 #[.string bs] w1 fun e w' => e = .returned (.bool d) ∧ Below w1.heap.size w1 w') :
    CallsIn Fence.wide n Tryz.prog 92 #[.agg #[.int .i64 f, .int .i64 kind, .int .i64 size], .string bs] w fun e W' => e = .returned (.bool (signsOf kind d bs.data.toList)) ∧ Below w.heap.size w W' := by
  have h1 : 1 ≤ n := by omega
  refine callsIn_of_wp Tryz.func92 rfl trivial ?_ rfl
  simp only [Tryz.ntmps92, List.size_toArray, List.length_cons, List.length_nil, Nat.reduceAdd, Nat.reduceSub, Array.replicate_succ, Array.replicate_zero, List.push_toArray, List.append_toArray, List.nil_append, List.cons_append]
  by_cases k1 : kind = 1
  · subst k1
    gi_wp2
    refine ⟨trivial, (callsIn_wide.2 (hIs _ ((Below.refl _ w).alloc (Nat.le_refl _) _))).mono ?_⟩
    rintro e w' ⟨rfl, hb⟩
    dsimp only
    gi_wp2
    go_ret
    refine ⟨by simp [signsOf], ((Below.refl _ w).alloc (Nat.le_refl _) _).trans (hb.mono (by simp))⟩
  by_cases k3 : kind = 3
  · subst k3
    gi_wp2
    refine ⟨trivial, (callsIn_wide.2 (hIs _ ((Below.refl _ w).alloc (Nat.le_refl _) _))).mono ?_⟩
    rintro e w' ⟨rfl, hb⟩
    dsimp only
    gi_wp2
    go_ret
    refine ⟨by simp [signsOf], ((Below.refl _ w).alloc (Nat.le_refl _) _).trans (hb.mono (by simp))⟩
  · gi_wp2
    · exfalso; simp_all
    have hit : (((w.alloc (Obj.cells #[Value.int IntKind.i64 f, Value.int IntKind.i64 kind, Value.int IntKind.i64 size] 89)).iter bs 0)).heap[w.heap.size + 1]? = some (.stringIter bs 0) := by
      have := World.iter_heap (w.alloc (Obj.cells #[Value.int IntKind.i64 f, Value.int IntKind.i64 kind, Value.int IntKind.i64 size] 89)) bs 0
      rwa [World.size_alloc] at this
    have hbl : Below w.heap.size w ((w.alloc (Obj.cells #[Value.int IntKind.i64 f, Value.int IntKind.i64 kind, Value.int IntKind.i64 size] 89)).iter bs 0) :=
      ((Below.refl _ w).alloc (Nat.le_refl _) _).alloc (by simp) _
    generalize ((w.alloc (Obj.cells #[Value.int IntKind.i64 f, Value.int IntKind.i64 kind, Value.int IntKind.i64 size] 89)).iter bs 0) = W0 at hit hbl ⊢
    gi_loopw [] (fun wr => ∃ pos, pos ≤ bs.size ∧ (∀ (i : Nat) (h : i < bs.size), i < pos → plain bs[i] = true) ∧ wr.heap[w.heap.size + 1]? = some (.stringIter bs pos) ∧ Below w.heap.size w wr)
      (fun wr => bs.size - wr.iterPos (w.heap.size + 1))
    case atStart => exact ⟨0, by omega, fun i h hi => by omega, hit, hbl⟩
    case round =>
      obtain ⟨pos, hp, hall, hhe, hb⟩ := hrel
      by_cases hlt : pos < bs.size
      · by_cases hpl : plain (bs[pos]'hlt) = true
        · have hpl' := hpl
          simp only [plain, Bool.and_eq_true, decide_eq_true_eq] at hpl'
          have hnext := run_next_ascii_at (P := Tryz.prog) wr (w.heap.size + 1) bs pos 0 hhe hlt (by omega)
          have c1 : ¬ (((bs[pos]'hlt).toNat : Int) < 32) := by omega
          have c2 : ¬ (126 < ((bs[pos]'hlt).toNat : Int)) := by omega
          gi_wp2
          go_roundw
          case rel =>
            refine ⟨pos + 1, by omega, fun i h hi => ?_, iterAt_heap wr (w.heap.size + 1) bs pos (pos + 1) hhe, below_iterAt hb (by omega) _ _⟩
            by_cases e : i = pos
            · subst e; exact hpl
            · exact hall i h (by omega)
          case measure =>
            rw [iterPos_of' hhe, iterPos_of' (iterAt_heap wr (w.heap.size + 1) bs pos (pos + 1) hhe)]
            omega
        · have hpf : plain (bs[pos]'hlt) = false := by simpa using hpl
          have fin : bs.data.toList.all plain = false := not_all hlt hpf
          have fin2 : signsOf kind d bs.data.toList = false := by unfold signsOf; rw [if_neg (by simp [k1, k3]), fin]
          by_cases hasc : (bs[pos]'hlt).toNat < 128
          · have hnext := run_next_ascii_at (P := Tryz.prog) wr (w.heap.size + 1) bs pos 0 hhe hlt hasc
            have hcc : ((bs[pos]'hlt).toNat : Int) < 32 ∨ 126 < ((bs[pos]'hlt).toNat : Int) := by
              simp only [plain, Bool.and_eq_false_iff, decide_eq_false_iff_not] at hpf
              omega
            rcases hcc with c1 | c1
            · gi_wp2
              go_ret
              first | exact ⟨(congrArg (fun x => Ending.returned (Value.bool x)) fin2).symm, below_iterAt hb (by omega) _ _⟩ | exact ⟨rfl, below_iterAt hb (by omega) _ _⟩
            · have c2 : ¬ (((bs[pos]'hlt).toNat : Int) < 32) := by omega
              gi_wp2
              go_ret
              first | exact ⟨(congrArg (fun x => Ending.returned (Value.bool x)) fin2).symm, below_iterAt hb (by omega) _ _⟩ | exact ⟨rfl, below_iterAt hb (by omega) _ _⟩
          · have hnext := run_next_any_at (P := Tryz.prog) wr (w.heap.size + 1) bs pos 0 hhe hlt
            have hhi := (decode_high bs pos hlt (by omega)).1
            have c1 : ¬ (((Utf8.decode bs pos).1 : Int) < 32) := by omega
            have c2 : 126 < ((Utf8.decode bs pos).1 : Int) := by omega
            gi_wp2
            go_ret
            first | exact ⟨(congrArg (fun x => Ending.returned (Value.bool x)) fin2).symm, below_iterAt hb (by omega) _ _⟩ | exact ⟨rfl, below_iterAt hb (by omega) _ _⟩
      · have hnext := run_next_end_at (P := Tryz.prog) wr (w.heap.size + 1) bs pos 0 hhe hlt
        have fin : bs.data.toList.all plain = true := all_of fun i h => hall i h (by omega)
        have fin2 : signsOf kind d bs.data.toList = true := by unfold signsOf; rw [if_neg (by simp [k1, k3]), fin]
        gi_wp2
        go_ret
        first | exact ⟨(congrArg (fun x => Ending.returned (Value.bool x)) fin2).symm, hb⟩ | exact ⟨rfl, hb⟩
theorem fn92 (f kind size : Int) (b : List UInt8) (hlen : b.length ≤ 9223372036854775807) (d : Bool) (hIs : CallOK Tryz.prog 96 [.str b] (.bool d)) :
    CallOK Tryz.prog 92 [.agg [.int .i64 f, .int .i64 kind, .int .i64 size], .str b] (.bool (signsOf kind d b)) := by
  refine .inl ⟨rfl, ⟨_, Tryz.func92, by kernel_rfl, by kernel_rfl⟩, fun w pr us hpr hgl ha => ?_⟩
  obtain ⟨u1, us1, rfl, h1, h2⟩ : ∃ u1 us1, us = u1 :: us1 ∧ PV w pr (.agg [.int .i64 f, .int .i64 kind, .int .i64 size]) u1 ∧ All2 (PV w pr) [.str b] us1 := by
    cases us with
    | nil => exact ha.elim
    | cons u us => exact ⟨u, us, rfl, ha.1, ha.2⟩
  obtain ⟨u2, us2, rfl, h3, h4⟩ : ∃ u1 us', us1 = u1 :: us' ∧ PV w pr (.str b) u1 ∧ All2 (PV w pr) [] us' := by
    cases us1 with
    | nil => exact h2.elim
    | cons u us => exact ⟨u, us, rfl, h2.1, h2.2⟩
  have e1 : u1 = .agg #[.int .i64 f, .int .i64 kind, .int .i64 size] := by
    rcases h1 with h | ⟨cs, vs, hc, hv, hr⟩
    · exact h.elim
    · cases hc
      match vs, hr with
      | [a, b, c], ⟨p, q, r, _⟩ => rw [hv, show a = _ from p, show b = _ from q, show c = _ from r]
  have e2 : u2 = strV b := by rcases h3 with h | ⟨_, _, h, _⟩ <;> first | exact h | cases h
  have e3 : us2 = [] := by cases us2 with | nil => rfl | cons _ _ => exact h4.elim
  subst e1 e2 e3
  have hIs' : ∀ w1 : World, Below w.heap.size w w1 → Calls Tryz.prog 96 #[strV b] w1 fun e w' => e = .returned (.bool d) ∧ Below w1.heap.size w1 w' := by
    intro w1 hb1
    rcases hIs with ⟨_, hIs⟩ | ⟨_, _, _, _, _, e, _⟩ | ⟨_, _, _, _, _, e, _⟩
    case inr.inl => cases e
    case inr.inr => cases e
    refine (hIs.2 w1 pr [strV b] (fun k o h => Nat.lt_of_lt_of_le (hpr k o h) hb1.size) (hgl.keeps fun k o p => ⟨p, cell_heap (hb1.block k (hpr k o p)) o⟩) ⟨.inl rfl, trivial⟩).mono ?_
    rintro e w' ⟨r, pr', rfl, hb, _, _, hr⟩
    obtain ⟨bb, hr⟩ := hr
    refine ⟨?_, hb⟩
    rcases hr.1 with h1 | ⟨_, _, h1, _⟩
    · rw [show r = .bool d from h1]
    · cases h1
  have := signs_in 10 (by omega) f kind size ⟨b.toArray⟩ (by simpa [ByteArray.size] using hlen) d w hIs'
  refine (callsIn_wide.1 this).mono ?_
  rintro e W' ⟨rfl, hb⟩
  exact ⟨_, pr, rfl, hb, fun _ _ _ => Iff.rfl, fun k o h => Nat.lt_of_lt_of_le (hpr k o h) hb.size, none, .inl rfl, rfl⟩
end Go.Proofs.YtjgnpmdbkgeakaaGreatDoor.Signs
end
section
set_option linter.unusedVariables false
set_option linter.unusedSimpArgs false
namespace Go.Proofs.YtjgnpmdbkgeakaaGreatDoor.Grow80
open Go Go.RowKit Go.Shelf Go.Lib Go.Proofs Go.Proofs.YtjgnpmdbkgeakaaGreatDoor Th
def Post (n : Nat) (z : Value) (w : World) (e : Ending) (w' : World) : Prop := (n = 0 ∧ e = .returned (.slice none 0 0) ∧ w' = w) ∨
      (0 < n ∧ ∃ G us, e = .returned (.slice (some ⟨w.heap.size, 0, none⟩) 0 G) ∧ w' = w.drew.alloc (.cells us 5) ∧ us = Builtin.zeroCells z.cells n ++ Builtin.zeroCells z.cells (G - n) ∧ n ≤ G)
set_option maxHeartbeats 4000000 in
set_option maxRecDepth 100000 in
theorem walk (i0 : TypeInfo) (z : Value) (hi0 : Tryz.prog.info? 5 = some i0) (hz0 : i0.zero = some z) (hs0 : 0 < i0.size) (n : Nat) (w : World) (hbig : n * i0.bytes ≤ 140737488355328) (h63 : n ≤ 4611686018427387904) :
    Calls Tryz.prog 80 #[.slice none 0 0, .int .i64 n] w (Post n z w) := by
  by_cases hn : n = 0
  · subst hn
    go_enter Tryz.func80, Tryz.ntmps80
    go_wp2
    go_ret
    exact .inl ⟨rfl, rfl, rfl⟩
  have hts : Tryz.prog.underlying 26 = some (.slice 5) := by kernel_rfl
  have hti : Tryz.prog.underlying 3 = some (.int .i64) := by kernel_rfl
  have h1 : ¬ ((n : Int) < 0) := by omega
  have h4 : (n : Int) > 0 := by omega
  have hold : (Builtin.firstCells i0.size 0 (.slice none 0 0)).run Tryz.prog w.drew = .ok ([] : List Value).toArray w.drew := run_firstCells_none w.drew i0.size 0 0 0
  have hrz : ∀ ty, (Builtin.append_ #[26, 3] ty #[.slice none 0 0, .int .i64 (n : Int)]).run Tryz.prog w =
      .ok (.slice (some ⟨w.heap.size, 0, none⟩) n (grownCap w n 0 5)) (w.drew.alloc (.cells (([] : List Value).toArray ++ Builtin.zeroCells z.cells n ++ Builtin.zeroCells z.cells (grownCap w n 0 5 - n)) 5)) := fun ty => by
    have h := Lib.run_append_grow_zeros w 26 3 ty 5 i0 z .i64 .i64 hts hti hi0 hz0 none 0 0 [] hold n (by omega) hs0 (by omega) (by omega) (by omega) (by rw [Nat.zero_add]; exact growslice_fits (by omega) hbig)
    rw [Nat.zero_add] at h
    exact h
  have hGn : n ≤ grownCap w n 0 5 := grownCap_ge w _ _ _
  obtain ⟨G, hG⟩ : ∃ G, G = grownCap w n 0 5 := ⟨_, rfl⟩
  rw [← hG] at hrz hGn
  obtain ⟨ROW, hROW⟩ : ∃ ROW : Array Value, ROW = ([] : List Value).toArray ++ Builtin.zeroCells z.cells n ++ Builtin.zeroCells z.cells (G - n) := ⟨_, rfl⟩
  rw [← hROW] at hrz
  have hpost : Post n z w (.returned (.slice (some ⟨w.heap.size, 0, none⟩) 0 G)) (w.drew.alloc (.cells ROW 5)) := .inr ⟨by omega, G, _, rfl, rfl, by rw [hROW]; simp, hGn⟩
  clear hROW
  have hG63 : G ≤ 9223372036854775807 := by
    have := grownCap_le_maxLen w n 0 5 (by unfold maxLen; omega)
    rw [← hG] at this
    unfold maxLen at this
    omega
  have hw : IntKind.i64.wrap (n : Int) = (n : Int) := by rw [IntKind.wrap_i64]; omega
  clear hold hG
  go_enter Tryz.func80, Tryz.ntmps80
  go_wp2_with (at_builtin; refine Lib.wpList_append_run _ rfl _ _ _ _ rfl _ _ rfl rfl _ _ (hrz _) ?_)
  all_goals (go_ret; exact hpost)
theorem calls {ei : TInfo} {d : TypeDesc} {i0 : TypeInfo} {z : Value} (E : TypeIs Tryz.prog 5 ei i0 d z) (hs0 : 0 < ei.size) (n : Int) (h0 : 0 ≤ n) (hbig : n * (ei.bytes : Int) ≤ 140737488355328) (h63 : n ≤ 4611686018427387904) :
    CallOK Tryz.prog 80 [.nilsl, .int .i64 n] (.own ei.ty []) := by
  refine .inl ⟨rfl, ⟨_, Tryz.func80, rfl, rfl⟩, fun w pr us hlt hgl ha => ?_⟩
  obtain ⟨u1, u2, rfl⟩ : ∃ u1 u2, us = [u1, u2] := by
    have := ha.len
    match us, this with
    | [u1, u2], _ => exact ⟨u1, u2, rfl⟩
  obtain ⟨p1, p2, _⟩ := ha
  have e1 : u1 = .slice none 0 0 := by
    rcases p1 with h | ⟨cs, us, h, _⟩
    · exact h
    · cases h
  have e2 : u2 = .int .i64 n := by
    rcases p2 with h | ⟨cs, us, h, _⟩
    · exact h
    · cases h
  subst e1 e2
  obtain ⟨m, rfl⟩ : ∃ m : Nat, n = m := ⟨n.toNat, by omega⟩
  have hzsz : z.cells.size = ei.size := by have := (z0s_LR (w := w) (g := ⟨fun _ _ => False, fun _ => none, fun _ => none⟩) E.zrel).len; have := E.zlen; simp at *; omega
  refine (walk i0 z E.info E.zero (by rw [E.size]; exact hs0) m w (by rw [E.bytes]; have : ((m * ei.bytes : Nat) : Int) ≤ 140737488355328 := by rw [Int.natCast_mul]; exact hbig
                                                                      omega) (by omega)).mono ?_
  rintro e w' (⟨rfl, rfl, rfl⟩ | ⟨hm, G, us, rfl, rfl, rfl, hG⟩)
  · exact ⟨_, pr, rfl, Below.refl _ _, fun _ _ _ => Iff.rfl, hlt, none, ⟨.slice none 0 0, none, ei.ty.size⟩, ⟨rfl, .inl ⟨rfl, rfl, rfl⟩⟩, rfl, rfl, fun k hk => by cases hk⟩
  · refine ⟨_, pr, rfl, ((Below.refl _ w).drew).alloc (Nat.le_refl _) _, fun _ _ _ => Iff.rfl, fun k o p => ?_, some w.heap.size, ⟨.slice (some ⟨w.heap.size, 0, none⟩) 0 G, some w.heap.size, ei.ty.size⟩,
      ⟨rfl, .inr ⟨w.heap.size, G, rfl, rfl, ?_⟩⟩, rfl, rfl, fun k hk => ?_⟩
    · have h1 : (w.drew.alloc (.cells (Builtin.zeroCells z.cells m ++ Builtin.zeroCells z.cells (G - m)) 5)).heap.size = w.heap.size + 1 := by show (w.heap.push _).size = _; simp
      rw [h1]; have := hlt k o p; omega
    · refine ⟨bd0_mine.2 (Nat.le_refl _), Nat.zero_le _, ⟨_, 5, (0, 0), alloc_new w.drew _, thawed0 _, ?_, fun j x hj => by simp at hj⟩, fun o p => absurd (hlt _ _ p) (by omega), fun h => (by cases h), fun _ o p => absurd (hlt _ _ p) (by omega)⟩
      rw [E.tysz]
      simp only [Array.size_append, size_zeroCells, hzsz]
      rw [← Nat.add_mul]
      exact Nat.mul_le_mul_right _ (by omega)
    · cases hk; show _ < (w.heap.push _).size; simp
end Go.Proofs.YtjgnpmdbkgeakaaGreatDoor.Grow80
end
section
set_option linter.unusedVariables false
set_option linter.unusedSimpArgs false
namespace Go.Proofs.YtjgnpmdbkgeakaaGreatDoor.FrameP
open Go Go.RowKit Go.Shelf Go.Lib Go.Proofs Go.Proofs.YtjgnpmdbkgeakaaGreatDoor Th
def hdr (n : Nat) : List Value := [.int .u8 (n / 256 % 256 : Nat), .int .u8 (n % 256 : Nat)]
def Post (n : Nat) (cs : List Value) (w : World) (e : Ending) (w' : World) : Prop :=
  (n = 0 ∧ e = .returned (.tuple #[.slice none 0 0, .int .i64 2]) ∧ w' = w) ∨
  (2048 < n ∧ e = .returned (.tuple #[.slice none 0 0, .int .i64 4]) ∧ w' = w) ∨
  (0 < n ∧ n ≤ 2048 ∧ e = .returned (.tuple #[.slice (some ⟨w.heap.size, 0, none⟩) (n + 2) (n + 2), .int .i64 0]) ∧ Below w.heap.size w w' ∧ w'.heap[w.heap.size]? = some (.cells (hdr n ++ cs).toArray 5 (0, 0)))
theorem wpList_make_run {P : Program} (w : World) {ops : Array Oper} {rest : List Oper} {o : Oper} {a : Act} {Q : Exit → Act → World → Prop} (hg : o.guard = none) (l c : Operand) (t : TypeId) (hop : o.op = Op.makeSlice t l c)
    (vl vc : Value) (hl : a.eval l = vl) (hc : a.eval c = vc) (v : Value) (w' : World) (hrun : (Instr.makeSlice t vl vc).run P w = .ok v w') (h : wpList P ops Q rest (a.put o.dst v) w') : wpList P ops Q (o :: rest) a w := by
  refine wpList_plain hg fun K hK' => ?_
  unfold Oper.wp
  simp [execOp, hop, hl, hc, hrun, Result.andThen]
  exact hK' _ _ h
theorem wpList_copy_run {P : Program} (w : World) {ops : Array Oper} {rest : List Oper} {o : Oper} {a : Act} {Q : Exit → Act → World → Prop} (hg : o.guard = none) (x y : Operand) (t u : TypeId) (hop : o.op = .call { callee := .builtin .copy, args := #[x, y], argTypes := #[t, u] })
    (vx vy : Value) (hx : a.eval x = vx) (hy : a.eval y = vy) (v : Value) (w' : World) (hrun : (Builtin.copy_ #[t, u] o.type #[vx, vy]).run P w = .ok v w') (h : wpList P ops Q rest (a.put o.dst v) w') : wpList P ops Q (o :: rest) a w := by
  refine wpList_plain hg fun K hK' => ?_
  unfold Oper.wp
  simp [execOp, hop, resolve, invoke, builtin, hx, hy, hrun, Result.andThen]
  exact hK' _ _ h
theorem cell_below {B : Nat} {w w' : World} (h : Below B w w') {a : Addr} (ha : a.block < B) : w'.cell? a = w.cell? a := by
  have := h.block a.block ha
  simp only [World.cell?, this]
theorem made_list (v : Value) (n : Nat) (z : Array Value) (hz : z = #[v]) : madeCells z n = (List.replicate n v).toArray := by
  subst hz
  apply Array.ext
  · rw [size_madeCells]; simp
  · intro i h1 h2
    simp [madeCells, Nat.mod_one]
set_option maxHeartbeats 4000000 in
set_option maxRecDepth 100000 in
theorem walk (ad : Option Addr) (n c : Nat) (cs : List Value) (hn : cs.length = n) (w : World) (hsrc : 0 < n → ∃ a, ad = some a ∧ ∀ j v, cs[j]? = some v → (a.add j).block < w.heap.size ∧ w.cell? (a.add j) = some v) (h1 : ∀ v ∈ cs, v.oneCell' = true) :
    Calls Tryz.prog 18 #[.slice ad n c] w (Post n cs w) := by
  by_cases hz : n = 0
  · subst hz
    go_enter Tryz.func18, Tryz.ntmps18
    go_wp2
    all_goals (go_ret2; exact .inl ⟨rfl, rfl, rfl⟩)
  have q0 : ¬ ((n : Int) = 0) := by omega
  by_cases hbig : 2048 < n
  · have q1 : (n : Int) > 2048 := by omega
    go_enter Tryz.func18, Tryz.ntmps18
    go_wp2
    all_goals (go_ret2; exact .inr (.inl ⟨hbig, rfl, rfl⟩))
  have q1 : ¬ ((n : Int) > 2048) := by omega
  have hts : Tryz.prog.underlying 26 = some (.slice 5) := by kernel_rfl
  have hti : (Tryz.prog.info? 5).map (fun i => (i.zero, i.size, i.bytes)) = some (some (.int .u8 0), 1, 1) := by kernel_rfl
  obtain ⟨i0, hi0, hz0, hs0, hb0⟩ := info_parts hti
  obtain ⟨W1, hmk, hB1, hr1⟩ : ∃ W1, (Instr.makeSlice 26 (.int .i64 (2 + (n : Int))) (.int .i64 (2 + (n : Int)))).run Tryz.prog w = .ok (.slice (some ⟨w.heap.size, 0, none⟩) (n + 2) (n + 2)) W1 ∧ Below w.heap.size w W1 ∧
      W1.heap[w.heap.size]? = some (.cells (List.replicate (n + 2) (Value.int .u8 0)).toArray 5 (0, 0)) := by
    have h := run_make (P := Tryz.prog) w 26 5 i0 _ hts hi0 hz0 .i64 .i64 (2 + (n : Int)) (2 + (n : Int)) (by omega) (by omega) (by rw [hb0]; omega) (by omega)
    have e : (2 + (n : Int)).toNat = n + 2 := by omega
    rw [e, hs0] at h
    refine ⟨_, h, (Below.refl _ _).alloc (Nat.le_refl _) _, ?_⟩
    rw [made_list (.int .u8 0) _ (Value.int .u8 0).cells rfl, Nat.mul_one]
    exact Array.getElem?_push_size
  have hw : IntKind.i64.wrap (2 + (n : Int)) = 2 + (n : Int) := by rw [IntKind.wrap_i64]; omega
  have hc0 : W1.cell? ⟨w.heap.size, 0, none⟩ = some (.int .u8 0) := by simp [World.cell?, hr1, List.replicate_succ]
  have hf0 : W1.frozen? ⟨w.heap.size, 0, none⟩ = false := frozen_of_row _ _ _ _ _ hr1
  have hr2 := fun v => heap_setCell_same W1 w.heap.size 0 _ 5 v hr1
  have hc1 : ∀ v, (W1.setCell ⟨w.heap.size, 0, none⟩ v).cell? ⟨w.heap.size, 1, none⟩ = some (.int .u8 0) := fun v => by simp [World.cell?, hr2 v, List.replicate_succ]
  have hf1 : ∀ v, (W1.setCell ⟨w.heap.size, 0, none⟩ v).frozen? ⟨w.heap.size, 1, none⟩ = false := fun v => frozen_of_row _ _ _ _ _ (hr2 v)
  have hr3 := fun v u => heap_setCell_same _ w.heap.size 1 _ 5 u (hr2 v)
  have hB3 : ∀ v u, Below w.heap.size w ((W1.setCell ⟨w.heap.size, 0, none⟩ v).setCell ⟨w.heap.size, 1, none⟩ u) := fun v u => (hB1.setCell (p := ⟨w.heap.size, 0, none⟩) (Nat.le_refl _) v).setCell (p := ⟨w.heap.size, 1, none⟩) (Nat.le_refl _) u
  obtain ⟨a, rfl, hsrc'⟩ := hsrc (by omega)
  obtain ⟨W3, hcp, hB4, hr4⟩ : ∃ W3, (Builtin.copy_ #[26, 26] 3 #[.slice (some ⟨w.heap.size, 2, none⟩) n n, .slice (some a) n c]).run Tryz.prog ((W1.setCell ⟨w.heap.size, 0, none⟩ (.int .u8 ((n : Int) / 256))).setCell ⟨w.heap.size, 1, none⟩ (.int .u8 ((n : Int) % 256))) = .ok (goInt n) W3 ∧
      Below w.heap.size w W3 ∧ W3.heap[w.heap.size]? = some (.cells (hdr n ++ cs).toArray 5 (0, 0)) := by
    have h := run_copy_row (P := Tryz.prog) _ 26 26 3 5 w.heap.size 2 n n a n c _ 5 cs hts (by rw [hi0]; simp [hs0]) (hr3 (.int .u8 ((n : Int) / 256)) (.int .u8 ((n : Int) % 256))) (by simp [hn])
      (fun j v hj => by rw [cell_below (hB3 _ _) (a := a.add j) (hsrc' j v hj).1]; exact (hsrc' j v hj).2) (by simp; omega) h1
    rw [hn] at h
    refine ⟨_, h, below_setRow (hB3 _ _) (Nat.le_refl _) _, ?_⟩
    have hl : ((List.replicate (n + 2) (Value.int .u8 0)).toArray.setIfInBounds 0 (.int .u8 ((n : Int) / 256))).setIfInBounds 1 (.int .u8 ((n : Int) % 256)) = (.int .u8 ((n : Int) / 256) :: .int .u8 ((n : Int) % 256) :: List.replicate n (Value.int .u8 0)).toArray := by
      rw [List.replicate_succ, List.replicate_succ]; rfl
    rw [setRow_heap _ _ _ _ 5 (0, 0) (hr3 _ _), hl]
    have e1 : (n : Int) / 256 = ((n / 256 % 256 : Nat) : Int) := by omega
    have e2 : (n : Int) % 256 = ((n % 256 : Nat) : Int) := by omega
    have e3 : List.drop (2 + n) (.int .u8 ((n : Int) / 256) :: .int .u8 ((n : Int) % 256) :: List.replicate n (Value.int .u8 0)) = [] := List.drop_eq_nil_of_le (by simp; omega)
    show some (Obj.cells (List.toArray (List.take 2 (.int .u8 ((n : Int) / 256) :: .int .u8 ((n : Int) % 256) :: List.replicate n (Value.int .u8 0)) ++ cs ++ List.drop (2 + n) (.int .u8 ((n : Int) / 256) :: .int .u8 ((n : Int) % 256) :: List.replicate n (Value.int .u8 0)))) 5 (0, 0)) = _
    rw [e3, List.append_nil, e1, e2]
    rfl
  go_enter Tryz.func18, Tryz.ntmps18
  go_wp2_with (first | (at_make; (refine wpList_make_run _ rfl _ _ _ rfl _ _ rfl rfl _ _ hmk ?_)) | (with_reducible refine wpList_copy_run _ rfl _ _ _ _ rfl _ _ rfl rfl _ _ hcp ?_))
  all_goals (go_ret2; exact .inr (.inr ⟨by omega, by omega, rfl, hB4, hr4⟩))
theorem two_of {B : Bd} {w : World} {pr : Nat → Nat → Prop} {a b : AV} {u v : Value} (h1 : OwnC B w pr a u none) (h2 : OwnC B w pr b v none) : ∀ (i : Nat) (x : AV) (y : Value) (c : Option Nat), [a, b][i]? = some x → [u, v][i]? = some y → [none, none][i]? = some c → OwnC B w pr x y c := by
  intro i x y c p q r
  match i with
  | 0 => cases p; cases q; cases r; exact h1
  | 1 => cases p; cases q; cases r; exact h2
  | i + 2 => simp at p
theorem none_two : ∀ (i j k : Nat), ([none, none] : List (Option Nat))[i]? = some (some k) → ([none, none] : List (Option Nat))[j]? = some (some k) → i = j := by
  intro i j k p
  match i with
  | 0 => cases p
  | 1 => cases p
  | i + 2 => simp at p
def putF (b : List Int) : List Int × Int := if b.length = 0 then ([], 2) else if 2048 < b.length then ([], 4) else (((b.length / 256 % 256 : Nat) : Int) :: ((b.length % 256 : Nat) : Int) :: b, 0)
theorem calls (b : List Int) (a : AV) (ha : a = .sl (.int .u8) b ∨ (a = .nilsl ∧ b = [])) : CallOK Tryz.prog 18 [a] (.tup [.sl (.int .u8) (putF b).1, .int .i64 (putF b).2]) := by
  refine .inl ⟨rfl, ⟨_, Tryz.func18, rfl, rfl⟩, fun w pr us hlt hgl hal => ?_⟩
  obtain ⟨u1, rfl⟩ : ∃ u1, us = [u1] := by
    have := hal.len
    match us, this with
    | [u1], _ => exact ⟨u1, rfl⟩
  obtain ⟨p1, _⟩ := hal
  have hTR : TR w pr (.slice (.int .u8)) b [u1] := by
    rcases ha with rfl | ⟨rfl, rfl⟩
    · rcases p1 with h | ⟨cs, us, h, _⟩
      · exact h
      · cases h
    · have e : u1 = .slice none 0 0 := by
        rcases p1 with h | ⟨cs, us, h, _⟩
        · exact h
        · cases h
      rw [e]; exact TR_nilsl _ _ _
  obtain ⟨ad, c, e, hcap, hel⟩ := hTR
  cases e
  have hget : ∀ (j : Nat) (v : Value), (b.map (Value.int .u8))[j]? = some v → ∃ x, b[j]? = some x ∧ v = .int .u8 x := fun j v hj => by
    rw [List.getElem?_map] at hj
    cases hx : b[j]? with
    | none => rw [hx] at hj; cases hj
    | some x => rw [hx] at hj; exact ⟨x, rfl, by cases hj; rfl⟩
  refine (walk ad b.length c (b.map (Value.int .u8)) (by simp) w (fun h0 => ?_) (fun v hv => ?_)).mono ?_
  · obtain ⟨a0, vs0, ea, _⟩ := hel 0 b[0] (List.getElem?_eq_getElem h0)
    refine ⟨a0, ea, fun j v hj => ?_⟩
    obtain ⟨x, hx, rfl⟩ := hget j v hj
    obtain ⟨a1, vs1, ea1, hl1, hc1, hv1⟩ := hel j x hx
    rw [ea] at ea1
    cases ea1
    have hv1 : vs1 = [.int .u8 x] := hv1
    have := hc1 0 (.int .u8 x) (by rw [hv1]; rfl)
    rw [Nat.add_zero, show (Ty.int .u8).size = 1 from rfl, Nat.mul_one] at this
    exact ⟨hlt _ _ this.2, this.1⟩
  · obtain ⟨x, _, rfl⟩ := List.mem_map.1 hv
    rfl
  rintro e w' (⟨h0, rfl, rfl⟩ | ⟨h0, rfl, rfl⟩ | ⟨h0, h1, rfl, hB, hr⟩)
  · have ep : putF b = ([], 2) := by unfold putF; rw [if_pos h0]
    rw [ep]
    exact ⟨_, pr, rfl, Below.refl _ _, fun _ _ _ => Iff.rfl, hlt, [.slice none 0 0, .int .i64 2], [none, none], rfl, rfl, rfl, two_of ⟨.inl (TR_nilsl _ _ _), rfl⟩ ⟨.inl rfl, rfl⟩, none_two⟩
  · have ep : putF b = ([], 4) := by unfold putF; rw [if_neg (by omega), if_pos h0]
    rw [ep]
    exact ⟨_, pr, rfl, Below.refl _ _, fun _ _ _ => Iff.rfl, hlt, [.slice none 0 0, .int .i64 4], [none, none], rfl, rfl, rfl, two_of ⟨.inl (TR_nilsl _ _ _), rfl⟩ ⟨.inl rfl, rfl⟩, none_two⟩
  · have ep : putF b = (((b.length / 256 % 256 : Nat) : Int) :: ((b.length % 256 : Nat) : Int) :: b, 0) := by unfold putF; rw [if_neg (by omega), if_neg (by omega)]
    have hs' : w.heap.size < w'.heap.size := (Array.getElem?_eq_some_iff.1 hr).1
    rw [ep]
    refine ⟨_, fun k o => pr k o ∨ k = w.heap.size, rfl, hB, fun k o hk => ⟨fun h => h.elim id fun h => absurd h (by omega), .inl⟩, fun k o h => h.elim (fun h => Nat.lt_of_lt_of_le (hlt _ _ h) hB.size) fun h => by omega,
      [.slice (some ⟨w.heap.size, 0, none⟩) (b.length + 2) (b.length + 2), .int .i64 0], [none, none], rfl, rfl, rfl, two_of ⟨.inl ⟨some ⟨w.heap.size, 0, none⟩, b.length + 2, rfl, ⟨Nat.le_refl _, fun h => by cases h⟩, fun j x hj => ?_⟩, rfl⟩ ⟨.inl rfl, rfl⟩, none_two⟩
    refine ⟨_, [.int .u8 x], rfl, rfl, fun i v hi => ?_, rfl⟩
    match i, hi with
    | 0, hi =>
      cases hi
      rw [Nat.add_zero, show (Ty.int .u8).size = 1 from rfl, Nat.mul_one]
      refine ⟨?_, .inr (by rw [addr_add])⟩
      have e : (hdr b.length ++ b.map (Value.int .u8)) = (((b.length / 256 % 256 : Nat) : Int) :: ((b.length % 256 : Nat) : Int) :: b).map (Value.int .u8) := rfl
      have hj' : (((b.length / 256 % 256 : Nat) : Int) :: ((b.length % 256 : Nat) : Int) :: b)[j]? = some x := hj
      rw [addr_add, Nat.zero_add, cell_of hr, List.getElem?_toArray, e, List.getElem?_map, hj']
      rfl
def putS (b : List Int) : Option (List Int × Int × Unit) := sel (decide (b.length = 0)) (some ([], 2, ())) (sel (decide (2048 < b.length)) (some ([], 4, ())) (some (((b.length / 256 % 256 : Nat) : Int) :: ((b.length % 256 : Nat) : Int) :: b, 0, ())))
theorem putS_eq (b : List Int) : putS b = some ((putF b).1, (putF b).2, ()) := by
  unfold putS putF
  by_cases h : b.length = 0
  · rw [sel_pos h, if_pos h]
  · rw [sel_neg h, if_neg h]
    by_cases h2 : 2048 < b.length
    · rw [sel_pos h2, if_pos h2]
    · rw [sel_neg h2, if_neg h2]
end Go.Proofs.YtjgnpmdbkgeakaaGreatDoor.FrameP
end
section
set_option linter.unusedVariables false
set_option linter.unusedSimpArgs false
namespace Go.Proofs.YtjgnpmdbkgeakaaGreatDoor.G
open Go Go.Proofs.YtjgnpmdbkgeakaaGreatDoor.Th
def til : List (Nat × TInfo) := [
  (3, ⟨.int .i64, 1, 8, (.int .i64), [.int .i64 0], [], [], true, false, [], []⟩),
  (4, ⟨.bool, 1, 1, .bool, [.bool false], [], [], true, false, [], []⟩),
  (5, ⟨.int .u8, 1, 1, (.int .u8), [.int .u8 0], [], [], true, false, [], []⟩),
  (9, ⟨.str, 1, 16, .str, [.str []], [], [], true, false, [], [(122, 8)]⟩),
  (22, ⟨.int .u64, 1, 8, (.int .u64), [.int .u64 0], [], [], true, false, [], []⟩),
  (23, ⟨.int .u32, 1, 4, (.int .u32), [.int .u32 0], [], [], true, false, [], []⟩),
  (25, ⟨.struct, 6, 72, (.st (.cons (.int .i64) (.cons .str (.cons (.int .u64) (.cons (.int .u32) (.cons .str (.cons .str .nil))))))), [.int .i64 0, .str [], .int .u64 0, .int .u32 0, .str [], .str []], [(0, 3), (1, 9), (2, 22), (3, 23), (4, 9), (5, 9)], [1, 1, 1, 1, 1, 1], true, true, [], []⟩),
  (26, ⟨.slice 5, 1, 24, (.slice (.int .u8)), [.nilsl], [], [], true, false, [], []⟩),
  (27, ⟨.slice 26, 1, 24, (.slice (.slice (.int .u8))), [.nilsl], [], [], true, false, [], []⟩),
  (29, ⟨.struct, 2, 32, (.st (.cons (.int .i64) (.cons (.slice (.slice (.int .u8))) .nil))), [.int .i64 0, .nilsl], [(0, 3), (1, 27)], [1, 1], true, false, [], []⟩),
  (30, ⟨.slice 25, 1, 24, (.slice (.st (.cons (.int .i64) (.cons .str (.cons (.int .u64) (.cons (.int .u32) (.cons .str (.cons .str .nil)))))))), [.nilsl], [], [], true, false, [], []⟩),
  (35, ⟨.int .i64, 1, 8, (.int .i64), [.int .i64 0], [], [], true, false, [], []⟩),
  (49, ⟨.slice 79, 1, 24, (.slice (.st (.cons (.int .i64) (.cons .str .nil)))), [.nilsl], [], [], true, false, [], []⟩),
  (51, ⟨.struct, 2, 40, (.st (.cons .str (.cons (.slice (.st (.cons (.int .i64) (.cons .str .nil)))) .nil))), [.str [], .nilsl], [(0, 9), (1, 49)], [1, 1], true, false, [], []⟩),
  (63, ⟨.struct, 2, 32, (.st (.cons (.slice (.int .u8)) (.cons .bool .nil))), [.nilsl, .bool false], [(0, 26), (1, 4)], [1, 1], true, false, [], []⟩),
  (77, ⟨.slice 3, 1, 24, (.slice (.int .i64)), [.nilsl], [], [], true, false, [], []⟩),
  (79, ⟨.struct, 2, 24, (.st (.cons (.int .i64) (.cons .str .nil))), [.int .i64 0, .str []], [(0, 3), (1, 9)], [1, 1], true, true, [], []⟩),
  (82, ⟨.struct, 2, 16, (.st (.cons (.int .u64) (.cons (.int .u64) .nil))), [.int .u64 0, .int .u64 0], [(0, 22), (1, 22)], [1, 1], true, true, [], []⟩),
  (89, ⟨.struct, 3, 24, (.st (.cons (.int .i64) (.cons (.int .i64) (.cons (.int .i64) .nil)))), [.int .i64 0, .int .i64 0, .int .i64 0], [(0, 3), (1, 3), (2, 3)], [1, 1, 1], true, true, [], []⟩),
  (96, ⟨.slice 9, 1, 24, (.slice .str), [.nilsl], [], [], true, false, [], []⟩),
  (151, ⟨.slice 89, 1, 24, (.slice (.st (.cons (.int .i64) (.cons (.int .i64) (.cons (.int .i64) .nil))))), [.nilsl], [], [], true, false, [], []⟩),
  (153, ⟨.struct, 2, 16, (.st (.cons (.int .i64) (.cons (.int .i64) .nil))), [.int .i64 0, .int .i64 0], [(0, 3), (1, 3)], [1, 1], true, true, [("paydesk/field.ahead", 121), ("paydesk/field.sized", 122)], []⟩),
  (155, ⟨.struct, 1, 8, (.st (.cons (.int .i64) .nil)), [.int .i64 0], [(0, 3)], [1], true, true, [("paydesk/field.ahead", 123), ("paydesk/field.sized", 124)], []⟩)
]
noncomputable def TI : TEnv := tiOf til
theorem hT : TIok Tryz.prog TI := TIok.of (by kernel_rfl)
theorem hm : Tryz.prog.follows .mixedOrders = true := rfl
noncomputable def O_0 (_ : Nat) : Orc := fun _ _ _ _ => none
theorem ok_O_0 (k : Nat) : OrcOK (O_0 k) (CallOK Tryz.prog) := orc_none
noncomputable def c59 : Code := Tryz.f59.body.getD .skip
noncomputable def mi59 : Msk := ⟨[(.tmp 0, .val (.int .i64))], []⟩
noncomputable def mo59 : Msk := ⟨[(.tmp 2, .val .bool)], []⟩
noncomputable def L59 (k : Nat) : LOrc := fun _ _ _ _ => none
noncomputable def F59 (k : Nat) (v : mi59.den) : Option mo59.den := runF TI (O_0 k) (L59 k) c59 mi59 mo59 v
theorem lk59 (k : Nat) : LinksOK Tryz.prog 9 (L59 k) c59 := (And.intro True.intro (And.intro (And.intro True.intro (And.intro (And.intro True.intro (And.intro True.intro (And.intro True.intro (And.intro True.intro (And.intro True.intro (And.intro True.intro True.intro)))))) (And.intro (And.intro True.intro True.intro) True.intro))) (And.intro True.intro True.intro)))
theorem fn59 (k : Nat) (args : List AV) (x : mi59.den) (r : mo59.den) (h1 : args.length = mi59.items.length) (h2 : mi59.dec (Th.start args) = some x) (h3 : F59 k x = some r) : CallOK Tryz.prog 59 args (ansOf (outL mo59.items r)) :=
  call_of hm hT (ok_O_0 k) (fn := Tryz.f59) (c := c59) Tryz.func59 rfl rfl rfl (lk59 k) rfl (by decide) rfl h1 h2 h3
noncomputable def O59 (k : Nat) : Orc := fun R f args K => bif Nat.beq f 59 then callF mi59 mo59 (F59 k) args K else O_0 k R f args K
theorem ok_O59 (k : Nat) : OrcOK (O59 k) (CallOK Tryz.prog) := orc_add (fn59 k) (ok_O_0 k)
noncomputable def c96 : Code := Tryz.f96.body.getD .skip
noncomputable def mi96 : Msk := ⟨[(.tmp 0, .val .str)], []⟩
noncomputable def mo96 : Msk := ⟨[(.tmp 2, .val .bool)], []⟩
noncomputable def L96_g0 (k : Nat) : LOrc := fun _ _ _ _ => none
noncomputable def b96_g0 : Code := (findScope 0 c96).getD .skip
noncomputable def l96_g0 : List (X × Msk) := [(.goto 0, ⟨[(.tmp 0, .val .str), (.tmp 3, .val (.int .i64))], []⟩)]
noncomputable def x96_g0 : List (X × Msk) := [(.ret, ⟨[(.tmp 2, .val .bool)], []⟩)]
noncomputable def F96_g0 (k : Nat) : Nat → denE l96_g0 → Option (denE x96_g0)
  | 0, _ => none
  | j + 1, v => pass TI (O59 k) (L96_g0 k) b96_g0 l96_g0 x96_g0 (F96_g0 k j) v
theorem lk96_g0_ (k : Nat) : LinksOK Tryz.prog 22 (L96_g0 k) b96_g0 := (And.intro True.intro (And.intro True.intro (And.intro (And.intro True.intro (And.intro (And.intro True.intro True.intro) True.intro)) (And.intro (And.intro True.intro (And.intro (And.intro True.intro True.intro) True.intro)) (And.intro True.intro True.intro)))))
noncomputable def L96 (k : Nat) : LOrc := fun R lk s K => match lk with
  | .loop r => none
  | .label l => (match findLabel b96_g0 l with | some _ => linkJ l96_g0 x96_g0 (F96_g0 k k) l s K | none => none)
theorem lk_L96_g0 (k : Nat) : JumpsOK Tryz.prog 22 (L96 k) b96_g0 := jumpsOK_of hm hT (ok_O59 k) (fun _ _ _ h => h) rfl (lk96_g0_ k) rfl rfl (F := F96_g0 k) (fun _ => rfl) (fun _ _ => rfl) (n := k) fun R l s K rest hf => by
  show (match findLabel b96_g0 l with | some _ => linkJ l96_g0 x96_g0 (F96_g0 k k) l s K | none => none) = _
  rw [hf]
noncomputable def F96 (k : Nat) (v : mi96.den) : Option mo96.den := runF TI (O59 k) (L96 k) c96 mi96 mo96 v
theorem lk96 (k : Nat) : LinksOK Tryz.prog 22 (L96 k) c96 := (And.intro True.intro (And.intro (lk_L96_g0 k) (And.intro True.intro (And.intro True.intro (And.intro (And.intro True.intro (And.intro (And.intro True.intro True.intro) True.intro)) (And.intro (And.intro True.intro (And.intro (And.intro True.intro True.intro) True.intro)) (And.intro True.intro True.intro)))))))
theorem fn96 (k : Nat) (args : List AV) (x : mi96.den) (r : mo96.den) (h1 : args.length = mi96.items.length) (h2 : mi96.dec (Th.start args) = some x) (h3 : F96 k x = some r) : CallOK Tryz.prog 96 args (ansOf (outL mo96.items r)) :=
  call_of hm hT (ok_O59 k) (fn := Tryz.f96) (c := c96) Tryz.func96 rfl rfl rfl (lk96 k) rfl (by decide) rfl h1 h2 h3
noncomputable def O96 (k : Nat) : Orc := fun R f args K => bif Nat.beq f 96 then callF mi96 mo96 (F96 k) args K else O59 k R f args K
theorem ok_O96 (k : Nat) : OrcOK (O96 k) (CallOK Tryz.prog) := orc_add (fn96 k) (ok_O59 k)
noncomputable def F97 (k : Nat) (v : List UInt8 × Bool × Unit) : Option (Int × Unit) := sel (decide (v.1.length ≤ 9223372036854775807)) (some ((Sum.sumOf (Sum.backs (toBytes v.1)) v.2.1).1, ())) none
noncomputable def O97 (k : Nat) : Orc := fun R f args K => bif Nat.beq f 97 then (match args with | [.str b, .bool t] => ocall (F97 k (b, t, ())) fun r => K (.int .i64 r.1) | _ => none) else O96 k R f args K
theorem ok_O97 (k : Nat) : OrcOK (O97 k) (CallOK Tryz.prog) := by
  intro R f args K r h
  unfold O97 at h
  cases hb : Nat.beq f 97 with
  | false => rw [hb] at h; exact ok_O96 k R f args K r h
  | true =>
    rw [hb] at h
    rw [Nat.eq_of_beq_eq_true hb]
    simp only [cond_true] at h
    split at h
    · rename_i b t
      unfold F97 at h
      by_cases hl : b.length ≤ 9223372036854775807
      · rw [sel_pos hl] at h
        exact ⟨_, Sum.fn97 b hl t, h⟩
      · rw [sel_neg hl] at h; cases h
    · cases h
noncomputable def c60 : Code := Tryz.f60.body.getD .skip
noncomputable def mi60 : Msk := ⟨[(.tmp 0, .val .str)], []⟩
noncomputable def mo60 : Msk := ⟨[(.tmp 2, .val .bool)], []⟩
noncomputable def L60 (k : Nat) : LOrc := fun _ _ _ _ => none
noncomputable def F60 (k : Nat) (v : mi60.den) : Option mo60.den := runF TI (O97 k) (L60 k) c60 mi60 mo60 v
theorem lk60 (k : Nat) : LinksOK Tryz.prog 11 (L60 k) c60 := (And.intro True.intro (And.intro True.intro True.intro))
theorem fn60 (k : Nat) (args : List AV) (x : mi60.den) (r : mo60.den) (h1 : args.length = mi60.items.length) (h2 : mi60.dec (Th.start args) = some x) (h3 : F60 k x = some r) : CallOK Tryz.prog 60 args (ansOf (outL mo60.items r)) :=
  call_of hm hT (ok_O97 k) (fn := Tryz.f60) (c := c60) Tryz.func60 rfl rfl rfl (lk60 k) rfl (by decide) rfl h1 h2 h3
noncomputable def O60 (k : Nat) : Orc := fun R f args K => bif Nat.beq f 60 then callF mi60 mo60 (F60 k) args K else O97 k R f args K
theorem ok_O60 (k : Nat) : OrcOK (O60 k) (CallOK Tryz.prog) := orc_add (fn60 k) (ok_O97 k)
noncomputable def c34 : Code := Tryz.f34.body.getD .skip
noncomputable def mi34 : Msk := ⟨[(.tmp 0, .val (.int .i64))], []⟩
noncomputable def mo34 : Msk := ⟨[(.tmp 2, .val .str)], []⟩
noncomputable def L34 (k : Nat) : LOrc := fun _ _ _ _ => none
noncomputable def F34 (k : Nat) (v : mi34.den) : Option mo34.den := runF TI (O60 k) (L34 k) c34 mi34 mo34 v
theorem lk34 (k : Nat) : LinksOK Tryz.prog 12 (L34 k) c34 := (And.intro True.intro (And.intro (And.intro True.intro (And.intro (And.intro True.intro True.intro) True.intro)) (And.intro True.intro True.intro)))
theorem fn34 (k : Nat) (args : List AV) (x : mi34.den) (r : mo34.den) (h1 : args.length = mi34.items.length) (h2 : mi34.dec (Th.start args) = some x) (h3 : F34 k x = some r) : CallOK Tryz.prog 34 args (ansOf (outL mo34.items r)) :=
  call_of hm hT (ok_O60 k) (fn := Tryz.f34) (c := c34) Tryz.func34 rfl rfl rfl (lk34 k) rfl (by decide) rfl h1 h2 h3
noncomputable def O34 (k : Nat) : Orc := fun R f args K => bif Nat.beq f 34 then callF mi34 mo34 (F34 k) args K else O60 k R f args K
theorem ok_O34 (k : Nat) : OrcOK (O34 k) (CallOK Tryz.prog) := orc_add (fn34 k) (ok_O60 k)
noncomputable def c73 : Code := Tryz.f73.body.getD .skip
noncomputable def mi73 : Msk := ⟨[(.tmp 0, .val (.int .u64)), (.tmp 1, .val (.int .i64))], []⟩
noncomputable def mo73 : Msk := ⟨[(.tmp 4, .val .str), (.tmp 5, .val (.int .i64))], []⟩
noncomputable def L73_5 (k : Nat) : LOrc := fun _ _ _ _ => none
noncomputable def b73_5 : Code := (findLoop 5 c73).getD .skip
noncomputable def m73_5 : Msk := ⟨[(.tmp 0, .val (.int .u64)), (.tmp 6, .row false (.int .u8)), (.tmp 7, .val (.int .i64))], []⟩
noncomputable def x73_5 : List (X × Msk) := [(.exit 0, ⟨[(.tmp 0, .val (.int .u64)), (.tmp 6, .row false (.int .u8))], []⟩)]
noncomputable def F73_5 (k : Nat) : Nat → m73_5.den → Option (denE x73_5)
  | 0, _ => none
  | j + 1, v => round TI (O34 k) (L73_5 k) b73_5 m73_5 x73_5 (F73_5 k j) v
theorem lk73_5_ (k : Nat) : LinksOK Tryz.prog 35 (L73_5 k) b73_5 := (And.intro (And.intro True.intro (And.intro True.intro True.intro)) (And.intro (And.intro True.intro True.intro) True.intro))
noncomputable def L73 (k : Nat) : LOrc := fun R lk s K => match lk with
  | .loop r => bif Nat.beq r 5 then link m73_5 x73_5 (F73_5 k k) s K else none
  | .label l => none
theorem lk_L73_5 (k : Nat) : LoopOK Tryz.prog 35 (L73 k) b73_5 := loopOK_of hm hT (ok_O34 k) (fun _ _ _ h => h) rfl (lk73_5_ k) rfl rfl (F := F73_5 k) (fun _ => rfl) (fun _ _ => rfl) (n := k) fun _ _ _ => rfl
noncomputable def F73 (k : Nat) (v : mi73.den) : Option mo73.den := runF TI (O34 k) (L73 k) c73 mi73 mo73 v
theorem lk73 (k : Nat) : LinksOK Tryz.prog 35 (L73 k) c73 := (And.intro True.intro (And.intro (And.intro True.intro (And.intro (And.intro True.intro True.intro) True.intro)) (And.intro True.intro (And.intro (And.intro True.intro (lk_L73_5 k)) (And.intro (And.intro True.intro (And.intro (And.intro True.intro True.intro) True.intro)) (And.intro True.intro True.intro))))))
theorem fn73 (k : Nat) (args : List AV) (x : mi73.den) (r : mo73.den) (h1 : args.length = mi73.items.length) (h2 : mi73.dec (Th.start args) = some x) (h3 : F73 k x = some r) : CallOK Tryz.prog 73 args (ansOf (outL mo73.items r)) :=
  call_of hm hT (ok_O34 k) (fn := Tryz.f73) (c := c73) Tryz.func73 rfl rfl rfl (lk73 k) rfl (by decide) rfl h1 h2 h3
noncomputable def O73 (k : Nat) : Orc := fun R f args K => bif Nat.beq f 73 then callF mi73 mo73 (F73 k) args K else O34 k R f args K
theorem ok_O73 (k : Nat) : OrcOK (O73 k) (CallOK Tryz.prog) := orc_add (fn73 k) (ok_O34 k)
noncomputable def c35 : Code := Tryz.f35.body.getD .skip
noncomputable def mi35 : Msk := ⟨[(.tmp 0, .val (.st (.cons (.int .i64) (.cons .str (.cons (.int .u64) (.cons (.int .u32) (.cons .str (.cons .str .nil))))))))], []⟩
noncomputable def mo35 : Msk := ⟨[(.tmp 2, .row false (.st (.cons (.int .i64) (.cons .str .nil))))], []⟩
noncomputable def L35 (k : Nat) : LOrc := fun _ _ _ _ => none
noncomputable def F35 (k : Nat) (v : mi35.den) : Option mo35.den := runF TI (O73 k) (L35 k) c35 mi35 mo35 v
theorem lk35 (k : Nat) : LinksOK Tryz.prog 57 (L35 k) c35 := (And.intro True.intro (And.intro True.intro (And.intro True.intro (And.intro (And.intro True.intro (And.intro (And.intro True.intro True.intro) True.intro)) (And.intro True.intro (And.intro True.intro (And.intro (And.intro True.intro (And.intro True.intro True.intro)) (And.intro True.intro True.intro))))))))
theorem fn35 (k : Nat) (args : List AV) (x : mi35.den) (r : mo35.den) (h1 : args.length = mi35.items.length) (h2 : mi35.dec (Th.start args) = some x) (h3 : F35 k x = some r) : CallOK Tryz.prog 35 args (ansOf (outL mo35.items r)) :=
  call_of hm hT (ok_O73 k) (fn := Tryz.f35) (c := c35) Tryz.func35 rfl rfl rfl (lk35 k) rfl (by decide) rfl h1 h2 h3
noncomputable def O35 (k : Nat) : Orc := fun R f args K => bif Nat.beq f 35 then callF mi35 mo35 (F35 k) args K else O73 k R f args K
theorem ok_O35 (k : Nat) : OrcOK (O35 k) (CallOK Tryz.prog) := orc_add (fn35 k) (ok_O73 k)
noncomputable def c75 : Code := Tryz.f75.body.getD .skip
noncomputable def mi75 : Msk := ⟨[(.tmp 0, .val (.int .i64))], []⟩
noncomputable def mo75 : Msk := ⟨[(.res 2, .val (.st (.cons (.int .i64) (.cons (.int .i64) (.cons (.int .i64) .nil))))), (.tmp 3, .val .bool)], []⟩
noncomputable def L75_2 (k : Nat) : LOrc := fun _ _ _ _ => none
noncomputable def b75_2 : Code := (findLoop 2 c75).getD .skip
noncomputable def m75_2 : Msk := ⟨[(.tmp 0, .val (.int .i64)), (.tmp 2, .ptr 2 0), (.tmp 21, .row false (.st (.cons (.int .i64) (.cons (.int .i64) (.cons (.int .i64) .nil))))), (.tmp 22, .val (.int .i64)), (.tmp 23, .val (.int .i64)), (.cell 2 0, .val (.int .i64)), (.cell 2 1, .val (.int .i64)), (.cell 2 2, .val (.int .i64))], [(2, 3)]⟩
noncomputable def x75_2 : List (X × Msk) := [(.exit 0, ⟨[(.tmp 2, .ptr 2 0), (.cell 2 0, .val (.int .i64)), (.cell 2 1, .val (.int .i64)), (.cell 2 2, .val (.int .i64))], [(2, 3)]⟩), (.ret, ⟨[(.tmp 2, .ptr 2 0), (.tmp 3, .val .bool), (.cell 2 0, .val (.int .i64)), (.cell 2 1, .val (.int .i64)), (.cell 2 2, .val (.int .i64))], [(2, 3)]⟩)]
noncomputable def F75_2 (k : Nat) : Nat → m75_2.den → Option (denE x75_2)
  | 0, _ => none
  | j + 1, v => round TI (O35 k) (L75_2 k) b75_2 m75_2 x75_2 (F75_2 k j) v
theorem lk75_2_ (k : Nat) : LinksOK Tryz.prog 34 (L75_2 k) b75_2 := (And.intro True.intro (And.intro (And.intro True.intro True.intro) (And.intro (And.intro True.intro (And.intro True.intro (And.intro (And.intro True.intro True.intro) True.intro))) True.intro)))
noncomputable def L75 (k : Nat) : LOrc := fun R lk s K => match lk with
  | .loop r => bif Nat.beq r 2 then link m75_2 x75_2 (F75_2 k k) s K else none
  | .label l => none
theorem lk_L75_2 (k : Nat) : LoopOK Tryz.prog 34 (L75 k) b75_2 := loopOK_of hm hT (ok_O35 k) (fun _ _ _ h => h) rfl (lk75_2_ k) rfl rfl (F := F75_2 k) (fun _ => rfl) (fun _ _ => rfl) (n := k) fun _ _ _ => rfl
noncomputable def F75 (k : Nat) (v : mi75.den) : Option mo75.den := runF TI (O35 k) (L75 k) c75 mi75 mo75 v
theorem lk75 (k : Nat) : LinksOK Tryz.prog 34 (L75 k) c75 := (And.intro True.intro (And.intro (And.intro True.intro (lk_L75_2 k)) (And.intro True.intro True.intro)))
theorem fn75 (k : Nat) (args : List AV) (x : mi75.den) (r : mo75.den) (h1 : args.length = mi75.items.length) (h2 : mi75.dec (Th.start args) = some x) (h3 : F75 k x = some r) : CallOK Tryz.prog 75 args (ansOf (outL mo75.items r)) :=
  call_of hm hT (ok_O35 k) (fn := Tryz.f75) (c := c75) Tryz.func75 rfl rfl rfl (lk75 k) rfl (by decide) rfl h1 h2 h3
noncomputable def O75 (k : Nat) : Orc := fun R f args K => bif Nat.beq f 75 then callF mi75 mo75 (F75 k) args K else O35 k R f args K
theorem ok_O75 (k : Nat) : OrcOK (O75 k) (CallOK Tryz.prog) := orc_add (fn75 k) (ok_O35 k)
noncomputable def c76 : Code := Tryz.f76.body.getD .skip
noncomputable def mi76 : Msk := ⟨[(.tmp 0, .val (.st (.cons (.int .i64) (.cons (.int .i64) (.cons (.int .i64) .nil)))))], []⟩
noncomputable def mo76 : List Msk := [⟨[(.tmp 2, .val (.ifc 153 (.st (.cons (.int .i64) (.cons (.int .i64) .nil)))))], []⟩, ⟨[(.tmp 2, .val (.ifc 155 (.st (.cons (.int .i64) .nil))))], []⟩]
noncomputable def L76 (k : Nat) : LOrc := fun _ _ _ _ => none
noncomputable def F76 (k : Nat) (v : mi76.den) : Option (denA mo76) := runA TI (O75 k) (L76 k) c76 mi76 mo76 v
theorem lk76 (k : Nat) : LinksOK Tryz.prog 22 (L76 k) c76 := (And.intro True.intro (And.intro (And.intro True.intro (And.intro (And.intro True.intro (And.intro True.intro True.intro)) (And.intro (And.intro True.intro True.intro) (And.intro True.intro (And.intro (And.intro True.intro True.intro) True.intro))))) (And.intro True.intro True.intro)))
theorem fn76 (k : Nat) (args : List AV) (x : mi76.den) (r : (denA mo76)) (h1 : args.length = mi76.items.length) (h2 : mi76.dec (Th.start args) = some x) (h3 : F76 k x = some r) : CallOK Tryz.prog 76 args (valA mo76 r) :=
  call_ofA hm hT (ok_O75 k) (fn := Tryz.f76) (c := c76) Tryz.func76 rfl rfl rfl (lk76 k) rfl (by decide) rfl h1 h2 h3
noncomputable def O76 (k : Nat) : Orc := fun R f args K => bif Nat.beq f 76 then callA mi76 mo76 (F76 k) args K else O75 k R f args K
theorem ok_O76 (k : Nat) : OrcOK (O76 k) (CallOK Tryz.prog) := orc_addA (fn76 k) (ok_O75 k)
noncomputable def c122 : Code := Tryz.f122.body.getD .skip
noncomputable def mi122 : Msk := ⟨[(.tmp 0, .val (.st (.cons (.int .i64) (.cons (.int .i64) .nil)))), (.tmp 1, .val (.int .i64))], []⟩
noncomputable def mo122 : Msk := ⟨[(.tmp 4, .val .bool)], []⟩
noncomputable def L122 (k : Nat) : LOrc := fun _ _ _ _ => none
noncomputable def F122 (k : Nat) (v : mi122.den) : Option mo122.den := runF TI (O76 k) (L122 k) c122 mi122 mo122 v
theorem lk122 (k : Nat) : LinksOK Tryz.prog 13 (L122 k) c122 := (And.intro True.intro (And.intro True.intro True.intro))
theorem fn122 (k : Nat) (args : List AV) (x : mi122.den) (r : mo122.den) (h1 : args.length = mi122.items.length) (h2 : mi122.dec (Th.start args) = some x) (h3 : F122 k x = some r) : CallOK Tryz.prog 122 args (ansOf (outL mo122.items r)) :=
  call_of hm hT (ok_O76 k) (fn := Tryz.f122) (c := c122) Tryz.func122 rfl rfl rfl (lk122 k) rfl (by decide) rfl h1 h2 h3
noncomputable def O122 (k : Nat) : Orc := fun R f args K => bif Nat.beq f 122 then callF mi122 mo122 (F122 k) args K else O76 k R f args K
theorem ok_O122 (k : Nat) : OrcOK (O122 k) (CallOK Tryz.prog) := orc_add (fn122 k) (ok_O76 k)
noncomputable def c124 : Code := Tryz.f124.body.getD .skip
noncomputable def mi124 : Msk := ⟨[(.tmp 0, .val (.st (.cons (.int .i64) .nil))), (.tmp 1, .val (.int .i64))], []⟩
noncomputable def mo124 : Msk := ⟨[(.tmp 4, .val .bool)], []⟩
noncomputable def L124 (k : Nat) : LOrc := fun _ _ _ _ => none
noncomputable def F124 (k : Nat) (v : mi124.den) : Option mo124.den := runF TI (O122 k) (L124 k) c124 mi124 mo124 v
theorem lk124 (k : Nat) : LinksOK Tryz.prog 9 (L124 k) c124 := (And.intro True.intro (And.intro True.intro True.intro))
theorem fn124 (k : Nat) (args : List AV) (x : mi124.den) (r : mo124.den) (h1 : args.length = mi124.items.length) (h2 : mi124.dec (Th.start args) = some x) (h3 : F124 k x = some r) : CallOK Tryz.prog 124 args (ansOf (outL mo124.items r)) :=
  call_of hm hT (ok_O122 k) (fn := Tryz.f124) (c := c124) Tryz.func124 rfl rfl rfl (lk124 k) rfl (by decide) rfl h1 h2 h3
noncomputable def O124 (k : Nat) : Orc := fun R f args K => bif Nat.beq f 124 then callF mi124 mo124 (F124 k) args K else O122 k R f args K
theorem ok_O124 (k : Nat) : OrcOK (O124 k) (CallOK Tryz.prog) := orc_add (fn124 k) (ok_O122 k)
noncomputable def F92 (k : Nat) (v : (Int × Int × Int × Unit) × List UInt8 × Unit) : Option (Bool × Unit) := sel (decide (v.2.1.length ≤ 9223372036854775807)) (ocall (α := Bool × Unit) (F96 k ((v.2.1, ()) : List UInt8 × Unit)) fun r => some (Signs.signsOf v.1.2.1 r.1 v.2.1, ())) none
noncomputable def O92 (k : Nat) : Orc := fun R f args K => bif Nat.beq f 92 then (match args with | [.agg [.int .i64 a, .int .i64 b, .int .i64 c], .str s] => ocall (F92 k ((a, b, c, ()), s, ())) fun r => K (.bool r.1) | _ => none) else O124 k R f args K
theorem ok_O92 (k : Nat) : OrcOK (O92 k) (CallOK Tryz.prog) := by
  intro R f args K r h
  unfold O92 at h
  cases hb : Nat.beq f 92 with
  | false => rw [hb] at h; exact ok_O124 k R f args K r h
  | true =>
    rw [hb] at h
    rw [Nat.eq_of_beq_eq_true hb]
    simp only [cond_true] at h
    split at h
    · rename_i a b c s
      obtain ⟨y, hy, h⟩ := obind_some h
      unfold F92 at hy
      by_cases hl : s.length ≤ 9223372036854775807
      · rw [sel_pos hl] at hy
        obtain ⟨d, hd, hy⟩ := obind_some hy
        cases hy
        exact ⟨_, Signs.fn92 a b c s hl d.1 (fn96 k [.str s] ((s, ()) : List UInt8 × Unit) d rfl rfl hd), h⟩
      · rw [sel_neg hl] at hy; cases hy
    · cases h
noncomputable def c61 : Code := Tryz.f61.body.getD .skip
noncomputable def mi61 : Msk := ⟨[(.tmp 0, .val (.int .i64)), (.tmp 1, .val .str)], []⟩
noncomputable def mo61 : Msk := ⟨[(.tmp 4, .val .bool)], []⟩
noncomputable def L61 (k : Nat) : LOrc := fun _ _ _ _ => none
noncomputable def F61 (k : Nat) (v : mi61.den) : Option mo61.den := runF TI (O92 k) (L61 k) c61 mi61 mo61 v
theorem lk61 (k : Nat) : LinksOK Tryz.prog 25 (L61 k) c61 := (And.intro True.intro (And.intro True.intro (And.intro True.intro True.intro)))
theorem fn61 (k : Nat) (args : List AV) (x : mi61.den) (r : mo61.den) (h1 : args.length = mi61.items.length) (h2 : mi61.dec (Th.start args) = some x) (h3 : F61 k x = some r) : CallOK Tryz.prog 61 args (ansOf (outL mo61.items r)) :=
  call_of hm hT (ok_O92 k) (fn := Tryz.f61) (c := c61) Tryz.func61 rfl rfl rfl (lk61 k) rfl (by decide) rfl h1 h2 h3
noncomputable def O61 (k : Nat) : Orc := fun R f args K => bif Nat.beq f 61 then callF mi61 mo61 (F61 k) args K else O92 k R f args K
theorem ok_O61 (k : Nat) : OrcOK (O61 k) (CallOK Tryz.prog) := orc_add (fn61 k) (ok_O92 k)
noncomputable def c74 : Code := Tryz.f74.body.getD .skip
noncomputable def mi74 : Msk := ⟨[(.tmp 0, .val .str)], []⟩
noncomputable def mo74 : Msk := ⟨[(.tmp 2, .val .bool)], []⟩
noncomputable def L74 (k : Nat) : LOrc := fun _ _ _ _ => none
noncomputable def F74 (k : Nat) (v : mi74.den) : Option mo74.den := runF TI (O61 k) (L74 k) c74 mi74 mo74 v
theorem lk74 (k : Nat) : LinksOK Tryz.prog 12 (L74 k) c74 := (And.intro True.intro (And.intro (And.intro True.intro (And.intro (And.intro True.intro (And.intro True.intro (And.intro True.intro (And.intro True.intro (And.intro True.intro (And.intro True.intro (And.intro True.intro (And.intro True.intro (And.intro True.intro (And.intro True.intro (And.intro True.intro (And.intro True.intro True.intro)))))))))))) (And.intro (And.intro True.intro True.intro) True.intro))) (And.intro True.intro True.intro)))
theorem fn74 (k : Nat) (args : List AV) (x : mi74.den) (r : mo74.den) (h1 : args.length = mi74.items.length) (h2 : mi74.dec (Th.start args) = some x) (h3 : F74 k x = some r) : CallOK Tryz.prog 74 args (ansOf (outL mo74.items r)) :=
  call_of hm hT (ok_O61 k) (fn := Tryz.f74) (c := c74) Tryz.func74 rfl rfl rfl (lk74 k) rfl (by decide) rfl h1 h2 h3
noncomputable def O74 (k : Nat) : Orc := fun R f args K => bif Nat.beq f 74 then callF mi74 mo74 (F74 k) args K else O61 k R f args K
theorem ok_O74 (k : Nat) : OrcOK (O74 k) (CallOK Tryz.prog) := orc_add (fn74 k) (ok_O61 k)
noncomputable def c36 : Code := Tryz.f36.body.getD .skip
noncomputable def mi36 : Msk := ⟨[(.tmp 0, .val (.st (.cons .str (.cons (.slice (.st (.cons (.int .i64) (.cons .str .nil)))) .nil))))], []⟩
noncomputable def mo36 : Msk := ⟨[(.tmp 2, .val .bool)], []⟩
noncomputable def L36_3 (k : Nat) : LOrc := fun _ _ _ _ => none
noncomputable def b36_3 : Code := (findLoop 3 c36).getD .skip
noncomputable def m36_3 : Msk := ⟨[(.tmp 1, .ptr 1 0), (.tmp 3, .val (.int .i64)), (.tmp 7, .val (.slice (.st (.cons (.int .i64) (.cons .str .nil))))), (.tmp 8, .val (.int .i64)), (.tmp 9, .val (.int .i64)), (.cell 1 0, .val .str), (.cell 1 1, .val (.slice (.st (.cons (.int .i64) (.cons .str .nil)))))], [(1, 2)]⟩
noncomputable def x36_3 : List (X × Msk) := [(.exit 0, ⟨[(.tmp 1, .ptr 1 0), (.cell 1 0, .val .str), (.cell 1 1, .val (.slice (.st (.cons (.int .i64) (.cons .str .nil)))))], [(1, 2)]⟩), (.ret, ⟨[(.tmp 2, .val .bool)], []⟩)]
noncomputable def F36_3 (k : Nat) : Nat → m36_3.den → Option (denE x36_3)
  | 0, _ => none
  | j + 1, v => round TI (O74 k) (L36_3 k) b36_3 m36_3 x36_3 (F36_3 k j) v
theorem lk36_3_ (k : Nat) : LinksOK Tryz.prog 37 (L36_3 k) b36_3 := (And.intro True.intro (And.intro (And.intro True.intro True.intro) (And.intro (And.intro True.intro (And.intro (And.intro True.intro (And.intro (And.intro True.intro True.intro) True.intro)) True.intro)) True.intro)))
noncomputable def L36 (k : Nat) : LOrc := fun R lk s K => match lk with
  | .loop r => bif Nat.beq r 3 then link m36_3 x36_3 (F36_3 k k) s K else none
  | .label l => none
theorem lk_L36_3 (k : Nat) : LoopOK Tryz.prog 37 (L36 k) b36_3 := loopOK_of hm hT (ok_O74 k) (fun _ _ _ h => h) rfl (lk36_3_ k) rfl rfl (F := F36_3 k) (fun _ => rfl) (fun _ _ => rfl) (n := k) fun _ _ _ => rfl
noncomputable def F36 (k : Nat) (v : mi36.den) : Option mo36.den := runF TI (O74 k) (L36 k) c36 mi36 mo36 v
theorem lk36 (k : Nat) : LinksOK Tryz.prog 37 (L36 k) c36 := (And.intro True.intro (And.intro True.intro (And.intro (And.intro True.intro (lk_L36_3 k)) (And.intro True.intro True.intro))))
theorem fn36 (k : Nat) (args : List AV) (x : mi36.den) (r : mo36.den) (h1 : args.length = mi36.items.length) (h2 : mi36.dec (Th.start args) = some x) (h3 : F36 k x = some r) : CallOK Tryz.prog 36 args (ansOf (outL mo36.items r)) :=
  call_of hm hT (ok_O74 k) (fn := Tryz.f36) (c := c36) Tryz.func36 rfl rfl rfl (lk36 k) rfl (by decide) rfl h1 h2 h3
noncomputable def O36 (k : Nat) : Orc := fun R f args K => bif Nat.beq f 36 then callF mi36 mo36 (F36 k) args K else O74 k R f args K
theorem ok_O36 (k : Nat) : OrcOK (O36 k) (CallOK Tryz.prog) := orc_add (fn36 k) (ok_O74 k)
noncomputable def c33 : Code := Tryz.f33.body.getD .skip
noncomputable def mi33 : Msk := ⟨[(.tmp 0, .val (.st (.cons (.int .i64) (.cons .str (.cons (.int .u64) (.cons (.int .u32) (.cons .str (.cons .str .nil))))))))], []⟩
noncomputable def mo33 : Msk := ⟨[(.tmp 2, .val .bool)], []⟩
noncomputable def L33 (k : Nat) : LOrc := fun _ _ _ _ => none
noncomputable def F33 (k : Nat) (v : mi33.den) : Option mo33.den := runF TI (O36 k) (L33 k) c33 mi33 mo33 v
theorem lk33 (k : Nat) : LinksOK Tryz.prog 30 (L33 k) c33 := (And.intro True.intro (And.intro (And.intro True.intro (And.intro (And.intro True.intro (And.intro (And.intro True.intro True.intro) True.intro)) (And.intro True.intro (And.intro (And.intro True.intro True.intro) True.intro)))) (And.intro True.intro True.intro)))
theorem fn33 (k : Nat) (args : List AV) (x : mi33.den) (r : mo33.den) (h1 : args.length = mi33.items.length) (h2 : mi33.dec (Th.start args) = some x) (h3 : F33 k x = some r) : CallOK Tryz.prog 33 args (ansOf (outL mo33.items r)) :=
  call_of hm hT (ok_O36 k) (fn := Tryz.f33) (c := c33) Tryz.func33 rfl rfl rfl (lk33 k) rfl (by decide) rfl h1 h2 h3
noncomputable def O33 (k : Nat) : Orc := fun R f args K => bif Nat.beq f 33 then callF mi33 mo33 (F33 k) args K else O36 k R f args K
theorem ok_O33 (k : Nat) : OrcOK (O33 k) (CallOK Tryz.prog) := orc_add (fn33 k) (ok_O36 k)
noncomputable def c16 : Code := Tryz.f16.body.getD .skip
noncomputable def mi16 : Msk := ⟨[(.tmp 0, .val (.st (.cons (.int .i64) (.cons .str (.cons (.int .u64) (.cons (.int .u32) (.cons .str (.cons .str .nil))))))))], []⟩
noncomputable def mo16 : Msk := ⟨[(.res 2, .val (.st (.cons .str (.cons (.slice (.st (.cons (.int .i64) (.cons .str .nil)))) .nil)))), (.tmp 3, .val (.int .i64))], []⟩
noncomputable def L16 (k : Nat) : LOrc := fun _ _ _ _ => none
noncomputable def F16 (k : Nat) (v : mi16.den) : Option mo16.den := runF TI (O33 k) (L16 k) c16 mi16 mo16 v
theorem lk16 (k : Nat) : LinksOK Tryz.prog 14 (L16 k) c16 := (And.intro True.intro (And.intro (And.intro True.intro (And.intro (And.intro True.intro True.intro) True.intro)) (And.intro True.intro True.intro)))
theorem fn16 (k : Nat) (args : List AV) (x : mi16.den) (r : mo16.den) (h1 : args.length = mi16.items.length) (h2 : mi16.dec (Th.start args) = some x) (h3 : F16 k x = some r) : CallOK Tryz.prog 16 args (ansOf (outL mo16.items r)) :=
  call_of hm hT (ok_O33 k) (fn := Tryz.f16) (c := c16) Tryz.func16 rfl rfl rfl (lk16 k) rfl (by decide) rfl h1 h2 h3
noncomputable def O16 (k : Nat) : Orc := fun R f args K => bif Nat.beq f 16 then callF mi16 mo16 (F16 k) args K else O33 k R f args K
theorem ok_O16 (k : Nat) : OrcOK (O16 k) (CallOK Tryz.prog) := orc_add (fn16 k) (ok_O33 k)
noncomputable def c121 : Code := Tryz.f121.body.getD .skip
noncomputable def mi121 : Msk := ⟨[(.tmp 0, .val (.st (.cons (.int .i64) (.cons (.int .i64) .nil))))], []⟩
noncomputable def mo121 : Msk := ⟨[(.tmp 2, .val (.int .i64))], []⟩
noncomputable def L121 (k : Nat) : LOrc := fun _ _ _ _ => none
noncomputable def F121 (k : Nat) (v : mi121.den) : Option mo121.den := runF TI (O16 k) (L121 k) c121 mi121 mo121 v
theorem lk121 (k : Nat) : LinksOK Tryz.prog 5 (L121 k) c121 := (And.intro True.intro (And.intro True.intro True.intro))
theorem fn121 (k : Nat) (args : List AV) (x : mi121.den) (r : mo121.den) (h1 : args.length = mi121.items.length) (h2 : mi121.dec (Th.start args) = some x) (h3 : F121 k x = some r) : CallOK Tryz.prog 121 args (ansOf (outL mo121.items r)) :=
  call_of hm hT (ok_O16 k) (fn := Tryz.f121) (c := c121) Tryz.func121 rfl rfl rfl (lk121 k) rfl (by decide) rfl h1 h2 h3
noncomputable def O121 (k : Nat) : Orc := fun R f args K => bif Nat.beq f 121 then callF mi121 mo121 (F121 k) args K else O16 k R f args K
theorem ok_O121 (k : Nat) : OrcOK (O121 k) (CallOK Tryz.prog) := orc_add (fn121 k) (ok_O16 k)
noncomputable def c123 : Code := Tryz.f123.body.getD .skip
noncomputable def mi123 : Msk := ⟨[(.tmp 0, .val (.st (.cons (.int .i64) .nil)))], []⟩
noncomputable def mo123 : Msk := ⟨[(.tmp 2, .val (.int .i64))], []⟩
noncomputable def L123 (k : Nat) : LOrc := fun _ _ _ _ => none
noncomputable def F123 (k : Nat) (v : mi123.den) : Option mo123.den := runF TI (O121 k) (L123 k) c123 mi123 mo123 v
theorem lk123 (k : Nat) : LinksOK Tryz.prog 3 (L123 k) c123 := (And.intro True.intro (And.intro True.intro True.intro))
theorem fn123 (k : Nat) (args : List AV) (x : mi123.den) (r : mo123.den) (h1 : args.length = mi123.items.length) (h2 : mi123.dec (Th.start args) = some x) (h3 : F123 k x = some r) : CallOK Tryz.prog 123 args (ansOf (outL mo123.items r)) :=
  call_of hm hT (ok_O121 k) (fn := Tryz.f123) (c := c123) Tryz.func123 rfl rfl rfl (lk123 k) rfl (by decide) rfl h1 h2 h3
noncomputable def O123 (k : Nat) : Orc := fun R f args K => bif Nat.beq f 123 then callF mi123 mo123 (F123 k) args K else O121 k R f args K
theorem ok_O123 (k : Nat) : OrcOK (O123 k) (CallOK Tryz.prog) := orc_add (fn123 k) (ok_O121 k)
noncomputable def c37 : Code := Tryz.f37.body.getD .skip
noncomputable def mi37 : Msk := ⟨[(.tmp 0, .val (.int .i64)), (.tmp 1, .val .str)], []⟩
noncomputable def mo37 : Msk := ⟨[(.tmp 4, .row false (.int .u8)), (.tmp 5, .val (.int .i64))], []⟩
noncomputable def L37 (k : Nat) : LOrc := fun _ _ _ _ => none
noncomputable def F37 (k : Nat) (v : mi37.den) : Option mo37.den := runF TI (O123 k) (L37 k) c37 mi37 mo37 v
theorem lk37 (k : Nat) : LinksOK Tryz.prog 42 (L37 k) c37 := (And.intro True.intro (And.intro True.intro (And.intro (And.intro True.intro (And.intro (And.intro True.intro True.intro) (And.intro True.intro (And.intro (And.intro True.intro True.intro) True.intro)))) (And.intro (And.intro True.intro (And.intro True.intro (And.intro (And.intro True.intro True.intro) True.intro))) (And.intro True.intro True.intro)))))
theorem fn37 (k : Nat) (args : List AV) (x : mi37.den) (r : mo37.den) (h1 : args.length = mi37.items.length) (h2 : mi37.dec (Th.start args) = some x) (h3 : F37 k x = some r) : CallOK Tryz.prog 37 args (ansOf (outL mo37.items r)) :=
  call_of hm hT (ok_O123 k) (fn := Tryz.f37) (c := c37) Tryz.func37 rfl rfl rfl (lk37 k) rfl (by decide) rfl h1 h2 h3
noncomputable def O37 (k : Nat) : Orc := fun R f args K => bif Nat.beq f 37 then callF mi37 mo37 (F37 k) args K else O123 k R f args K
theorem ok_O37 (k : Nat) : OrcOK (O37 k) (CallOK Tryz.prog) := orc_add (fn37 k) (ok_O123 k)
noncomputable def c100 : Code := Tryz.f100.body.getD .skip
noncomputable def mi100 : Msk := ⟨[(.tmp 0, .ptr 900 0), (.tmp 1, .val (.int .i64)), (.cell 900 0, .val (.int .u64)), (.cell 900 1, .val (.int .u64))], [(900, 2)]⟩
noncomputable def mo100 : List Msk := [⟨[(.tmp 4, .ptr 900 0), (.tmp 5, .val (.int .u64)), (.cell 900 0, .val (.int .u64)), (.cell 900 1, .val (.int .u64))], [(900, 2)]⟩, ⟨[(.tmp 4, .ptr 900 1), (.tmp 5, .val (.int .u64)), (.cell 900 0, .val (.int .u64)), (.cell 900 1, .val (.int .u64))], [(900, 2)]⟩]
noncomputable def L100 (k : Nat) : LOrc := fun _ _ _ _ => none
noncomputable def F100 (k : Nat) (v : mi100.den) : Option (denA mo100) := runA TI (O37 k) (L100 k) c100 mi100 mo100 v
theorem lk100 (k : Nat) : LinksOK Tryz.prog 21 (L100 k) c100 := (And.intro True.intro (And.intro (And.intro True.intro (And.intro (And.intro True.intro True.intro) True.intro)) (And.intro True.intro True.intro)))
theorem fn100 (k : Nat) (vs cs : List AV) (x : mi100.den) (r : denA mo100) (h1 : vs.length = 2) (h2 : mi100.dec (startL vs cs) = some x) (h3 : F100 k x = some r) : CallOK Tryz.prog 100 (vs ++ [.lent cs]) (valB 2 mo100 r) :=
  call_ofL hm hT (ok_O37 k) (fn := Tryz.f100) (c := c100) Tryz.func100 rfl rfl rfl (lk100 k) rfl (by decide) (by decide) rfl h1 h2 h3
noncomputable def O100 (k : Nat) : Orc := fun R f args K => bif Nat.beq f 100 then callB mi100 2 2 mo100 (F100 k) args K else O37 k R f args K
theorem ok_O100 (k : Nat) : OrcOK (O100 k) (CallOK Tryz.prog) := orc_addL (fn100 k) (ok_O37 k)
noncomputable def c101 : Code := Tryz.f101.body.getD .skip
noncomputable def mi101 : Msk := ⟨[(.tmp 0, .val (.st (.cons (.int .u64) (.cons (.int .u64) .nil)))), (.tmp 1, .val (.int .i64))], []⟩
noncomputable def mo101 : Msk := ⟨[(.tmp 4, .val .bool)], []⟩
noncomputable def L101 (k : Nat) : LOrc := fun _ _ _ _ => none
noncomputable def F101 (k : Nat) (v : mi101.den) : Option mo101.den := runF TI (O100 k) (L101 k) c101 mi101 mo101 v
theorem lk101 (k : Nat) : LinksOK Tryz.prog 18 (L101 k) c101 := (And.intro True.intro (And.intro True.intro (And.intro True.intro True.intro)))
theorem fn101 (k : Nat) (args : List AV) (x : mi101.den) (r : mo101.den) (h1 : args.length = mi101.items.length) (h2 : mi101.dec (Th.start args) = some x) (h3 : F101 k x = some r) : CallOK Tryz.prog 101 args (ansOf (outL mo101.items r)) :=
  call_of hm hT (ok_O100 k) (fn := Tryz.f101) (c := c101) Tryz.func101 rfl rfl rfl (lk101 k) rfl (by decide) rfl h1 h2 h3
noncomputable def O101 (k : Nat) : Orc := fun R f args K => bif Nat.beq f 101 then callF mi101 mo101 (F101 k) args K else O100 k R f args K
theorem ok_O101 (k : Nat) : OrcOK (O101 k) (CallOK Tryz.prog) := orc_add (fn101 k) (ok_O100 k)
noncomputable def c78 : Code := Tryz.f78.body.getD .skip
noncomputable def mi78 : Msk := ⟨[(.tmp 0, .val (.st (.cons (.int .u64) (.cons (.int .u64) .nil))))], []⟩
noncomputable def mo78 : Msk := ⟨[(.tmp 2, .val .bool)], []⟩
noncomputable def L78 (k : Nat) : LOrc := fun _ _ _ _ => none
noncomputable def F78 (k : Nat) (v : mi78.den) : Option mo78.den := runF TI (O101 k) (L78 k) c78 mi78 mo78 v
theorem lk78 (k : Nat) : LinksOK Tryz.prog 14 (L78 k) c78 := (And.intro True.intro (And.intro True.intro True.intro))
theorem fn78 (k : Nat) (args : List AV) (x : mi78.den) (r : mo78.den) (h1 : args.length = mi78.items.length) (h2 : mi78.dec (Th.start args) = some x) (h3 : F78 k x = some r) : CallOK Tryz.prog 78 args (ansOf (outL mo78.items r)) :=
  call_of hm hT (ok_O101 k) (fn := Tryz.f78) (c := c78) Tryz.func78 rfl rfl rfl (lk78 k) rfl (by decide) rfl h1 h2 h3
noncomputable def O78 (k : Nat) : Orc := fun R f args K => bif Nat.beq f 78 then callF mi78 mo78 (F78 k) args K else O101 k R f args K
theorem ok_O78 (k : Nat) : OrcOK (O78 k) (CallOK Tryz.prog) := orc_add (fn78 k) (ok_O101 k)
noncomputable def c99 : Code := Tryz.f99.body.getD .skip
noncomputable def mi99 : Msk := ⟨[(.tmp 0, .val (.int .i64))], []⟩
noncomputable def mo99 : Msk := ⟨[(.tmp 2, .val .bool)], []⟩
noncomputable def L99 (k : Nat) : LOrc := fun _ _ _ _ => none
noncomputable def F99 (k : Nat) (v : mi99.den) : Option mo99.den := runF TI (O78 k) (L99 k) c99 mi99 mo99 v
theorem lk99 (k : Nat) : LinksOK Tryz.prog 13 (L99 k) c99 := (And.intro True.intro (And.intro True.intro True.intro))
theorem fn99 (k : Nat) (args : List AV) (x : mi99.den) (r : mo99.den) (h1 : args.length = mi99.items.length) (h2 : mi99.dec (Th.start args) = some x) (h3 : F99 k x = some r) : CallOK Tryz.prog 99 args (ansOf (outL mo99.items r)) :=
  call_of hm hT (ok_O78 k) (fn := Tryz.f99) (c := c99) Tryz.func99 rfl rfl rfl (lk99 k) rfl (by decide) rfl h1 h2 h3
noncomputable def O99 (k : Nat) : Orc := fun R f args K => bif Nat.beq f 99 then callF mi99 mo99 (F99 k) args K else O78 k R f args K
theorem ok_O99 (k : Nat) : OrcOK (O99 k) (CallOK Tryz.prog) := orc_add (fn99 k) (ok_O78 k)
noncomputable def c77 : Code := Tryz.f77.body.getD .skip
noncomputable def mi77 : Msk := ⟨[(.tmp 0, .val (.st (.cons (.int .u64) (.cons (.int .u64) .nil)))), (.tmp 1, .val (.int .i64))], []⟩
noncomputable def mo77 : Msk := ⟨[(.res 4, .val (.st (.cons (.int .u64) (.cons (.int .u64) .nil)))), (.tmp 5, .val (.int .i64))], []⟩
noncomputable def L77 (k : Nat) : LOrc := fun _ _ _ _ => none
noncomputable def F77 (k : Nat) (v : mi77.den) : Option mo77.den := runF TI (O99 k) (L77 k) c77 mi77 mo77 v
theorem lk77 (k : Nat) : LinksOK Tryz.prog 36 (L77 k) c77 := (And.intro True.intro (And.intro (And.intro True.intro (And.intro (And.intro True.intro True.intro) True.intro)) (And.intro True.intro (And.intro True.intro (And.intro (And.intro True.intro (And.intro True.intro True.intro)) (And.intro True.intro True.intro))))))
theorem fn77 (k : Nat) (args : List AV) (x : mi77.den) (r : mo77.den) (h1 : args.length = mi77.items.length) (h2 : mi77.dec (Th.start args) = some x) (h3 : F77 k x = some r) : CallOK Tryz.prog 77 args (ansOf (outL mo77.items r)) :=
  call_of hm hT (ok_O99 k) (fn := Tryz.f77) (c := c77) Tryz.func77 rfl rfl rfl (lk77 k) rfl (by decide) rfl h1 h2 h3
noncomputable def O77 (k : Nat) : Orc := fun R f args K => bif Nat.beq f 77 then callF mi77 mo77 (F77 k) args K else O99 k R f args K
theorem ok_O77 (k : Nat) : OrcOK (O77 k) (CallOK Tryz.prog) := orc_add (fn77 k) (ok_O99 k)
noncomputable def c38 : Code := Tryz.f38.body.getD .skip
noncomputable def mi38 : Msk := ⟨[(.tmp 0, .val (.slice (.int .i64)))], []⟩
noncomputable def mo38 : Msk := ⟨[(.res 2, .val (.st (.cons (.int .u64) (.cons (.int .u64) .nil)))), (.tmp 3, .val (.int .i64))], []⟩
noncomputable def L38_3 (k : Nat) : LOrc := fun _ _ _ _ => none
noncomputable def b38_3 : Code := (findLoop 3 c38).getD .skip
noncomputable def m38_3 : Msk := ⟨[(.tmp 2, .ptr 2 0), (.tmp 4, .ptr 4 0), (.tmp 9, .val (.slice (.int .i64))), (.tmp 10, .val (.int .i64)), (.tmp 11, .val (.int .i64)), (.cell 2 0, .val (.int .u64)), (.cell 2 1, .val (.int .u64)), (.cell 4 0, .val (.int .u64)), (.cell 4 1, .val (.int .u64))], [(2, 2), (4, 2)]⟩
noncomputable def x38_3 : List (X × Msk) := [(.exit 0, ⟨[(.tmp 2, .ptr 2 0), (.tmp 4, .ptr 4 0), (.cell 2 0, .val (.int .u64)), (.cell 2 1, .val (.int .u64)), (.cell 4 0, .val (.int .u64)), (.cell 4 1, .val (.int .u64))], [(2, 2), (4, 2)]⟩), (.ret, ⟨[(.tmp 2, .ptr 2 0), (.tmp 3, .val (.int .i64)), (.cell 2 0, .val (.int .u64)), (.cell 2 1, .val (.int .u64))], [(2, 2)]⟩)]
noncomputable def F38_3 (k : Nat) : Nat → m38_3.den → Option (denE x38_3)
  | 0, _ => none
  | j + 1, v => round TI (O77 k) (L38_3 k) b38_3 m38_3 x38_3 (F38_3 k j) v
theorem lk38_3_ (k : Nat) : LinksOK Tryz.prog 28 (L38_3 k) b38_3 := (And.intro True.intro (And.intro (And.intro True.intro True.intro) (And.intro (And.intro True.intro (And.intro True.intro (And.intro (And.intro True.intro (And.intro (And.intro True.intro True.intro) True.intro)) True.intro))) True.intro)))
noncomputable def L38 (k : Nat) : LOrc := fun R lk s K => match lk with
  | .loop r => bif Nat.beq r 3 then link m38_3 x38_3 (F38_3 k k) s K else none
  | .label l => none
theorem lk_L38_3 (k : Nat) : LoopOK Tryz.prog 28 (L38 k) b38_3 := loopOK_of hm hT (ok_O77 k) (fun _ _ _ h => h) rfl (lk38_3_ k) rfl rfl (F := F38_3 k) (fun _ => rfl) (fun _ _ => rfl) (n := k) fun _ _ _ => rfl
noncomputable def F38 (k : Nat) (v : mi38.den) : Option mo38.den := runF TI (O77 k) (L38 k) c38 mi38 mo38 v
theorem lk38 (k : Nat) : LinksOK Tryz.prog 28 (L38 k) c38 := (And.intro True.intro (And.intro True.intro (And.intro (And.intro True.intro (lk_L38_3 k)) (And.intro True.intro True.intro))))
theorem fn38 (k : Nat) (args : List AV) (x : mi38.den) (r : mo38.den) (h1 : args.length = mi38.items.length) (h2 : mi38.dec (Th.start args) = some x) (h3 : F38 k x = some r) : CallOK Tryz.prog 38 args (ansOf (outL mo38.items r)) :=
  call_of hm hT (ok_O77 k) (fn := Tryz.f38) (c := c38) Tryz.func38 rfl rfl rfl (lk38 k) rfl (by decide) rfl h1 h2 h3
noncomputable def O38 (k : Nat) : Orc := fun R f args K => bif Nat.beq f 38 then callF mi38 mo38 (F38 k) args K else O77 k R f args K
theorem ok_O38 (k : Nat) : OrcOK (O38 k) (CallOK Tryz.prog) := orc_add (fn38 k) (ok_O77 k)
noncomputable def c79 : Code := Tryz.f79.body.getD .skip
noncomputable def mi79 : Msk := ⟨[(.tmp 0, .row false (.int .u8)), (.tmp 1, .val (.int .u64))], []⟩
noncomputable def mo79 : Msk := ⟨[(.tmp 4, .row false (.int .u8))], []⟩
noncomputable def L79_2 (k : Nat) : LOrc := fun _ _ _ _ => none
noncomputable def b79_2 : Code := (findLoop 2 c79).getD .skip
noncomputable def m79_2 : Msk := ⟨[(.tmp 0, .row false (.int .u8)), (.tmp 1, .val (.int .u64)), (.tmp 6, .val (.int .i64))], []⟩
noncomputable def x79_2 : List (X × Msk) := [(.exit 0, ⟨[(.tmp 0, .row false (.int .u8))], []⟩)]
noncomputable def F79_2 (k : Nat) : Nat → m79_2.den → Option (denE x79_2)
  | 0, _ => none
  | j + 1, v => round TI (O38 k) (L79_2 k) b79_2 m79_2 x79_2 (F79_2 k j) v
theorem lk79_2_ (k : Nat) : LinksOK Tryz.prog 21 (L79_2 k) b79_2 := (And.intro True.intro (And.intro (And.intro True.intro True.intro) (And.intro (And.intro True.intro True.intro) True.intro)))
noncomputable def L79 (k : Nat) : LOrc := fun R lk s K => match lk with
  | .loop r => bif Nat.beq r 2 then link m79_2 x79_2 (F79_2 k k) s K else none
  | .label l => none
theorem lk_L79_2 (k : Nat) : LoopOK Tryz.prog 21 (L79 k) b79_2 := loopOK_of hm hT (ok_O38 k) (fun _ _ _ h => h) rfl (lk79_2_ k) rfl rfl (F := F79_2 k) (fun _ => rfl) (fun _ _ => rfl) (n := k) fun _ _ _ => rfl
noncomputable def F79 (k : Nat) (v : mi79.den) : Option mo79.den := runF TI (O38 k) (L79 k) c79 mi79 mo79 v
theorem lk79 (k : Nat) : LinksOK Tryz.prog 21 (L79 k) c79 := (And.intro True.intro (And.intro (And.intro True.intro (lk_L79_2 k)) (And.intro True.intro True.intro)))
theorem fn79 (k : Nat) (a0 : AV) (rest : List AV) (x : mi79.den) (r : mo79.den) (h1 : (a0 :: rest).length = mi79.items.length) (h2 : mi79.dec (startE a0 rest) = some x) (h3 : F79 k x = some r) : CallOK Tryz.prog 79 (a0 :: rest) (.back (ansOf (outL mo79.items r)) [.lent []]) :=
  call_ofE hm hT (ok_O38 k) (fn := Tryz.f79) (c := c79) Tryz.func79 rfl rfl rfl (lk79 k) rfl (by decide) rfl h1 h2 h3
noncomputable def O79 (k : Nat) : Orc := fun R f args K => bif Nat.beq f 79 then callE mi79 mo79 (F79 k) args K else O38 k R f args K
theorem ok_O79 (k : Nat) : OrcOK (O79 k) (CallOK Tryz.prog) := orc_addE (fn79 k) (ok_O38 k)
noncomputable def c39 : Code := Tryz.f39.body.getD .skip
noncomputable def mi39 : Msk := ⟨[(.tmp 0, .val (.st (.cons (.int .u64) (.cons (.int .u64) .nil))))], []⟩
noncomputable def mo39 : Msk := ⟨[(.tmp 2, .row false (.int .u8)), (.tmp 3, .val (.int .i64))], []⟩
noncomputable def L39 (k : Nat) : LOrc := fun _ _ _ _ => none
noncomputable def F39 (k : Nat) (v : mi39.den) : Option mo39.den := runF TI (O79 k) (L39 k) c39 mi39 mo39 v
theorem lk39 (k : Nat) : LinksOK Tryz.prog 19 (L39 k) c39 := (And.intro True.intro (And.intro (And.intro True.intro (And.intro (And.intro True.intro True.intro) True.intro)) (And.intro True.intro (And.intro (And.intro True.intro (And.intro True.intro True.intro)) (And.intro True.intro True.intro)))))
theorem fn39 (k : Nat) (args : List AV) (x : mi39.den) (r : mo39.den) (h1 : args.length = mi39.items.length) (h2 : mi39.dec (Th.start args) = some x) (h3 : F39 k x = some r) : CallOK Tryz.prog 39 args (ansOf (outL mo39.items r)) :=
  call_of hm hT (ok_O79 k) (fn := Tryz.f39) (c := c39) Tryz.func39 rfl rfl rfl (lk39 k) rfl (by decide) rfl h1 h2 h3
noncomputable def O39 (k : Nat) : Orc := fun R f args K => bif Nat.beq f 39 then callF mi39 mo39 (F39 k) args K else O79 k R f args K
theorem ok_O39 (k : Nat) : OrcOK (O39 k) (CallOK Tryz.prog) := orc_add (fn39 k) (ok_O79 k)
noncomputable def F80 (k : Nat) (v : Int × Unit) : Option (List (Ty.den (.int .u8)) × Unit) := sel (decide (0 ≤ v.1)) (sel (decide (v.1 * 1 ≤ 140737488355328)) (some ([], ())) none) none
noncomputable def O80 (k : Nat) : Orc := fun R f args K => bif Nat.beq f 80 then (match args with | [.nilsl, .int .i64 n] => ocall (F80 k (n, ())) fun r => K (.own (.int .u8) r.1) | _ => none) else O39 k R f args K
theorem ok_O80 (k : Nat) : OrcOK (O80 k) (CallOK Tryz.prog) := by
  intro R f args K r h
  unfold O80 at h
  cases hb : Nat.beq f 80 with
  | false => rw [hb] at h; exact ok_O39 k R f args K r h
  | true =>
    rw [hb] at h
    rw [Nat.eq_of_beq_eq_true hb]
    simp only [cond_true] at h
    split at h
    · rename_i m
      unfold F80 at h
      by_cases h0 : 0 ≤ m
      · rw [sel_pos h0] at h
        by_cases h1 : m * 1 ≤ 140737488355328
        · rw [sel_pos h1] at h
          obtain ⟨ti, d, z, E⟩ := hT.get (t := 5) (i := ⟨.int .u8, 1, 1, (.int .u8), [.int .u8 0], [], [], true, false, [], []⟩) rfl
          exact ⟨_, Grow80.calls E (by decide) m h0 h1 (by omega), h⟩
        · rw [sel_neg h1] at h; cases h
      · rw [sel_neg h0] at h; cases h
    · cases h
noncomputable def c40 : Code := Tryz.f40.body.getD .skip
noncomputable def mi40 : Msk := ⟨[(.tmp 0, .val (.slice (.slice (.int .u8))))], []⟩
noncomputable def mo40 : Msk := ⟨[(.tmp 2, .row false (.int .u8))], []⟩
noncomputable def L40_3 (k : Nat) : LOrc := fun _ _ _ _ => none
noncomputable def b40_3 : Code := (findLoop 3 c40).getD .skip
noncomputable def m40_3 : Msk := ⟨[(.tmp 0, .val (.slice (.slice (.int .u8)))), (.tmp 3, .val (.int .i64)), (.tmp 9, .val (.slice (.slice (.int .u8)))), (.tmp 10, .val (.int .i64)), (.tmp 11, .val (.int .i64))], []⟩
noncomputable def x40_3 : List (X × Msk) := [(.exit 0, ⟨[(.tmp 0, .val (.slice (.slice (.int .u8)))), (.tmp 3, .val (.int .i64))], []⟩)]
noncomputable def F40_3 (k : Nat) : Nat → m40_3.den → Option (denE x40_3)
  | 0, _ => none
  | j + 1, v => round TI (O80 k) (L40_3 k) b40_3 m40_3 x40_3 (F40_3 k j) v
theorem lk40_3_ (k : Nat) : LinksOK Tryz.prog 36 (L40_3 k) b40_3 := (And.intro True.intro (And.intro (And.intro True.intro True.intro) (And.intro (And.intro True.intro (And.intro True.intro (And.intro True.intro (And.intro True.intro True.intro)))) True.intro)))
noncomputable def L40_11 (k : Nat) : LOrc := fun _ _ _ _ => none
noncomputable def b40_11 : Code := (findLoop 11 c40).getD .skip
noncomputable def m40_11 : Msk := ⟨[(.tmp 6, .row false (.int .u8)), (.tmp 25, .val (.slice (.slice (.int .u8)))), (.tmp 26, .val (.int .i64)), (.tmp 27, .val (.int .i64))], []⟩
noncomputable def x40_11 : List (X × Msk) := [(.exit 2, ⟨[(.tmp 6, .row false (.int .u8))], []⟩)]
noncomputable def F40_11 (k : Nat) : Nat → m40_11.den → Option (denE x40_11)
  | 0, _ => none
  | j + 1, v => round TI (O80 k) (L40_11 k) b40_11 m40_11 x40_11 (F40_11 k j) v
theorem lk40_11_ (k : Nat) : LinksOK Tryz.prog 36 (L40_11 k) b40_11 := (And.intro True.intro (And.intro (And.intro True.intro True.intro) (And.intro (And.intro True.intro True.intro) True.intro)))
noncomputable def L40 (k : Nat) : LOrc := fun R lk s K => match lk with
  | .loop r => bif Nat.beq r 3 then link m40_3 x40_3 (F40_3 k k) s K else bif Nat.beq r 11 then link m40_11 x40_11 (F40_11 k k) s K else none
  | .label l => none
theorem lk_L40_3 (k : Nat) : LoopOK Tryz.prog 36 (L40 k) b40_3 := loopOK_of hm hT (ok_O80 k) (fun _ _ _ h => h) rfl (lk40_3_ k) rfl rfl (F := F40_3 k) (fun _ => rfl) (fun _ _ => rfl) (n := k) fun _ _ _ => rfl
theorem lk_L40_11 (k : Nat) : LoopOK Tryz.prog 36 (L40 k) b40_11 := loopOK_of hm hT (ok_O80 k) (fun _ _ _ h => h) rfl (lk40_11_ k) rfl rfl (F := F40_11 k) (fun _ => rfl) (fun _ _ => rfl) (n := k) fun _ _ _ => rfl
noncomputable def F40 (k : Nat) (v : mi40.den) : Option mo40.den := runF TI (O80 k) (L40 k) c40 mi40 mo40 v
theorem lk40 (k : Nat) : LinksOK Tryz.prog 36 (L40 k) c40 := (And.intro True.intro (And.intro True.intro (And.intro (And.intro True.intro (lk_L40_3 k)) (And.intro True.intro (And.intro (And.intro True.intro (lk_L40_11 k)) (And.intro True.intro True.intro))))))
theorem fn40 (k : Nat) (args : List AV) (x : mi40.den) (r : mo40.den) (h1 : args.length = mi40.items.length) (h2 : mi40.dec (Th.start args) = some x) (h3 : F40 k x = some r) : CallOK Tryz.prog 40 args (ansOf (outL mo40.items r)) :=
  call_of hm hT (ok_O80 k) (fn := Tryz.f40) (c := c40) Tryz.func40 rfl rfl rfl (lk40 k) rfl (by decide) rfl h1 h2 h3
noncomputable def O40 (k : Nat) : Orc := fun R f args K => bif Nat.beq f 40 then callF mi40 mo40 (F40 k) args K else O80 k R f args K
theorem ok_O40 (k : Nat) : OrcOK (O40 k) (CallOK Tryz.prog) := orc_add (fn40 k) (ok_O80 k)
noncomputable def c17 : Code := Tryz.f17.body.getD .skip
noncomputable def mi17 : Msk := ⟨[(.tmp 0, .val (.st (.cons .str (.cons (.slice (.st (.cons (.int .i64) (.cons .str .nil)))) .nil))))], []⟩
noncomputable def mo17 : Msk := ⟨[(.tmp 2, .row false (.int .u8)), (.tmp 3, .val (.int .i64))], []⟩
noncomputable def L17_6 (k : Nat) : LOrc := fun _ _ _ _ => none
noncomputable def b17_6 : Code := (findLoop 6 c17).getD .skip
noncomputable def m17_6 : Msk := ⟨[(.tmp 1, .ptr 1 0), (.tmp 4, .row false (.int .i64)), (.tmp 5, .row false (.int .u8)), (.tmp 18, .val (.slice (.st (.cons (.int .i64) (.cons .str .nil))))), (.tmp 19, .val (.int .i64)), (.tmp 20, .val (.int .i64)), (.cell 1 0, .val .str), (.cell 1 1, .val (.slice (.st (.cons (.int .i64) (.cons .str .nil)))))], [(1, 2)]⟩
noncomputable def x17_6 : List (X × Msk) := [(.exit 0, ⟨[(.tmp 1, .ptr 1 0), (.tmp 4, .row false (.int .i64)), (.tmp 5, .row false (.int .u8)), (.cell 1 0, .val .str), (.cell 1 1, .val (.slice (.st (.cons (.int .i64) (.cons .str .nil)))))], [(1, 2)]⟩)]
noncomputable def F17_6 (k : Nat) : Nat → m17_6.den → Option (denE x17_6)
  | 0, _ => none
  | j + 1, v => round TI (O40 k) (L17_6 k) b17_6 m17_6 x17_6 (F17_6 k j) v
theorem lk17_6_ (k : Nat) : LinksOK Tryz.prog 58 (L17_6 k) b17_6 := (And.intro True.intro (And.intro (And.intro True.intro True.intro) (And.intro (And.intro True.intro (And.intro True.intro True.intro)) True.intro)))
noncomputable def L17 (k : Nat) : LOrc := fun R lk s K => match lk with
  | .loop r => bif Nat.beq r 6 then link m17_6 x17_6 (F17_6 k k) s K else none
  | .label l => none
theorem lk_L17_6 (k : Nat) : LoopOK Tryz.prog 58 (L17 k) b17_6 := loopOK_of hm hT (ok_O40 k) (fun _ _ _ h => h) rfl (lk17_6_ k) rfl rfl (F := F17_6 k) (fun _ => rfl) (fun _ _ => rfl) (n := k) fun _ _ _ => rfl
noncomputable def F17 (k : Nat) (v : mi17.den) : Option mo17.den := runF TI (O40 k) (L17 k) c17 mi17 mo17 v
theorem lk17 (k : Nat) : LinksOK Tryz.prog 58 (L17 k) c17 := (And.intro True.intro (And.intro (And.intro True.intro (And.intro (And.intro True.intro True.intro) True.intro)) (And.intro True.intro (And.intro True.intro (And.intro (And.intro True.intro (lk_L17_6 k)) (And.intro True.intro (And.intro True.intro (And.intro True.intro True.intro))))))))
theorem fn17 (k : Nat) (args : List AV) (x : mi17.den) (r : mo17.den) (h1 : args.length = mi17.items.length) (h2 : mi17.dec (Th.start args) = some x) (h3 : F17 k x = some r) : CallOK Tryz.prog 17 args (ansOf (outL mo17.items r)) :=
  call_of hm hT (ok_O40 k) (fn := Tryz.f17) (c := c17) Tryz.func17 rfl rfl rfl (lk17 k) rfl (by decide) rfl h1 h2 h3
noncomputable def O17 (k : Nat) : Orc := fun R f args K => bif Nat.beq f 17 then callF mi17 mo17 (F17 k) args K else O40 k R f args K
theorem ok_O17 (k : Nat) : OrcOK (O17 k) (CallOK Tryz.prog) := orc_add (fn17 k) (ok_O40 k)
noncomputable def F18 (k : Nat) (v : List Int × Unit) : Option (List Int × Int × Unit) := FrameP.putS v.1
noncomputable def O18 (k : Nat) : Orc := fun R f args K => bif Nat.beq f 18 then (match args with | [.sl (.int .u8) b] => ocall (F18 k (b, ())) fun r => K (.tup [.sl (.int .u8) r.1, .int .i64 r.2.1]) | [.nilsl] => ocall (F18 k ([], ())) fun r => K (.tup [.sl (.int .u8) r.1, .int .i64 r.2.1]) | _ => none) else O17 k R f args K
theorem ok_O18 (k : Nat) : OrcOK (O18 k) (CallOK Tryz.prog) := by
  intro R f args K r h
  unfold O18 at h
  cases hb : Nat.beq f 18 with
  | false => rw [hb] at h; exact ok_O17 k R f args K r h
  | true =>
    rw [hb] at h
    rw [Nat.eq_of_beq_eq_true hb]
    simp only [cond_true] at h
    split at h
    · rename_i b
      unfold F18 at h
      rw [FrameP.putS_eq] at h
      exact ⟨_, FrameP.calls b _ (.inl rfl), h⟩
    · unfold F18 at h
      rw [FrameP.putS_eq] at h
      exact ⟨_, FrameP.calls [] _ (.inr ⟨rfl, rfl⟩), h⟩
    · cases h
noncomputable def c8 : Code := Tryz.f8.body.getD .skip
noncomputable def mi8 : Msk := ⟨[(.tmp 0, .val (.st (.cons (.int .i64) (.cons .str (.cons (.int .u64) (.cons (.int .u32) (.cons .str (.cons .str .nil))))))))], []⟩
noncomputable def mo8 : Msk := ⟨[(.tmp 2, .val (.slice (.int .u8))), (.tmp 3, .val (.int .i64))], []⟩
noncomputable def L8 (k : Nat) : LOrc := fun _ _ _ _ => none
noncomputable def F8 (k : Nat) (v : mi8.den) : Option mo8.den := runF TI (O18 k) (L8 k) c8 mi8 mo8 v
theorem lk8 (k : Nat) : LinksOK Tryz.prog 25 (L8 k) c8 := (And.intro True.intro (And.intro True.intro (And.intro (And.intro True.intro (And.intro (And.intro True.intro True.intro) True.intro)) (And.intro True.intro (And.intro True.intro True.intro)))))
theorem fn8 (k : Nat) (args : List AV) (x : mi8.den) (r : mo8.den) (h1 : args.length = mi8.items.length) (h2 : mi8.dec (Th.start args) = some x) (h3 : F8 k x = some r) : CallOK Tryz.prog 8 args (ansOf (outL mo8.items r)) :=
  call_of hm hT (ok_O18 k) (fn := Tryz.f8) (c := c8) Tryz.func8 rfl rfl rfl (lk8 k) rfl (by decide) rfl h1 h2 h3
noncomputable def O8 (k : Nat) : Orc := fun R f args K => bif Nat.beq f 8 then callF mi8 mo8 (F8 k) args K else O18 k R f args K
theorem ok_O8 (k : Nat) : OrcOK (O8 k) (CallOK Tryz.prog) := orc_add (fn8 k) (ok_O18 k)
noncomputable def c51 : Code := Tryz.f51.body.getD .skip
noncomputable def mi51 : Msk := ⟨[(.tmp 0, .val (.slice (.int .u8)))], []⟩
noncomputable def mo51 : Msk := ⟨[(.tmp 2, .val (.int .i64))], []⟩
noncomputable def L51 (k : Nat) : LOrc := fun _ _ _ _ => none
noncomputable def F51 (k : Nat) (v : mi51.den) : Option mo51.den := runF TI (O8 k) (L51 k) c51 mi51 mo51 v
theorem lk51 (k : Nat) : LinksOK Tryz.prog 30 (L51 k) c51 := (And.intro True.intro (And.intro (And.intro True.intro (And.intro (And.intro True.intro True.intro) True.intro)) (And.intro True.intro (And.intro (And.intro (And.intro True.intro (And.intro True.intro True.intro)) (And.intro (And.intro True.intro True.intro) (And.intro True.intro (And.intro (And.intro True.intro True.intro) True.intro)))) (And.intro True.intro True.intro)))))
theorem fn51 (k : Nat) (args : List AV) (x : mi51.den) (r : mo51.den) (h1 : args.length = mi51.items.length) (h2 : mi51.dec (Th.start args) = some x) (h3 : F51 k x = some r) : CallOK Tryz.prog 51 args (ansOf (outL mo51.items r)) :=
  call_of hm hT (ok_O8 k) (fn := Tryz.f51) (c := c51) Tryz.func51 rfl rfl rfl (lk51 k) rfl (by decide) rfl h1 h2 h3
noncomputable def O51 (k : Nat) : Orc := fun R f args K => bif Nat.beq f 51 then callF mi51 mo51 (F51 k) args K else O8 k R f args K
theorem ok_O51 (k : Nat) : OrcOK (O51 k) (CallOK Tryz.prog) := orc_add (fn51 k) (ok_O8 k)
noncomputable def c50 : Code := Tryz.f50.body.getD .skip
noncomputable def mi50 : Msk := ⟨[(.tmp 0, .val (.st (.cons (.slice (.int .u8)) (.cons .bool .nil))))], []⟩
noncomputable def mo50 : Msk := ⟨[(.tmp 2, .val .bool)], []⟩
noncomputable def L50 (k : Nat) : LOrc := fun _ _ _ _ => none
noncomputable def F50 (k : Nat) (v : mi50.den) : Option mo50.den := runF TI (O51 k) (L50 k) c50 mi50 mo50 v
theorem lk50 (k : Nat) : LinksOK Tryz.prog 13 (L50 k) c50 := (And.intro True.intro (And.intro (And.intro True.intro (And.intro (And.intro True.intro True.intro) True.intro)) (And.intro True.intro True.intro)))
theorem fn50 (k : Nat) (args : List AV) (x : mi50.den) (r : mo50.den) (h1 : args.length = mi50.items.length) (h2 : mi50.dec (Th.start args) = some x) (h3 : F50 k x = some r) : CallOK Tryz.prog 50 args (ansOf (outL mo50.items r)) :=
  call_of hm hT (ok_O51 k) (fn := Tryz.f50) (c := c50) Tryz.func50 rfl rfl rfl (lk50 k) rfl (by decide) rfl h1 h2 h3
noncomputable def O50 (k : Nat) : Orc := fun R f args K => bif Nat.beq f 50 then callF mi50 mo50 (F50 k) args K else O51 k R f args K
theorem ok_O50 (k : Nat) : OrcOK (O50 k) (CallOK Tryz.prog) := orc_add (fn50 k) (ok_O51 k)
noncomputable def c52 : Code := Tryz.f52.body.getD .skip
noncomputable def mo52 : Msk := ⟨[(.tmp 2, .row false (.int .u8))], []⟩
noncomputable def L52 : LOrc := fun _ _ _ _ => none
noncomputable def F52 (k : Nat) (l : List (Ty.den (.int .u8))) : Option mo52.den := run TI (O50 k) L52 c52 (Th.start [.nsl (.int .u8) l]) (endF mo52)
theorem fn52 (k : Nat) (l : List (Ty.den (.int .u8))) (r : mo52.den) (h : F52 k l = some r) : CallOK Tryz.prog 52 [.sl (.int .u8) l] (ansOf (outL mo52.items r)) :=
  call_nil hm hT (ok_O50 k) (fn := Tryz.f52) (c := c52) Tryz.func52 rfl rfl rfl ((And.intro True.intro (And.intro (And.intro True.intro (And.intro (And.intro True.intro True.intro) True.intro)) (And.intro True.intro True.intro))) : LinksOK Tryz.prog 8 L52 c52) (by decide) rfl (fun e => by subst e; exact h) h
noncomputable def O52 (k : Nat) : Orc := fun R f args K => bif Nat.beq f 52 then callN (.int .u8) mo52 (F52 k) args K else O50 k R f args K
theorem ok_O52 (k : Nat) : OrcOK (O52 k) (CallOK Tryz.prog) := orc_addN (fn52 k) (ok_O50 k)
noncomputable def c25 : Code := Tryz.f25.body.getD .skip
noncomputable def mi25 : Msk := ⟨[(.tmp 0, .val (.st (.cons (.slice (.int .u8)) (.cons .bool .nil)))), (.tmp 1, .val (.slice (.int .u8)))], []⟩
noncomputable def mo25 : Msk := ⟨[(.res 4, .val (.st (.cons (.slice (.int .u8)) (.cons .bool .nil)))), (.tmp 5, .row false (.slice (.int .u8))), (.tmp 6, .val (.int .i64))], []⟩
noncomputable def L25_g0 (k : Nat) : LOrc := fun _ _ _ _ => none
noncomputable def b25_g0 : Code := (findScope 0 c25).getD .skip
noncomputable def l25_g0 : List (X × Msk) := [(.goto 0, ⟨[(.tmp 4, .ptr 4 0), (.tmp 7, .val (.slice (.int .u8))), (.tmp 8, .row false (.slice (.int .u8))), (.cell 4 0, .row false (.int .u8)), (.cell 4 1, .val .bool)], [(4, 2)]⟩)]
noncomputable def x25_g0 : List (X × Msk) := [(.ret, ⟨[(.tmp 4, .ptr 4 0), (.tmp 5, .row false (.slice (.int .u8))), (.tmp 6, .val (.int .i64)), (.cell 4 0, .val (.slice (.int .u8))), (.cell 4 1, .val .bool)], [(4, 2)]⟩)]
noncomputable def F25_g0 (k : Nat) : Nat → denE l25_g0 → Option (denE x25_g0)
  | 0, _ => none
  | j + 1, v => pass TI (O52 k) (L25_g0 k) b25_g0 l25_g0 x25_g0 (F25_g0 k j) v
theorem lk25_g0_ (k : Nat) : LinksOK Tryz.prog 46 (L25_g0 k) b25_g0 := (And.intro (And.intro True.intro (And.intro (And.intro True.intro True.intro) (And.intro True.intro (And.intro (And.intro True.intro True.intro) True.intro)))) (And.intro True.intro (And.intro True.intro (And.intro True.intro (And.intro True.intro (And.intro (And.intro True.intro (And.intro (And.intro True.intro (And.intro True.intro True.intro)) True.intro)) (And.intro (And.intro True.intro (And.intro (And.intro True.intro True.intro) True.intro)) (And.intro True.intro True.intro))))))))
noncomputable def L25 (k : Nat) : LOrc := fun R lk s K => match lk with
  | .loop r => none
  | .label l => (match findLabel b25_g0 l with | some _ => linkJ l25_g0 x25_g0 (F25_g0 k k) l s K | none => none)
theorem lk_L25_g0 (k : Nat) : JumpsOK Tryz.prog 46 (L25 k) b25_g0 := jumpsOK_of hm hT (ok_O52 k) (fun _ _ _ h => h) rfl (lk25_g0_ k) rfl rfl (F := F25_g0 k) (fun _ => rfl) (fun _ _ => rfl) (n := k) fun R l s K rest hf => by
  show (match findLabel b25_g0 l with | some _ => linkJ l25_g0 x25_g0 (F25_g0 k k) l s K | none => none) = _
  rw [hf]
noncomputable def F25 (k : Nat) (v : mi25.den) : Option mo25.den := runF TI (O52 k) (L25 k) c25 mi25 mo25 v
theorem lk25 (k : Nat) : LinksOK Tryz.prog 46 (L25 k) c25 := (And.intro True.intro (And.intro (lk_L25_g0 k) (And.intro (And.intro True.intro (And.intro (And.intro True.intro True.intro) (And.intro True.intro (And.intro (And.intro True.intro True.intro) True.intro)))) (And.intro True.intro (And.intro True.intro (And.intro True.intro (And.intro True.intro (And.intro (And.intro True.intro (And.intro (And.intro True.intro (And.intro True.intro True.intro)) True.intro)) (And.intro (And.intro True.intro (And.intro (And.intro True.intro True.intro) True.intro)) (And.intro True.intro True.intro))))))))))
theorem fn25 (k : Nat) (args : List AV) (x : mi25.den) (r : mo25.den) (h1 : args.length = mi25.items.length) (h2 : mi25.dec (Th.start args) = some x) (h3 : F25 k x = some r) : CallOK Tryz.prog 25 args (ansOf (outL mo25.items r)) :=
  call_of hm hT (ok_O52 k) (fn := Tryz.f25) (c := c25) Tryz.func25 rfl rfl rfl (lk25 k) rfl (by decide) rfl h1 h2 h3
noncomputable def O25 (k : Nat) : Orc := fun R f args K => bif Nat.beq f 25 then callF mi25 mo25 (F25 k) args K else O52 k R f args K
theorem ok_O25 (k : Nat) : OrcOK (O25 k) (CallOK Tryz.prog) := orc_add (fn25 k) (ok_O52 k)
noncomputable def c102 : Code := Tryz.f102.body.getD .skip
noncomputable def mi102 : Msk := ⟨[(.tmp 0, .val (.slice (.int .u8)))], []⟩
noncomputable def mo102 : Msk := ⟨[(.tmp 2, .val (.int .u64))], []⟩
noncomputable def L102_3 (k : Nat) : LOrc := fun _ _ _ _ => none
noncomputable def b102_3 : Code := (findLoop 3 c102).getD .skip
noncomputable def m102_3 : Msk := ⟨[(.tmp 3, .val (.int .u64)), (.tmp 7, .val (.slice (.int .u8))), (.tmp 8, .val (.int .i64)), (.tmp 9, .val (.int .i64))], []⟩
noncomputable def x102_3 : List (X × Msk) := [(.exit 0, ⟨[(.tmp 3, .val (.int .u64))], []⟩)]
noncomputable def F102_3 (k : Nat) : Nat → m102_3.den → Option (denE x102_3)
  | 0, _ => none
  | j + 1, v => round TI (O25 k) (L102_3 k) b102_3 m102_3 x102_3 (F102_3 k j) v
theorem lk102_3_ (k : Nat) : LinksOK Tryz.prog 20 (L102_3 k) b102_3 := (And.intro True.intro (And.intro (And.intro True.intro True.intro) (And.intro (And.intro True.intro True.intro) True.intro)))
noncomputable def L102 (k : Nat) : LOrc := fun R lk s K => match lk with
  | .loop r => bif Nat.beq r 3 then link m102_3 x102_3 (F102_3 k k) s K else none
  | .label l => none
theorem lk_L102_3 (k : Nat) : LoopOK Tryz.prog 20 (L102 k) b102_3 := loopOK_of hm hT (ok_O25 k) (fun _ _ _ h => h) rfl (lk102_3_ k) rfl rfl (F := F102_3 k) (fun _ => rfl) (fun _ _ => rfl) (n := k) fun _ _ _ => rfl
noncomputable def F102 (k : Nat) (v : mi102.den) : Option mo102.den := runF TI (O25 k) (L102 k) c102 mi102 mo102 v
theorem lk102 (k : Nat) : LinksOK Tryz.prog 20 (L102 k) c102 := (And.intro True.intro (And.intro True.intro (And.intro (And.intro True.intro (lk_L102_3 k)) (And.intro True.intro True.intro))))
theorem fn102 (k : Nat) (args : List AV) (x : mi102.den) (r : mo102.den) (h1 : args.length = mi102.items.length) (h2 : mi102.dec (Th.start args) = some x) (h3 : F102 k x = some r) : CallOK Tryz.prog 102 args (ansOf (outL mo102.items r)) :=
  call_of hm hT (ok_O25 k) (fn := Tryz.f102) (c := c102) Tryz.func102 rfl rfl rfl (lk102 k) rfl (by decide) rfl h1 h2 h3
noncomputable def O102 (k : Nat) : Orc := fun R f args K => bif Nat.beq f 102 then callF mi102 mo102 (F102 k) args K else O25 k R f args K
theorem ok_O102 (k : Nat) : OrcOK (O102 k) (CallOK Tryz.prog) := orc_add (fn102 k) (ok_O25 k)
noncomputable def c89 : Code := Tryz.f89.body.getD .skip
noncomputable def mi89 : Msk := ⟨[(.tmp 0, .val (.slice (.int .u8)))], []⟩
noncomputable def mo89 : Msk := ⟨[(.res 2, .val (.st (.cons (.int .u64) (.cons (.int .u64) .nil)))), (.tmp 3, .val (.int .i64)), (.tmp 4, .val (.int .i64))], []⟩
noncomputable def L89 (k : Nat) : LOrc := fun _ _ _ _ => none
noncomputable def F89 (k : Nat) (v : mi89.den) : Option mo89.den := runF TI (O102 k) (L89 k) c89 mi89 mo89 v
theorem lk89 (k : Nat) : LinksOK Tryz.prog 30 (L89 k) c89 := (And.intro True.intro (And.intro (And.intro True.intro (And.intro (And.intro True.intro True.intro) True.intro)) (And.intro True.intro (And.intro True.intro (And.intro (And.intro True.intro (And.intro (And.intro (And.intro True.intro (And.intro (And.intro True.intro True.intro) True.intro)) (And.intro True.intro True.intro)) True.intro)) (And.intro (And.intro True.intro (And.intro (And.intro True.intro True.intro) True.intro)) (And.intro True.intro True.intro)))))))
theorem fn89 (k : Nat) (args : List AV) (x : mi89.den) (r : mo89.den) (h1 : args.length = mi89.items.length) (h2 : mi89.dec (Th.start args) = some x) (h3 : F89 k x = some r) : CallOK Tryz.prog 89 args (ansOf (outL mo89.items r)) :=
  call_of hm hT (ok_O102 k) (fn := Tryz.f89) (c := c89) Tryz.func89 rfl rfl rfl (lk89 k) rfl (by decide) rfl h1 h2 h3
noncomputable def O89 (k : Nat) : Orc := fun R f args K => bif Nat.beq f 89 then callF mi89 mo89 (F89 k) args K else O102 k R f args K
theorem ok_O89 (k : Nat) : OrcOK (O89 k) (CallOK Tryz.prog) := orc_add (fn89 k) (ok_O102 k)
noncomputable def c103 : Code := Tryz.f103.body.getD .skip
noncomputable def mi103 : Msk := ⟨[(.tmp 0, .val (.st (.cons (.int .u64) (.cons (.int .u64) .nil)))), (.tmp 1, .val (.int .i64))], []⟩
noncomputable def mo103 : Msk := ⟨[(.tmp 4, .val .bool)], []⟩
noncomputable def L103 (k : Nat) : LOrc := fun _ _ _ _ => none
noncomputable def F103 (k : Nat) (v : mi103.den) : Option mo103.den := runF TI (O89 k) (L103 k) c103 mi103 mo103 v
theorem lk103 (k : Nat) : LinksOK Tryz.prog 12 (L103 k) c103 := (And.intro True.intro (And.intro True.intro True.intro))
theorem fn103 (k : Nat) (args : List AV) (x : mi103.den) (r : mo103.den) (h1 : args.length = mi103.items.length) (h2 : mi103.dec (Th.start args) = some x) (h3 : F103 k x = some r) : CallOK Tryz.prog 103 args (ansOf (outL mo103.items r)) :=
  call_of hm hT (ok_O89 k) (fn := Tryz.f103) (c := c103) Tryz.func103 rfl rfl rfl (lk103 k) rfl (by decide) rfl h1 h2 h3
noncomputable def O103 (k : Nat) : Orc := fun R f args K => bif Nat.beq f 103 then callF mi103 mo103 (F103 k) args K else O89 k R f args K
theorem ok_O103 (k : Nat) : OrcOK (O103 k) (CallOK Tryz.prog) := orc_add (fn103 k) (ok_O89 k)
noncomputable def c90 : Code := Tryz.f90.body.getD .skip
noncomputable def mi90 : Msk := ⟨[(.tmp 0, .val (.st (.cons (.int .u64) (.cons (.int .u64) .nil))))], []⟩
noncomputable def mo90 : Msk := ⟨[(.tmp 2, .row false (.int .i64))], []⟩
noncomputable def L90_g0 (k : Nat) : LOrc := fun _ _ _ _ => none
noncomputable def b90_g0 : Code := (findScope 0 c90).getD .skip
noncomputable def l90_g0 : List (X × Msk) := [(.goto 0, ⟨[(.tmp 1, .ptr 1 0), (.tmp 3, .row false (.int .i64)), (.tmp 4, .val (.int .i64)), (.cell 1 0, .val (.int .u64)), (.cell 1 1, .val (.int .u64))], [(1, 2)]⟩)]
noncomputable def x90_g0 : List (X × Msk) := [(.ret, ⟨[(.tmp 2, .row false (.int .i64))], []⟩)]
noncomputable def F90_g0 (k : Nat) : Nat → denE l90_g0 → Option (denE x90_g0)
  | 0, _ => none
  | j + 1, v => pass TI (O103 k) (L90_g0 k) b90_g0 l90_g0 x90_g0 (F90_g0 k j) v
theorem lk90_g0_ (k : Nat) : LinksOK Tryz.prog 17 (L90_g0 k) b90_g0 := (And.intro True.intro (And.intro True.intro (And.intro True.intro (And.intro (And.intro True.intro (And.intro True.intro True.intro)) (And.intro True.intro (And.intro (And.intro True.intro (And.intro True.intro True.intro)) (And.intro True.intro True.intro)))))))
noncomputable def L90 (k : Nat) : LOrc := fun R lk s K => match lk with
  | .loop r => none
  | .label l => (match findLabel b90_g0 l with | some _ => linkJ l90_g0 x90_g0 (F90_g0 k k) l s K | none => none)
theorem lk_L90_g0 (k : Nat) : JumpsOK Tryz.prog 17 (L90 k) b90_g0 := jumpsOK_of hm hT (ok_O103 k) (fun _ _ _ h => h) rfl (lk90_g0_ k) rfl rfl (F := F90_g0 k) (fun _ => rfl) (fun _ _ => rfl) (n := k) fun R l s K rest hf => by
  show (match findLabel b90_g0 l with | some _ => linkJ l90_g0 x90_g0 (F90_g0 k k) l s K | none => none) = _
  rw [hf]
noncomputable def F90 (k : Nat) (v : mi90.den) : Option mo90.den := runF TI (O103 k) (L90 k) c90 mi90 mo90 v
theorem lk90 (k : Nat) : LinksOK Tryz.prog 17 (L90 k) c90 := (And.intro True.intro (And.intro (lk_L90_g0 k) (And.intro True.intro (And.intro True.intro (And.intro True.intro (And.intro (And.intro True.intro (And.intro True.intro True.intro)) (And.intro True.intro (And.intro (And.intro True.intro (And.intro True.intro True.intro)) (And.intro True.intro True.intro)))))))))
theorem fn90 (k : Nat) (args : List AV) (x : mi90.den) (r : mo90.den) (h1 : args.length = mi90.items.length) (h2 : mi90.dec (Th.start args) = some x) (h3 : F90 k x = some r) : CallOK Tryz.prog 90 args (ansOf (outL mo90.items r)) :=
  call_of hm hT (ok_O103 k) (fn := Tryz.f90) (c := c90) Tryz.func90 rfl rfl rfl (lk90 k) rfl (by decide) rfl h1 h2 h3
noncomputable def O90 (k : Nat) : Orc := fun R f args K => bif Nat.beq f 90 then callF mi90 mo90 (F90 k) args K else O103 k R f args K
theorem ok_O90 (k : Nat) : OrcOK (O90 k) (CallOK Tryz.prog) := orc_add (fn90 k) (ok_O103 k)
noncomputable def c53 : Code := Tryz.f53.body.getD .skip
noncomputable def mi53 : Msk := ⟨[(.tmp 0, .val (.slice (.int .u8)))], []⟩
noncomputable def mo53 : Msk := ⟨[(.tmp 2, .val .str), (.tmp 3, .row false (.int .i64)), (.tmp 4, .val (.slice (.int .u8))), (.tmp 5, .val (.int .i64))], []⟩
noncomputable def L53 (k : Nat) : LOrc := fun _ _ _ _ => none
noncomputable def F53 (k : Nat) (v : mi53.den) : Option mo53.den := runF TI (O90 k) (L53 k) c53 mi53 mo53 v
theorem lk53 (k : Nat) : LinksOK Tryz.prog 36 (L53 k) c53 := (And.intro True.intro (And.intro (And.intro True.intro (And.intro (And.intro True.intro True.intro) (And.intro True.intro (And.intro (And.intro True.intro True.intro) True.intro)))) (And.intro True.intro (And.intro True.intro True.intro))))
theorem fn53 (k : Nat) (args : List AV) (x : mi53.den) (r : mo53.den) (h1 : args.length = mi53.items.length) (h2 : mi53.dec (Th.start args) = some x) (h3 : F53 k x = some r) : CallOK Tryz.prog 53 args (ansOf (outL mo53.items r)) :=
  call_of hm hT (ok_O90 k) (fn := Tryz.f53) (c := c53) Tryz.func53 rfl rfl rfl (lk53 k) rfl (by decide) rfl h1 h2 h3
noncomputable def O53 (k : Nat) : Orc := fun R f args K => bif Nat.beq f 53 then callF mi53 mo53 (F53 k) args K else O90 k R f args K
theorem ok_O53 (k : Nat) : OrcOK (O53 k) (CallOK Tryz.prog) := orc_add (fn53 k) (ok_O90 k)
noncomputable def c93 : Code := Tryz.f93.body.getD .skip
noncomputable def mi93 : Msk := ⟨[(.tmp 0, .val .str)], []⟩
noncomputable def mo93 : Msk := ⟨[(.tmp 2, .val (.int .u64)), (.tmp 3, .val (.int .i64))], []⟩
noncomputable def L93_9 (k : Nat) : LOrc := fun _ _ _ _ => none
noncomputable def b93_9 : Code := (findLoop 9 c93).getD .skip
noncomputable def m93_9 : Msk := ⟨[(.tmp 4, .val (.int .u64)), (.tmp 19, .row false (.int .u8)), (.tmp 20, .val (.int .i64)), (.tmp 21, .val (.int .i64))], []⟩
noncomputable def x93_9 : List (X × Msk) := [(.exit 1, ⟨[(.tmp 4, .val (.int .u64))], []⟩)]
noncomputable def F93_9 (k : Nat) : Nat → m93_9.den → Option (denE x93_9)
  | 0, _ => none
  | j + 1, v => round TI (O53 k) (L93_9 k) b93_9 m93_9 x93_9 (F93_9 k j) v
theorem lk93_9_ (k : Nat) : LinksOK Tryz.prog 33 (L93_9 k) b93_9 := (And.intro True.intro (And.intro (And.intro True.intro True.intro) (And.intro (And.intro True.intro True.intro) True.intro)))
noncomputable def L93 (k : Nat) : LOrc := fun R lk s K => match lk with
  | .loop r => bif Nat.beq r 9 then link m93_9 x93_9 (F93_9 k k) s K else none
  | .label l => none
theorem lk_L93_9 (k : Nat) : LoopOK Tryz.prog 33 (L93 k) b93_9 := loopOK_of hm hT (ok_O53 k) (fun _ _ _ h => h) rfl (lk93_9_ k) rfl rfl (F := F93_9 k) (fun _ => rfl) (fun _ _ => rfl) (n := k) fun _ _ _ => rfl
noncomputable def F93 (k : Nat) (v : mi93.den) : Option mo93.den := runF TI (O53 k) (L93 k) c93 mi93 mo93 v
theorem lk93 (k : Nat) : LinksOK Tryz.prog 33 (L93 k) c93 := (And.intro True.intro (And.intro (And.intro True.intro (And.intro (And.intro True.intro True.intro) (And.intro True.intro (And.intro (And.intro True.intro True.intro) (And.intro True.intro (And.intro (And.intro True.intro True.intro) True.intro)))))) (And.intro True.intro (And.intro (And.intro True.intro (lk_L93_9 k)) (And.intro True.intro True.intro)))))
theorem fn93 (k : Nat) (args : List AV) (x : mi93.den) (r : mo93.den) (h1 : args.length = mi93.items.length) (h2 : mi93.dec (Th.start args) = some x) (h3 : F93 k x = some r) : CallOK Tryz.prog 93 args (ansOf (outL mo93.items r)) :=
  call_of hm hT (ok_O53 k) (fn := Tryz.f93) (c := c93) Tryz.func93 rfl rfl rfl (lk93 k) rfl (by decide) rfl h1 h2 h3
noncomputable def O93 (k : Nat) : Orc := fun R f args K => bif Nat.beq f 93 then callF mi93 mo93 (F93 k) args K else O53 k R f args K
theorem ok_O93 (k : Nat) : OrcOK (O93 k) (CallOK Tryz.prog) := orc_add (fn93 k) (ok_O53 k)
noncomputable def c91 : Code := Tryz.f91.body.getD .skip
noncomputable def mi91 : Msk := ⟨[(.tmp 0, .val (.st (.cons (.int .i64) (.cons (.int .i64) (.cons (.int .i64) .nil))))), (.tmp 1, .val (.slice (.int .u8)))], []⟩
noncomputable def mo91 : Msk := ⟨[(.tmp 4, .val (.int .i64)), (.tmp 5, .val (.int .i64))], []⟩
noncomputable def L91 (k : Nat) : LOrc := fun _ _ _ _ => none
noncomputable def F91 (k : Nat) (v : mi91.den) : Option mo91.den := runF TI (O93 k) (L91 k) c91 mi91 mo91 v
theorem lk91 (k : Nat) : LinksOK Tryz.prog 41 (L91 k) c91 := (And.intro True.intro (And.intro True.intro (And.intro (And.intro True.intro (And.intro (And.intro True.intro True.intro) True.intro)) (And.intro (And.intro True.intro (And.intro (And.intro True.intro True.intro) True.intro)) (And.intro True.intro (And.intro (And.intro (And.intro True.intro (And.intro True.intro True.intro)) (And.intro (And.intro True.intro True.intro) (And.intro True.intro (And.intro (And.intro True.intro True.intro) True.intro)))) (And.intro True.intro True.intro)))))))
theorem fn91 (k : Nat) (args : List AV) (x : mi91.den) (r : mo91.den) (h1 : args.length = mi91.items.length) (h2 : mi91.dec (Th.start args) = some x) (h3 : F91 k x = some r) : CallOK Tryz.prog 91 args (ansOf (outL mo91.items r)) :=
  call_of hm hT (ok_O93 k) (fn := Tryz.f91) (c := c91) Tryz.func91 rfl rfl rfl (lk91 k) rfl (by decide) rfl h1 h2 h3
noncomputable def O91 (k : Nat) : Orc := fun R f args K => bif Nat.beq f 91 then callF mi91 mo91 (F91 k) args K else O93 k R f args K
theorem ok_O91 (k : Nat) : OrcOK (O91 k) (CallOK Tryz.prog) := orc_add (fn91 k) (ok_O93 k)
noncomputable def c54 : Code := Tryz.f54.body.getD .skip
noncomputable def mi54 : Msk := ⟨[(.tmp 0, .val (.int .i64)), (.tmp 1, .val (.slice (.int .u8)))], []⟩
noncomputable def mo54 : Msk := ⟨[(.tmp 4, .val .str), (.tmp 5, .val (.int .i64)), (.tmp 6, .val (.int .i64))], []⟩
noncomputable def L54 (k : Nat) : LOrc := fun _ _ _ _ => none
noncomputable def F54 (k : Nat) (v : mi54.den) : Option mo54.den := runF TI (O91 k) (L54 k) c54 mi54 mo54 v
theorem lk54 (k : Nat) : LinksOK Tryz.prog 51 (L54 k) c54 := (And.intro True.intro (And.intro True.intro (And.intro (And.intro True.intro (And.intro (And.intro True.intro True.intro) True.intro)) (And.intro True.intro (And.intro (And.intro True.intro (And.intro (And.intro True.intro True.intro) True.intro)) (And.intro True.intro (And.intro True.intro (And.intro (And.intro True.intro (And.intro (And.intro True.intro True.intro) True.intro)) (And.intro True.intro (And.intro (And.intro True.intro (And.intro (And.intro True.intro True.intro) True.intro)) (And.intro True.intro True.intro)))))))))))
theorem fn54 (k : Nat) (args : List AV) (x : mi54.den) (r : mo54.den) (h1 : args.length = mi54.items.length) (h2 : mi54.dec (Th.start args) = some x) (h3 : F54 k x = some r) : CallOK Tryz.prog 54 args (ansOf (outL mo54.items r)) :=
  call_of hm hT (ok_O91 k) (fn := Tryz.f54) (c := c54) Tryz.func54 rfl rfl rfl (lk54 k) rfl (by decide) rfl h1 h2 h3
noncomputable def O54 (k : Nat) : Orc := fun R f args K => bif Nat.beq f 54 then callF mi54 mo54 (F54 k) args K else O91 k R f args K
theorem ok_O54 (k : Nat) : OrcOK (O54 k) (CallOK Tryz.prog) := orc_add (fn54 k) (ok_O91 k)
noncomputable def c26 : Code := Tryz.f26.body.getD .skip
noncomputable def mi26 : Msk := ⟨[(.tmp 0, .val (.slice (.int .u8)))], []⟩
noncomputable def mo26 : Msk := ⟨[(.res 2, .val (.st (.cons .str (.cons (.slice (.st (.cons (.int .i64) (.cons .str .nil)))) .nil)))), (.tmp 3, .val (.int .i64))], []⟩
noncomputable def L26_8 (k : Nat) : LOrc := fun _ _ _ _ => none
noncomputable def b26_8 : Code := (findLoop 8 c26).getD .skip
noncomputable def m26_8 : Msk := ⟨[(.tmp 2, .ptr 2 0), (.tmp 6, .val (.slice (.int .u8))), (.tmp 8, .ptr 8 0), (.tmp 33, .row false (.int .i64)), (.tmp 34, .val (.int .i64)), (.tmp 35, .val (.int .i64)), (.cell 2 0, .val .str), (.cell 2 1, .row false (.st (.cons (.int .i64) (.cons .str .nil)))), (.cell 8 0, .val .str), (.cell 8 1, .row false (.st (.cons (.int .i64) (.cons .str .nil))))], [(2, 2), (8, 2)]⟩
noncomputable def x26_8 : List (X × Msk) := [(.exit 1, ⟨[(.tmp 2, .ptr 2 0), (.tmp 6, .val (.slice (.int .u8))), (.tmp 8, .ptr 8 0), (.cell 2 0, .val .str), (.cell 2 1, .row false (.st (.cons (.int .i64) (.cons .str .nil)))), (.cell 8 0, .val .str), (.cell 8 1, .row false (.st (.cons (.int .i64) (.cons .str .nil))))], [(2, 2), (8, 2)]⟩), (.ret, ⟨[(.tmp 2, .ptr 2 0), (.tmp 3, .val (.int .i64)), (.cell 2 0, .val .str), (.cell 2 1, .row false (.st (.cons (.int .i64) (.cons .str .nil))))], [(2, 2)]⟩)]
noncomputable def F26_8 (k : Nat) : Nat → m26_8.den → Option (denE x26_8)
  | 0, _ => none
  | j + 1, v => round TI (O54 k) (L26_8 k) b26_8 m26_8 x26_8 (F26_8 k j) v
theorem lk26_8_ (k : Nat) : LinksOK Tryz.prog 67 (L26_8 k) b26_8 := (And.intro True.intro (And.intro (And.intro True.intro True.intro) (And.intro (And.intro True.intro (And.intro True.intro (And.intro (And.intro True.intro (And.intro (And.intro True.intro True.intro) True.intro)) True.intro))) True.intro)))
noncomputable def L26 (k : Nat) : LOrc := fun R lk s K => match lk with
  | .loop r => bif Nat.beq r 8 then link m26_8 x26_8 (F26_8 k k) s K else none
  | .label l => none
theorem lk_L26_8 (k : Nat) : LoopOK Tryz.prog 67 (L26 k) b26_8 := loopOK_of hm hT (ok_O54 k) (fun _ _ _ h => h) rfl (lk26_8_ k) rfl rfl (F := F26_8 k) (fun _ => rfl) (fun _ _ => rfl) (n := k) fun _ _ _ => rfl
noncomputable def F26 (k : Nat) (v : mi26.den) : Option mo26.den := runF TI (O54 k) (L26 k) c26 mi26 mo26 v
theorem lk26 (k : Nat) : LinksOK Tryz.prog 67 (L26 k) c26 := (And.intro True.intro (And.intro True.intro (And.intro (And.intro True.intro (And.intro (And.intro True.intro True.intro) (And.intro True.intro (And.intro (And.intro True.intro True.intro) True.intro)))) (And.intro True.intro (And.intro (And.intro True.intro (lk_L26_8 k)) (And.intro (And.intro True.intro (And.intro (And.intro True.intro True.intro) True.intro)) (And.intro True.intro True.intro)))))))
theorem fn26 (k : Nat) (args : List AV) (x : mi26.den) (r : mo26.den) (h1 : args.length = mi26.items.length) (h2 : mi26.dec (Th.start args) = some x) (h3 : F26 k x = some r) : CallOK Tryz.prog 26 args (ansOf (outL mo26.items r)) :=
  call_of hm hT (ok_O54 k) (fn := Tryz.f26) (c := c26) Tryz.func26 rfl rfl rfl (lk26 k) rfl (by decide) rfl h1 h2 h3
noncomputable def O26 (k : Nat) : Orc := fun R f args K => bif Nat.beq f 26 then callF mi26 mo26 (F26 k) args K else O54 k R f args K
theorem ok_O26 (k : Nat) : OrcOK (O26 k) (CallOK Tryz.prog) := orc_add (fn26 k) (ok_O54 k)
noncomputable def c55 : Code := Tryz.f55.body.getD .skip
noncomputable def mi55 : Msk := ⟨[(.tmp 0, .val .str)], []⟩
noncomputable def mo55 : Msk := ⟨[(.tmp 2, .val (.int .i64))], []⟩
noncomputable def L55_2 (k : Nat) : LOrc := fun _ _ _ _ => none
noncomputable def b55_2 : Code := (findLoop 2 c55).getD .skip
noncomputable def m55_2 : Msk := ⟨[(.tmp 0, .val .str), (.tmp 3, .val (.int .i64))], []⟩
noncomputable def x55_2 : List (X × Msk) := [(.exit 0, ⟨[], []⟩), (.ret, ⟨[(.tmp 2, .val (.int .i64))], []⟩)]
noncomputable def F55_2 (k : Nat) : Nat → m55_2.den → Option (denE x55_2)
  | 0, _ => none
  | j + 1, v => round TI (O26 k) (L55_2 k) b55_2 m55_2 x55_2 (F55_2 k j) v
theorem lk55_2_ (k : Nat) : LinksOK Tryz.prog 13 (L55_2 k) b55_2 := (And.intro (And.intro True.intro (And.intro True.intro True.intro)) (And.intro (And.intro True.intro (And.intro (And.intro True.intro True.intro) True.intro)) True.intro))
noncomputable def L55 (k : Nat) : LOrc := fun R lk s K => match lk with
  | .loop r => bif Nat.beq r 2 then link m55_2 x55_2 (F55_2 k k) s K else none
  | .label l => none
theorem lk_L55_2 (k : Nat) : LoopOK Tryz.prog 13 (L55 k) b55_2 := loopOK_of hm hT (ok_O26 k) (fun _ _ _ h => h) rfl (lk55_2_ k) rfl rfl (F := F55_2 k) (fun _ => rfl) (fun _ _ => rfl) (n := k) fun _ _ _ => rfl
noncomputable def F55 (k : Nat) (v : mi55.den) : Option mo55.den := runF TI (O26 k) (L55 k) c55 mi55 mo55 v
theorem lk55 (k : Nat) : LinksOK Tryz.prog 13 (L55 k) c55 := (And.intro True.intro (And.intro (And.intro True.intro (lk_L55_2 k)) (And.intro True.intro True.intro)))
theorem fn55 (k : Nat) (args : List AV) (x : mi55.den) (r : mo55.den) (h1 : args.length = mi55.items.length) (h2 : mi55.dec (Th.start args) = some x) (h3 : F55 k x = some r) : CallOK Tryz.prog 55 args (ansOf (outL mo55.items r)) :=
  call_of hm hT (ok_O26 k) (fn := Tryz.f55) (c := c55) Tryz.func55 rfl rfl rfl (lk55 k) rfl (by decide) rfl h1 h2 h3
noncomputable def O55 (k : Nat) : Orc := fun R f args K => bif Nat.beq f 55 then callF mi55 mo55 (F55 k) args K else O26 k R f args K
theorem ok_O55 (k : Nat) : OrcOK (O55 k) (CallOK Tryz.prog) := orc_add (fn55 k) (ok_O26 k)
noncomputable def c95 : Code := Tryz.f95.body.getD .skip
noncomputable def mi95 : Msk := ⟨[(.tmp 0, .val (.st (.cons (.int .i64) (.cons .str .nil)))), (.tmp 1, .val (.ref (.cons (.int .i64) .nil)))], []⟩
noncomputable def mo95 : Msk := ⟨[(.tmp 3, .val .bool)], []⟩
noncomputable def L95 (k : Nat) : LOrc := fun _ _ _ _ => none
noncomputable def F95 (k : Nat) (v : mi95.den) : Option mo95.den := runF TI (O55 k) (L95 k) c95 mi95 mo95 v
theorem lk95 (k : Nat) : LinksOK Tryz.prog 8 (L95 k) c95 := (And.intro True.intro (And.intro True.intro True.intro))
theorem fn95 (k : Nat) (args : List AV) (x : mi95.den) (r : mo95.den) (h1 : args.length = mi95.items.length) (h2 : mi95.dec (Th.start args) = some x) (h3 : F95 k x = some r) : CallOK Tryz.prog 95 args (ansOf (outL mo95.items r)) :=
  call_of hm hT (ok_O55 k) (fn := Tryz.f95) (c := c95) Tryz.func95 rfl rfl rfl (lk95 k) rfl (by decide) rfl h1 h2 h3
noncomputable def O95 (k : Nat) : Orc := fun R f args K => bif Nat.beq f 95 then callF mi95 mo95 (F95 k) args K else O55 k R f args K
theorem ok_O95 (k : Nat) : OrcOK (O95 k) (CallOK Tryz.prog) := orc_add (fn95 k) (ok_O55 k)
noncomputable def c7000000 : Code := Tryz.f94.body.getD .skip
noncomputable def mi7000000 : Msk := ⟨[(.tmp 0, .val (.slice (.st (.cons (.int .i64) (.cons .str .nil))))), (.tmp 1, .val (.clo 95 (.cons (.ref (.cons (.int .i64) .nil)) .nil)))], []⟩
noncomputable def mo7000000 : Msk := ⟨[(.tmp 4, .val (.int .i64))], []⟩
noncomputable def L7000000_2 (k : Nat) : LOrc := fun _ _ _ _ => none
noncomputable def b7000000_2 : Code := (findLoop 2 c7000000).getD .skip
noncomputable def m7000000_2 : Msk := ⟨[(.tmp 0, .val (.slice (.st (.cons (.int .i64) (.cons .str .nil))))), (.tmp 1, .val (.clo 95 (.cons (.ref (.cons (.int .i64) .nil)) .nil))), (.tmp 7, .val (.int .i64)), (.tmp 8, .val (.int .i64))], []⟩
noncomputable def x7000000_2 : List (X × Msk) := [(.exit 0, ⟨[], []⟩), (.ret, ⟨[(.tmp 4, .val (.int .i64))], []⟩)]
noncomputable def F7000000_2 (k : Nat) : Nat → m7000000_2.den → Option (denE x7000000_2)
  | 0, _ => none
  | j + 1, v => round TI (O95 k) (L7000000_2 k) b7000000_2 m7000000_2 x7000000_2 (F7000000_2 k j) v
theorem lk7000000_2_ (k : Nat) : LinksOK Tryz.prog 19 (L7000000_2 k) b7000000_2 := (And.intro True.intro (And.intro (And.intro True.intro True.intro) (And.intro (And.intro True.intro (And.intro True.intro (And.intro (And.intro True.intro True.intro) True.intro))) True.intro)))
noncomputable def L7000000 (k : Nat) : LOrc := fun R lk s K => match lk with
  | .loop r => bif Nat.beq r 2 then link m7000000_2 x7000000_2 (F7000000_2 k k) s K else none
  | .label l => none
theorem lk_L7000000_2 (k : Nat) : LoopOK Tryz.prog 19 (L7000000 k) b7000000_2 := loopOK_of hm hT (ok_O95 k) (fun _ _ _ h => h) rfl (lk7000000_2_ k) rfl rfl (F := F7000000_2 k) (fun _ => rfl) (fun _ _ => rfl) (n := k) fun _ _ _ => rfl
noncomputable def F7000000 (k : Nat) (v : mi7000000.den) : Option mo7000000.den := runF TI (O95 k) (L7000000 k) c7000000 mi7000000 mo7000000 v
theorem lk7000000 (k : Nat) : LinksOK Tryz.prog 19 (L7000000 k) c7000000 := (And.intro True.intro (And.intro (And.intro True.intro (lk_L7000000_2 k)) (And.intro True.intro True.intro)))
theorem fn7000000 (k : Nat) (args : List AV) (x : mi7000000.den) (r : mo7000000.den) (h1 : args.length = mi7000000.items.length) (h2 : mi7000000.dec (Th.start args) = some x) (h3 : F7000000 k x = some r) : CallOK Tryz.prog 94 args (ansOf (outL mo7000000.items r)) :=
  call_of hm hT (ok_O95 k) (fn := Tryz.f94) (c := c7000000) Tryz.func94 rfl rfl rfl (lk7000000 k) rfl (by decide) rfl h1 h2 h3
noncomputable def O7000000 (k : Nat) : Orc := fun R f args K => bif (bif Nat.beq f 94 then isClo 1 95 args else false) then callF mi7000000 mo7000000 (F7000000 k) args K else O95 k R f args K
theorem ok_O7000000 (k : Nat) : OrcOK (O7000000 k) (CallOK Tryz.prog) := orc_addP (fn7000000 k) (ok_O95 k)
noncomputable def c57 : Code := Tryz.f57.body.getD .skip
noncomputable def mi57 : Msk := ⟨[(.tmp 0, .val (.st (.cons .str (.cons (.slice (.st (.cons (.int .i64) (.cons .str .nil)))) .nil)))), (.tmp 1, .val (.int .i64))], []⟩
noncomputable def mo57 : Msk := ⟨[(.tmp 4, .val .str), (.tmp 5, .val .bool)], []⟩
noncomputable def L57 (k : Nat) : LOrc := fun _ _ _ _ => none
noncomputable def F57 (k : Nat) (v : mi57.den) : Option mo57.den := runF TI (O7000000 k) (L57 k) c57 mi57 mo57 v
theorem lk57 (k : Nat) : LinksOK Tryz.prog 19 (L57 k) c57 := (And.intro True.intro (And.intro True.intro (And.intro (And.intro True.intro (And.intro (And.intro True.intro True.intro) True.intro)) (And.intro True.intro True.intro))))
theorem fn57 (k : Nat) (args : List AV) (x : mi57.den) (r : mo57.den) (h1 : args.length = mi57.items.length) (h2 : mi57.dec (Th.start args) = some x) (h3 : F57 k x = some r) : CallOK Tryz.prog 57 args (ansOf (outL mo57.items r)) :=
  call_of hm hT (ok_O7000000 k) (fn := Tryz.f57) (c := c57) Tryz.func57 rfl rfl rfl (lk57 k) rfl (by decide) rfl h1 h2 h3
noncomputable def O57 (k : Nat) : Orc := fun R f args K => bif Nat.beq f 57 then callF mi57 mo57 (F57 k) args K else O7000000 k R f args K
theorem ok_O57 (k : Nat) : OrcOK (O57 k) (CallOK Tryz.prog) := orc_add (fn57 k) (ok_O7000000 k)
noncomputable def c56 : Code := Tryz.f56.body.getD .skip
noncomputable def mi56 : Msk := ⟨[(.tmp 0, .val (.st (.cons .str (.cons (.slice (.st (.cons (.int .i64) (.cons .str .nil)))) .nil)))), (.tmp 1, .val (.int .i64))], []⟩
noncomputable def mo56 : Msk := ⟨[(.tmp 4, .val (.int .u64))], []⟩
noncomputable def L56 (k : Nat) : LOrc := fun _ _ _ _ => none
noncomputable def F56 (k : Nat) (v : mi56.den) : Option mo56.den := runF TI (O57 k) (L56 k) c56 mi56 mo56 v
theorem lk56 (k : Nat) : LinksOK Tryz.prog 21 (L56 k) c56 := (And.intro True.intro (And.intro True.intro (And.intro True.intro (And.intro True.intro True.intro))))
theorem fn56 (k : Nat) (args : List AV) (x : mi56.den) (r : mo56.den) (h1 : args.length = mi56.items.length) (h2 : mi56.dec (Th.start args) = some x) (h3 : F56 k x = some r) : CallOK Tryz.prog 56 args (ansOf (outL mo56.items r)) :=
  call_of hm hT (ok_O57 k) (fn := Tryz.f56) (c := c56) Tryz.func56 rfl rfl rfl (lk56 k) rfl (by decide) rfl h1 h2 h3
noncomputable def O56 (k : Nat) : Orc := fun R f args K => bif Nat.beq f 56 then callF mi56 mo56 (F56 k) args K else O57 k R f args K
theorem ok_O56 (k : Nat) : OrcOK (O56 k) (CallOK Tryz.prog) := orc_add (fn56 k) (ok_O57 k)
noncomputable def c58 : Code := Tryz.f58.body.getD .skip
noncomputable def mi58 : Msk := ⟨[(.tmp 0, .val (.st (.cons .str (.cons (.slice (.st (.cons (.int .i64) (.cons .str .nil)))) .nil)))), (.tmp 1, .val (.st (.cons (.int .i64) (.cons .str (.cons (.int .u64) (.cons (.int .u32) (.cons .str (.cons .str .nil))))))))], []⟩
noncomputable def mo58 : Msk := ⟨[(.tmp 4, .val .bool)], []⟩
noncomputable def L58_5 (k : Nat) : LOrc := fun _ _ _ _ => none
noncomputable def b58_5 : Code := (findLoop 5 c58).getD .skip
noncomputable def m58_5 : Msk := ⟨[(.tmp 2, .ptr 2 0), (.tmp 16, .row false (.st (.cons (.int .i64) (.cons .str .nil)))), (.tmp 17, .val (.int .i64)), (.tmp 18, .val (.int .i64)), (.cell 2 0, .val .str), (.cell 2 1, .val (.slice (.st (.cons (.int .i64) (.cons .str .nil)))))], [(2, 2)]⟩
noncomputable def x58_5 : List (X × Msk) := [(.exit 0, ⟨[], []⟩), (.ret, ⟨[(.tmp 4, .val .bool)], []⟩)]
noncomputable def F58_5 (k : Nat) : Nat → m58_5.den → Option (denE x58_5)
  | 0, _ => none
  | j + 1, v => round TI (O56 k) (L58_5 k) b58_5 m58_5 x58_5 (F58_5 k j) v
theorem lk58_5_ (k : Nat) : LinksOK Tryz.prog 33 (L58_5 k) b58_5 := (And.intro True.intro (And.intro (And.intro True.intro True.intro) (And.intro (And.intro True.intro (And.intro True.intro (And.intro (And.intro True.intro True.intro) True.intro))) True.intro)))
noncomputable def L58 (k : Nat) : LOrc := fun R lk s K => match lk with
  | .loop r => bif Nat.beq r 5 then link m58_5 x58_5 (F58_5 k k) s K else none
  | .label l => none
theorem lk_L58_5 (k : Nat) : LoopOK Tryz.prog 33 (L58 k) b58_5 := loopOK_of hm hT (ok_O56 k) (fun _ _ _ h => h) rfl (lk58_5_ k) rfl rfl (F := F58_5 k) (fun _ => rfl) (fun _ _ => rfl) (n := k) fun _ _ _ => rfl
noncomputable def F58 (k : Nat) (v : mi58.den) : Option mo58.den := runF TI (O56 k) (L58 k) c58 mi58 mo58 v
theorem lk58 (k : Nat) : LinksOK Tryz.prog 33 (L58 k) c58 := (And.intro True.intro (And.intro True.intro (And.intro (And.intro True.intro (And.intro (And.intro True.intro True.intro) True.intro)) (And.intro (And.intro True.intro (lk_L58_5 k)) (And.intro True.intro True.intro)))))
theorem fn58 (k : Nat) (args : List AV) (x : mi58.den) (r : mo58.den) (h1 : args.length = mi58.items.length) (h2 : mi58.dec (Th.start args) = some x) (h3 : F58 k x = some r) : CallOK Tryz.prog 58 args (ansOf (outL mo58.items r)) :=
  call_of hm hT (ok_O56 k) (fn := Tryz.f58) (c := c58) Tryz.func58 rfl rfl rfl (lk58 k) rfl (by decide) rfl h1 h2 h3
noncomputable def O58 (k : Nat) : Orc := fun R f args K => bif Nat.beq f 58 then callF mi58 mo58 (F58 k) args K else O56 k R f args K
theorem ok_O58 (k : Nat) : OrcOK (O58 k) (CallOK Tryz.prog) := orc_add (fn58 k) (ok_O56 k)
noncomputable def c27 : Code := Tryz.f27.body.getD .skip
noncomputable def mi27 : Msk := ⟨[(.tmp 0, .val (.st (.cons .str (.cons (.slice (.st (.cons (.int .i64) (.cons .str .nil)))) .nil))))], []⟩
noncomputable def mo27 : Msk := ⟨[(.res 2, .val (.st (.cons (.int .i64) (.cons .str (.cons (.int .u64) (.cons (.int .u32) (.cons .str (.cons .str .nil)))))))), (.tmp 3, .val (.int .i64))], []⟩
noncomputable def L27 (k : Nat) : LOrc := fun _ _ _ _ => none
noncomputable def F27 (k : Nat) (v : mi27.den) : Option mo27.den := runF TI (O58 k) (L27 k) c27 mi27 mo27 v
theorem lk27 (k : Nat) : LinksOK Tryz.prog 84 (L27 k) c27 := (And.intro True.intro (And.intro (And.intro True.intro (And.intro (And.intro True.intro True.intro) True.intro)) (And.intro True.intro (And.intro True.intro (And.intro True.intro (And.intro True.intro (And.intro True.intro (And.intro (And.intro (And.intro True.intro (And.intro True.intro True.intro)) (And.intro (And.intro True.intro True.intro) (And.intro True.intro (And.intro (And.intro True.intro True.intro) (And.intro True.intro (And.intro (And.intro True.intro True.intro) True.intro)))))) (And.intro True.intro True.intro)))))))))
theorem fn27 (k : Nat) (args : List AV) (x : mi27.den) (r : mo27.den) (h1 : args.length = mi27.items.length) (h2 : mi27.dec (Th.start args) = some x) (h3 : F27 k x = some r) : CallOK Tryz.prog 27 args (ansOf (outL mo27.items r)) :=
  call_of hm hT (ok_O58 k) (fn := Tryz.f27) (c := c27) Tryz.func27 rfl rfl rfl (lk27 k) rfl (by decide) rfl h1 h2 h3
noncomputable def O27 (k : Nat) : Orc := fun R f args K => bif Nat.beq f 27 then callF mi27 mo27 (F27 k) args K else O58 k R f args K
theorem ok_O27 (k : Nat) : OrcOK (O27 k) (CallOK Tryz.prog) := orc_add (fn27 k) (ok_O58 k)
noncomputable def c11 : Code := Tryz.f11.body.getD .skip
noncomputable def mi11 : Msk := ⟨[(.tmp 0, .val (.slice (.int .u8)))], []⟩
noncomputable def mo11 : Msk := ⟨[(.res 2, .val (.st (.cons (.int .i64) (.cons .str (.cons (.int .u64) (.cons (.int .u32) (.cons .str (.cons .str .nil)))))))), (.tmp 3, .val (.int .i64))], []⟩
noncomputable def L11 (k : Nat) : LOrc := fun _ _ _ _ => none
noncomputable def F11 (k : Nat) (v : mi11.den) : Option mo11.den := runF TI (O27 k) (L11 k) c11 mi11 mo11 v
theorem lk11 (k : Nat) : LinksOK Tryz.prog 44 (L11 k) c11 := (And.intro True.intro (And.intro True.intro (And.intro (And.intro True.intro (And.intro (And.intro True.intro True.intro) True.intro)) (And.intro True.intro (And.intro (And.intro True.intro (And.intro (And.intro True.intro True.intro) True.intro)) (And.intro True.intro True.intro))))))
theorem fn11 (k : Nat) (args : List AV) (x : mi11.den) (r : mo11.den) (h1 : args.length = mi11.items.length) (h2 : mi11.dec (Th.start args) = some x) (h3 : F11 k x = some r) : CallOK Tryz.prog 11 args (ansOf (outL mo11.items r)) :=
  call_of hm hT (ok_O27 k) (fn := Tryz.f11) (c := c11) Tryz.func11 rfl rfl rfl (lk11 k) rfl (by decide) rfl h1 h2 h3
noncomputable def O11 (k : Nat) : Orc := fun R f args K => bif Nat.beq f 11 then callF mi11 mo11 (F11 k) args K else O27 k R f args K
theorem ok_O11 (k : Nat) : OrcOK (O11 k) (CallOK Tryz.prog) := orc_add (fn11 k) (ok_O27 k)
noncomputable def c69 : Code := Tryz.f69.body.getD .skip
noncomputable def mi69 : Msk := ⟨[(.tmp 0, .val (.st (.cons (.int .i64) (.cons (.slice (.slice (.int .u8))) .nil))))], []⟩
noncomputable def mo69 : Msk := ⟨[(.tmp 2, .val .bool)], []⟩
noncomputable def L69 (k : Nat) : LOrc := fun _ _ _ _ => none
noncomputable def F69 (k : Nat) (v : mi69.den) : Option mo69.den := runF TI (O11 k) (L69 k) c69 mi69 mo69 v
theorem lk69 (k : Nat) : LinksOK Tryz.prog 19 (L69 k) c69 := (And.intro True.intro (And.intro True.intro True.intro))
theorem fn69 (k : Nat) (args : List AV) (x : mi69.den) (r : mo69.den) (h1 : args.length = mi69.items.length) (h2 : mi69.dec (Th.start args) = some x) (h3 : F69 k x = some r) : CallOK Tryz.prog 69 args (ansOf (outL mo69.items r)) :=
  call_of hm hT (ok_O11 k) (fn := Tryz.f69) (c := c69) Tryz.func69 rfl rfl rfl (lk69 k) rfl (by decide) rfl h1 h2 h3
noncomputable def O69 (k : Nat) : Orc := fun R f args K => bif Nat.beq f 69 then callF mi69 mo69 (F69 k) args K else O11 k R f args K
theorem ok_O69 (k : Nat) : OrcOK (O69 k) (CallOK Tryz.prog) := orc_add (fn69 k) (ok_O11 k)
noncomputable def c70 : Code := Tryz.f70.body.getD .skip
noncomputable def mi70 : Msk := ⟨[(.tmp 0, .val (.st (.cons (.int .i64) (.cons (.slice (.slice (.int .u8))) .nil))))], []⟩
noncomputable def mo70 : Msk := ⟨[(.tmp 2, .val (.int .i64))], []⟩
noncomputable def L70 (k : Nat) : LOrc := fun _ _ _ _ => none
noncomputable def F70 (k : Nat) (v : mi70.den) : Option mo70.den := runF TI (O69 k) (L70 k) c70 mi70 mo70 v
theorem lk70 (k : Nat) : LinksOK Tryz.prog 12 (L70 k) c70 := (And.intro True.intro (And.intro (And.intro True.intro (And.intro (And.intro True.intro True.intro) True.intro)) (And.intro True.intro True.intro)))
theorem fn70 (k : Nat) (args : List AV) (x : mi70.den) (r : mo70.den) (h1 : args.length = mi70.items.length) (h2 : mi70.dec (Th.start args) = some x) (h3 : F70 k x = some r) : CallOK Tryz.prog 70 args (ansOf (outL mo70.items r)) :=
  call_of hm hT (ok_O69 k) (fn := Tryz.f70) (c := c70) Tryz.func70 rfl rfl rfl (lk70 k) rfl (by decide) rfl h1 h2 h3
noncomputable def O70 (k : Nat) : Orc := fun R f args K => bif Nat.beq f 70 then callF mi70 mo70 (F70 k) args K else O69 k R f args K
theorem ok_O70 (k : Nat) : OrcOK (O70 k) (CallOK Tryz.prog) := orc_add (fn70 k) (ok_O69 k)
noncomputable def c71 : Code := Tryz.f71.body.getD .skip
noncomputable def mo71 : Msk := ⟨[(.tmp 2, .row false (.slice (.int .u8)))], []⟩
noncomputable def L71 : LOrc := fun _ _ _ _ => none
noncomputable def F71 (k : Nat) (l : List (Ty.den (.slice (.int .u8)))) : Option mo71.den := run TI (O70 k) L71 c71 (Th.start [.nsl (.slice (.int .u8)) l]) (endF mo71)
theorem fn71 (k : Nat) (l : List (Ty.den (.slice (.int .u8)))) (r : mo71.den) (h : F71 k l = some r) : CallOK Tryz.prog 71 [.sl (.slice (.int .u8)) l] (ansOf (outL mo71.items r)) :=
  call_nil hm hT (ok_O70 k) (fn := Tryz.f71) (c := c71) Tryz.func71 rfl rfl rfl ((And.intro True.intro (And.intro (And.intro True.intro (And.intro (And.intro True.intro True.intro) True.intro)) (And.intro True.intro True.intro))) : LinksOK Tryz.prog 8 L71 c71) (by decide) rfl (fun e => by subst e; exact h) h
noncomputable def O71 (k : Nat) : Orc := fun R f args K => bif Nat.beq f 71 then callN (.slice (.int .u8)) mo71 (F71 k) args K else O70 k R f args K
theorem ok_O71 (k : Nat) : OrcOK (O71 k) (CallOK Tryz.prog) := orc_addN (fn71 k) (ok_O70 k)
noncomputable def c30 : Code := Tryz.f30.body.getD .skip
noncomputable def mi30 : Msk := ⟨[(.tmp 0, .val (.st (.cons (.int .i64) (.cons (.slice (.slice (.int .u8))) .nil)))), (.tmp 1, .val (.slice (.slice (.int .u8))))], []⟩
noncomputable def mo30 : Msk := ⟨[(.res 4, .val (.st (.cons (.int .i64) (.cons (.slice (.slice (.int .u8))) .nil)))), (.tmp 5, .val (.int .i64))], []⟩
noncomputable def L30_7 (k : Nat) : LOrc := fun _ _ _ _ => none
noncomputable def b30_7 : Code := (findLoop 7 c30).getD .skip
noncomputable def m30_7 : Msk := ⟨[(.tmp 2, .ptr 2 0), (.tmp 4, .ptr 4 0), (.tmp 24, .val (.slice (.slice (.int .u8)))), (.tmp 25, .val (.int .i64)), (.tmp 26, .val (.int .i64)), (.cell 2 0, .val (.int .i64)), (.cell 2 1, .row false (.slice (.int .u8))), (.cell 4 0, .val (.int .i64)), (.cell 4 1, .row false (.slice (.int .u8)))], [(2, 2), (4, 2)]⟩
noncomputable def x30_7 : List (X × Msk) := [(.exit 1, ⟨[(.tmp 2, .ptr 2 0), (.tmp 4, .ptr 4 0), (.cell 2 0, .val (.int .i64)), (.cell 2 1, .row false (.slice (.int .u8))), (.cell 4 0, .val (.int .i64)), (.cell 4 1, .row false (.slice (.int .u8)))], [(2, 2), (4, 2)]⟩)]
noncomputable def F30_7 (k : Nat) : Nat → m30_7.den → Option (denE x30_7)
  | 0, _ => none
  | j + 1, v => round TI (O71 k) (L30_7 k) b30_7 m30_7 x30_7 (F30_7 k j) v
theorem lk30_7_ (k : Nat) : LinksOK Tryz.prog 39 (L30_7 k) b30_7 := (And.intro True.intro (And.intro (And.intro True.intro True.intro) (And.intro (And.intro True.intro True.intro) True.intro)))
noncomputable def L30 (k : Nat) : LOrc := fun R lk s K => match lk with
  | .loop r => bif Nat.beq r 7 then link m30_7 x30_7 (F30_7 k k) s K else none
  | .label l => none
theorem lk_L30_7 (k : Nat) : LoopOK Tryz.prog 39 (L30 k) b30_7 := loopOK_of hm hT (ok_O71 k) (fun _ _ _ h => h) rfl (lk30_7_ k) rfl rfl (F := F30_7 k) (fun _ => rfl) (fun _ _ => rfl) (n := k) fun _ _ _ => rfl
noncomputable def F30 (k : Nat) (v : mi30.den) : Option mo30.den := runF TI (O71 k) (L30 k) c30 mi30 mo30 v
theorem lk30 (k : Nat) : LinksOK Tryz.prog 39 (L30 k) c30 := (And.intro True.intro (And.intro (And.intro True.intro (And.intro (And.intro True.intro True.intro) (And.intro True.intro (And.intro (And.intro True.intro True.intro) True.intro)))) (And.intro True.intro (And.intro (And.intro True.intro (lk_L30_7 k)) (And.intro True.intro True.intro)))))
theorem fn30 (k : Nat) (args : List AV) (x : mi30.den) (r : mo30.den) (h1 : args.length = mi30.items.length) (h2 : mi30.dec (Th.start args) = some x) (h3 : F30 k x = some r) : CallOK Tryz.prog 30 args (ansOf (outL mo30.items r)) :=
  call_of hm hT (ok_O71 k) (fn := Tryz.f30) (c := c30) Tryz.func30 rfl rfl rfl (lk30 k) rfl (by decide) rfl h1 h2 h3
noncomputable def O30 (k : Nat) : Orc := fun R f args K => bif Nat.beq f 30 then callF mi30 mo30 (F30 k) args K else O71 k R f args K
theorem ok_O30 (k : Nat) : OrcOK (O30 k) (CallOK Tryz.prog) := orc_add (fn30 k) (ok_O71 k)
noncomputable def c13 : Code := Tryz.f13.body.getD .skip
noncomputable def mi13 : Msk := ⟨[(.tmp 0, .val (.st (.cons (.int .i64) (.cons (.slice (.slice (.int .u8))) .nil)))), (.tmp 1, .val (.slice (.st (.cons (.int .i64) (.cons .str (.cons (.int .u64) (.cons (.int .u32) (.cons .str (.cons .str .nil)))))))))], []⟩
noncomputable def mo13 : Msk := ⟨[(.res 4, .val (.st (.cons (.int .i64) (.cons (.slice (.slice (.int .u8))) .nil)))), (.tmp 5, .val (.int .i64))], []⟩
noncomputable def L13_g0 (k : Nat) : LOrc := fun _ _ _ _ => none
noncomputable def b13_g0 : Code := (findScope 0 c13).getD .skip
noncomputable def l13_g0 : List (X × Msk) := [(.goto 0, ⟨[(.tmp 1, .val (.slice (.st (.cons (.int .i64) (.cons .str (.cons (.int .u64) (.cons (.int .u32) (.cons .str (.cons .str .nil))))))))), (.tmp 2, .ptr 2 0), (.tmp 4, .ptr 4 0), (.tmp 6, .row false (.slice (.int .u8))), (.tmp 7, .val (.int .i64)), (.cell 2 0, .val (.int .i64)), (.cell 2 1, .val (.slice (.slice (.int .u8)))), (.cell 4 0, .val (.int .i64)), (.cell 4 1, .row false (.slice (.int .u8)))], [(2, 2), (4, 2)]⟩)]
noncomputable def x13_g0 : List (X × Msk) := [(.ret, ⟨[(.tmp 4, .ptr 4 0), (.tmp 5, .val (.int .i64)), (.cell 4 0, .val (.int .i64)), (.cell 4 1, .val (.slice (.slice (.int .u8))))], [(4, 2)]⟩)]
noncomputable def F13_g0 (k : Nat) : Nat → denE l13_g0 → Option (denE x13_g0)
  | 0, _ => none
  | j + 1, v => pass TI (O30 k) (L13_g0 k) b13_g0 l13_g0 x13_g0 (F13_g0 k j) v
theorem lk13_g0_ (k : Nat) : LinksOK Tryz.prog 37 (L13_g0 k) b13_g0 := (And.intro True.intro (And.intro True.intro (And.intro True.intro (And.intro (And.intro True.intro (And.intro (And.intro True.intro (And.intro (And.intro True.intro (And.intro (And.intro True.intro True.intro) True.intro)) (And.intro True.intro (And.intro True.intro True.intro)))) True.intro)) (And.intro True.intro True.intro)))))
noncomputable def L13 (k : Nat) : LOrc := fun R lk s K => match lk with
  | .loop r => none
  | .label l => (match findLabel b13_g0 l with | some _ => linkJ l13_g0 x13_g0 (F13_g0 k k) l s K | none => none)
theorem lk_L13_g0 (k : Nat) : JumpsOK Tryz.prog 37 (L13 k) b13_g0 := jumpsOK_of hm hT (ok_O30 k) (fun _ _ _ h => h) rfl (lk13_g0_ k) rfl rfl (F := F13_g0 k) (fun _ => rfl) (fun _ _ => rfl) (n := k) fun R l s K rest hf => by
  show (match findLabel b13_g0 l with | some _ => linkJ l13_g0 x13_g0 (F13_g0 k k) l s K | none => none) = _
  rw [hf]
noncomputable def F13 (k : Nat) (v : mi13.den) : Option mo13.den := runF TI (O30 k) (L13 k) c13 mi13 mo13 v
theorem lk13 (k : Nat) : LinksOK Tryz.prog 37 (L13 k) c13 := (And.intro True.intro (And.intro (lk_L13_g0 k) (And.intro True.intro (And.intro True.intro (And.intro True.intro (And.intro (And.intro True.intro (And.intro (And.intro True.intro (And.intro (And.intro True.intro (And.intro (And.intro True.intro True.intro) True.intro)) (And.intro True.intro (And.intro True.intro True.intro)))) True.intro)) (And.intro True.intro True.intro)))))))
theorem fn13 (k : Nat) (args : List AV) (x : mi13.den) (r : mo13.den) (h1 : args.length = mi13.items.length) (h2 : mi13.dec (Th.start args) = some x) (h3 : F13 k x = some r) : CallOK Tryz.prog 13 args (ansOf (outL mo13.items r)) :=
  call_of hm hT (ok_O30 k) (fn := Tryz.f13) (c := c13) Tryz.func13 rfl rfl rfl (lk13 k) rfl (by decide) rfl h1 h2 h3
noncomputable def O13 (k : Nat) : Orc := fun R f args K => bif Nat.beq f 13 then callF mi13 mo13 (F13 k) args K else O30 k R f args K
theorem ok_O13 (k : Nat) : OrcOK (O13 k) (CallOK Tryz.prog) := orc_add (fn13 k) (ok_O30 k)
noncomputable def c4 : Code := Tryz.f4.body.getD .skip
noncomputable def mi4 : Msk := ⟨[], []⟩
noncomputable def mo4 : Msk := ⟨[(.tmp 0, .val .bool)], []⟩
noncomputable def L4 (k : Nat) : LOrc := fun _ _ _ _ => none
noncomputable def F4 (k : Nat) (v : mi4.den) : Option mo4.den := runF TI (O13 k) (L4 k) c4 mi4 mo4 v
theorem lk4 (k : Nat) : LinksOK Tryz.prog 92 (L4 k) c4 := (And.intro True.intro (And.intro True.intro (And.intro True.intro (And.intro True.intro (And.intro True.intro (And.intro True.intro (And.intro True.intro (And.intro True.intro True.intro))))))))
theorem fn4 (k : Nat) (args : List AV) (x : mi4.den) (r : mo4.den) (h1 : args.length = mi4.items.length) (h2 : mi4.dec (Th.start args) = some x) (h3 : F4 k x = some r) : CallOK Tryz.prog 4 args (ansOf (outL mo4.items r)) :=
  call_of hm hT (ok_O13 k) (fn := Tryz.f4) (c := c4) Tryz.func4 rfl rfl rfl (lk4 k) rfl (by decide) rfl h1 h2 h3
noncomputable def O4 (k : Nat) : Orc := fun R f args K => bif Nat.beq f 4 then callF mi4 mo4 (F4 k) args K else O13 k R f args K
theorem ok_O4 (k : Nat) : OrcOK (O4 k) (CallOK Tryz.prog) := orc_add (fn4 k) (ok_O13 k)
noncomputable def c5 : Code := Tryz.f5.body.getD .skip
noncomputable def mi5 : Msk := ⟨[(.tmp 0, .val (.st (.cons (.int .i64) (.cons .str (.cons (.int .u64) (.cons (.int .u32) (.cons .str (.cons .str .nil))))))))], []⟩
noncomputable def mo5 : Msk := ⟨[(.tmp 2, .val .bool)], []⟩
noncomputable def L5 (k : Nat) : LOrc := fun _ _ _ _ => none
noncomputable def F5 (k : Nat) (v : mi5.den) : Option mo5.den := runF TI (O4 k) (L5 k) c5 mi5 mo5 v
theorem lk5 (k : Nat) : LinksOK Tryz.prog 19 (L5 k) c5 := (And.intro True.intro (And.intro True.intro True.intro))
theorem fn5 (k : Nat) (args : List AV) (x : mi5.den) (r : mo5.den) (h1 : args.length = mi5.items.length) (h2 : mi5.dec (Th.start args) = some x) (h3 : F5 k x = some r) : CallOK Tryz.prog 5 args (ansOf (outL mo5.items r)) :=
  call_of hm hT (ok_O4 k) (fn := Tryz.f5) (c := c5) Tryz.func5 rfl rfl rfl (lk5 k) rfl (by decide) rfl h1 h2 h3
noncomputable def O5 (k : Nat) : Orc := fun R f args K => bif Nat.beq f 5 then callF mi5 mo5 (F5 k) args K else O4 k R f args K
theorem ok_O5 (k : Nat) : OrcOK (O5 k) (CallOK Tryz.prog) := orc_add (fn5 k) (ok_O4 k)
noncomputable def c6 : Code := Tryz.f6.body.getD .skip
noncomputable def mi6 : Msk := ⟨[(.tmp 0, .val (.slice (.slice (.int .u8))))], []⟩
noncomputable def mo6 : Msk := ⟨[(.tmp 2, .val .bool)], []⟩
noncomputable def L6_2 (k : Nat) : LOrc := fun _ _ _ _ => none
noncomputable def b6_2 : Code := (findLoop 2 c6).getD .skip
noncomputable def m6_2 : Msk := ⟨[(.tmp 0, .val (.slice (.slice (.int .u8)))), (.tmp 3, .val (.int .i64))], []⟩
noncomputable def x6_2 : List (X × Msk) := [(.exit 0, ⟨[(.tmp 0, .val (.slice (.slice (.int .u8))))], []⟩), (.ret, ⟨[(.tmp 2, .val .bool)], []⟩)]
noncomputable def F6_2 (k : Nat) : Nat → m6_2.den → Option (denE x6_2)
  | 0, _ => none
  | j + 1, v => round TI (O5 k) (L6_2 k) b6_2 m6_2 x6_2 (F6_2 k j) v
theorem lk6_2_ (k : Nat) : LinksOK Tryz.prog 23 (L6_2 k) b6_2 := (And.intro (And.intro True.intro (And.intro True.intro True.intro)) (And.intro (And.intro True.intro (And.intro (And.intro True.intro True.intro) True.intro)) True.intro))
noncomputable def L6 (k : Nat) : LOrc := fun R lk s K => match lk with
  | .loop r => bif Nat.beq r 2 then link m6_2 x6_2 (F6_2 k k) s K else none
  | .label l => none
theorem lk_L6_2 (k : Nat) : LoopOK Tryz.prog 23 (L6 k) b6_2 := loopOK_of hm hT (ok_O5 k) (fun _ _ _ h => h) rfl (lk6_2_ k) rfl rfl (F := F6_2 k) (fun _ => rfl) (fun _ _ => rfl) (n := k) fun _ _ _ => rfl
noncomputable def F6 (k : Nat) (v : mi6.den) : Option mo6.den := runF TI (O5 k) (L6 k) c6 mi6 mo6 v
theorem lk6 (k : Nat) : LinksOK Tryz.prog 23 (L6 k) c6 := (And.intro True.intro (And.intro (And.intro True.intro (lk_L6_2 k)) (And.intro True.intro True.intro)))
theorem fn6 (k : Nat) (args : List AV) (x : mi6.den) (r : mo6.den) (h1 : args.length = mi6.items.length) (h2 : mi6.dec (Th.start args) = some x) (h3 : F6 k x = some r) : CallOK Tryz.prog 6 args (ansOf (outL mo6.items r)) :=
  call_of hm hT (ok_O5 k) (fn := Tryz.f6) (c := c6) Tryz.func6 rfl rfl rfl (lk6 k) rfl (by decide) rfl h1 h2 h3
noncomputable def O6 (k : Nat) : Orc := fun R f args K => bif Nat.beq f 6 then callF mi6 mo6 (F6 k) args K else O5 k R f args K
theorem ok_O6 (k : Nat) : OrcOK (O6 k) (CallOK Tryz.prog) := orc_add (fn6 k) (ok_O5 k)
noncomputable def c7 : Code := Tryz.f7.body.getD .skip
noncomputable def mi7 : Msk := ⟨[(.tmp 0, .val (.slice (.st (.cons (.int .i64) (.cons .str (.cons (.int .u64) (.cons (.int .u32) (.cons .str (.cons .str .nil))))))))), (.tmp 1, .val (.int .i64))], []⟩
noncomputable def mo7 : Msk := ⟨[(.tmp 4, .val .bool)], []⟩
noncomputable def L7_2 (k : Nat) : LOrc := fun _ _ _ _ => none
noncomputable def b7_2 : Code := (findLoop 2 c7).getD .skip
noncomputable def m7_2 : Msk := ⟨[(.tmp 0, .val (.slice (.st (.cons (.int .i64) (.cons .str (.cons (.int .u64) (.cons (.int .u32) (.cons .str (.cons .str .nil))))))))), (.tmp 1, .val (.int .i64)), (.tmp 5, .val (.int .i64))], []⟩
noncomputable def x7_2 : List (X × Msk) := [(.exit 0, ⟨[(.tmp 0, .val (.slice (.st (.cons (.int .i64) (.cons .str (.cons (.int .u64) (.cons (.int .u32) (.cons .str (.cons .str .nil))))))))), (.tmp 1, .val (.int .i64))], []⟩), (.ret, ⟨[(.tmp 4, .val .bool)], []⟩)]
noncomputable def F7_2 (k : Nat) : Nat → m7_2.den → Option (denE x7_2)
  | 0, _ => none
  | j + 1, v => round TI (O6 k) (L7_2 k) b7_2 m7_2 x7_2 (F7_2 k j) v
theorem lk7_2_ (k : Nat) : LinksOK Tryz.prog 27 (L7_2 k) b7_2 := (And.intro (And.intro True.intro (And.intro True.intro True.intro)) (And.intro (And.intro True.intro (And.intro (And.intro True.intro True.intro) True.intro)) True.intro))
noncomputable def L7 (k : Nat) : LOrc := fun R lk s K => match lk with
  | .loop r => bif Nat.beq r 2 then link m7_2 x7_2 (F7_2 k k) s K else none
  | .label l => none
theorem lk_L7_2 (k : Nat) : LoopOK Tryz.prog 27 (L7 k) b7_2 := loopOK_of hm hT (ok_O6 k) (fun _ _ _ h => h) rfl (lk7_2_ k) rfl rfl (F := F7_2 k) (fun _ => rfl) (fun _ _ => rfl) (n := k) fun _ _ _ => rfl
noncomputable def F7 (k : Nat) (v : mi7.den) : Option mo7.den := runF TI (O6 k) (L7 k) c7 mi7 mo7 v
theorem lk7 (k : Nat) : LinksOK Tryz.prog 27 (L7 k) c7 := (And.intro True.intro (And.intro (And.intro True.intro (lk_L7_2 k)) (And.intro True.intro True.intro)))
theorem fn7 (k : Nat) (args : List AV) (x : mi7.den) (r : mo7.den) (h1 : args.length = mi7.items.length) (h2 : mi7.dec (Th.start args) = some x) (h3 : F7 k x = some r) : CallOK Tryz.prog 7 args (ansOf (outL mo7.items r)) :=
  call_of hm hT (ok_O6 k) (fn := Tryz.f7) (c := c7) Tryz.func7 rfl rfl rfl (lk7 k) rfl (by decide) rfl h1 h2 h3
noncomputable def O7 (k : Nat) : Orc := fun R f args K => bif Nat.beq f 7 then callF mi7 mo7 (F7 k) args K else O6 k R f args K
theorem ok_O7 (k : Nat) : OrcOK (O7 k) (CallOK Tryz.prog) := orc_add (fn7 k) (ok_O6 k)
noncomputable def c81 : Code := Tryz.f81.body.getD .skip
noncomputable def mi81 : Msk := ⟨[], []⟩
noncomputable def mo81 : Msk := ⟨[(.tmp 0, .row false (.int .i64))], []⟩
noncomputable def L81 (k : Nat) : LOrc := fun _ _ _ _ => none
noncomputable def F81 (k : Nat) (v : mi81.den) : Option mo81.den := runF TI (O7 k) (L81 k) c81 mi81 mo81 v
theorem lk81 (k : Nat) : LinksOK Tryz.prog 2 (L81 k) c81 := (And.intro True.intro (And.intro True.intro True.intro))
theorem fn81 (k : Nat) (args : List AV) (x : mi81.den) (r : mo81.den) (h1 : args.length = mi81.items.length) (h2 : mi81.dec (Th.start args) = some x) (h3 : F81 k x = some r) : CallOK Tryz.prog 81 args (ansOf (outL mo81.items r)) :=
  call_of hm hT (ok_O7 k) (fn := Tryz.f81) (c := c81) Tryz.func81 rfl rfl rfl (lk81 k) rfl (by decide) rfl h1 h2 h3
noncomputable def O81 (k : Nat) : Orc := fun R f args K => bif Nat.beq f 81 then callF mi81 mo81 (F81 k) args K else O7 k R f args K
theorem ok_O81 (k : Nat) : OrcOK (O81 k) (CallOK Tryz.prog) := orc_add (fn81 k) (ok_O7 k)
noncomputable def c41 : Code := Tryz.f41.body.getD .skip
noncomputable def mi41 : Msk := ⟨[(.tmp 0, .val (.int .i64))], []⟩
noncomputable def mo41 : Msk := ⟨[(.res 2, .val (.st (.cons (.int .i64) (.cons (.int .i64) (.cons (.int .i64) .nil))))), (.tmp 3, .val .bool)], []⟩
noncomputable def L41_3 (k : Nat) : LOrc := fun _ _ _ _ => none
noncomputable def b41_3 : Code := (findLoop 3 c41).getD .skip
noncomputable def m41_3 : Msk := ⟨[(.tmp 0, .val (.int .i64)), (.tmp 2, .ptr 2 0), (.tmp 4, .row false (.int .i64)), (.tmp 5, .val (.int .i64)), (.cell 2 0, .val (.int .i64)), (.cell 2 1, .val (.int .i64)), (.cell 2 2, .val (.int .i64))], [(2, 3)]⟩
noncomputable def x41_3 : List (X × Msk) := [(.exit 0, ⟨[(.tmp 2, .ptr 2 0), (.cell 2 0, .val (.int .i64)), (.cell 2 1, .val (.int .i64)), (.cell 2 2, .val (.int .i64))], [(2, 3)]⟩), (.ret, ⟨[(.tmp 2, .ptr 2 0), (.tmp 3, .val .bool), (.cell 2 0, .val (.int .i64)), (.cell 2 1, .val (.int .i64)), (.cell 2 2, .val (.int .i64))], [(2, 3)]⟩)]
noncomputable def F41_3 (k : Nat) : Nat → m41_3.den → Option (denE x41_3)
  | 0, _ => none
  | j + 1, v => round TI (O81 k) (L41_3 k) b41_3 m41_3 x41_3 (F41_3 k j) v
theorem lk41_3_ (k : Nat) : LinksOK Tryz.prog 35 (L41_3 k) b41_3 := (And.intro (And.intro True.intro (And.intro True.intro True.intro)) (And.intro (And.intro True.intro (And.intro (And.intro True.intro True.intro) True.intro)) True.intro))
noncomputable def L41 (k : Nat) : LOrc := fun R lk s K => match lk with
  | .loop r => bif Nat.beq r 3 then link m41_3 x41_3 (F41_3 k k) s K else none
  | .label l => none
theorem lk_L41_3 (k : Nat) : LoopOK Tryz.prog 35 (L41 k) b41_3 := loopOK_of hm hT (ok_O81 k) (fun _ _ _ h => h) rfl (lk41_3_ k) rfl rfl (F := F41_3 k) (fun _ => rfl) (fun _ _ => rfl) (n := k) fun _ _ _ => rfl
noncomputable def F41 (k : Nat) (v : mi41.den) : Option mo41.den := runF TI (O81 k) (L41 k) c41 mi41 mo41 v
theorem lk41 (k : Nat) : LinksOK Tryz.prog 35 (L41 k) c41 := (And.intro True.intro (And.intro True.intro (And.intro (And.intro True.intro (lk_L41_3 k)) (And.intro True.intro True.intro))))
theorem fn41 (k : Nat) (args : List AV) (x : mi41.den) (r : mo41.den) (h1 : args.length = mi41.items.length) (h2 : mi41.dec (Th.start args) = some x) (h3 : F41 k x = some r) : CallOK Tryz.prog 41 args (ansOf (outL mo41.items r)) :=
  call_of hm hT (ok_O81 k) (fn := Tryz.f41) (c := c41) Tryz.func41 rfl rfl rfl (lk41 k) rfl (by decide) rfl h1 h2 h3
noncomputable def O41 (k : Nat) : Orc := fun R f args K => bif Nat.beq f 41 then callF mi41 mo41 (F41 k) args K else O81 k R f args K
theorem ok_O41 (k : Nat) : OrcOK (O41 k) (CallOK Tryz.prog) := orc_add (fn41 k) (ok_O81 k)
noncomputable def c42 : Code := Tryz.f42.body.getD .skip
noncomputable def mi42 : Msk := ⟨[(.tmp 0, .val (.int .i64)), (.tmp 1, .val .str)], []⟩
noncomputable def mo42 : Msk := ⟨[(.tmp 4, .val .bool)], []⟩
noncomputable def L42_2 (k : Nat) : LOrc := fun _ _ _ _ => none
noncomputable def b42_2 : Code := (findLoop 2 c42).getD .skip
noncomputable def m42_2 : Msk := ⟨[(.tmp 0, .val (.int .i64)), (.tmp 1, .val .str), (.tmp 5, .val (.int .i64))], []⟩
noncomputable def x42_2 : List (X × Msk) := [(.exit 0, ⟨[], []⟩), (.ret, ⟨[(.tmp 4, .val .bool)], []⟩)]
noncomputable def F42_2 (k : Nat) : Nat → m42_2.den → Option (denE x42_2)
  | 0, _ => none
  | j + 1, v => round TI (O41 k) (L42_2 k) b42_2 m42_2 x42_2 (F42_2 k j) v
theorem lk42_2_ (k : Nat) : LinksOK Tryz.prog 32 (L42_2 k) b42_2 := (And.intro (And.intro True.intro (And.intro True.intro True.intro)) (And.intro (And.intro True.intro (And.intro (And.intro True.intro (And.intro True.intro True.intro)) (And.intro True.intro (And.intro (And.intro True.intro True.intro) True.intro)))) True.intro))
noncomputable def L42 (k : Nat) : LOrc := fun R lk s K => match lk with
  | .loop r => bif Nat.beq r 2 then link m42_2 x42_2 (F42_2 k k) s K else none
  | .label l => none
theorem lk_L42_2 (k : Nat) : LoopOK Tryz.prog 32 (L42 k) b42_2 := loopOK_of hm hT (ok_O41 k) (fun _ _ _ h => h) rfl (lk42_2_ k) rfl rfl (F := F42_2 k) (fun _ => rfl) (fun _ _ => rfl) (n := k) fun _ _ _ => rfl
noncomputable def F42 (k : Nat) (v : mi42.den) : Option mo42.den := runF TI (O41 k) (L42 k) c42 mi42 mo42 v
theorem lk42 (k : Nat) : LinksOK Tryz.prog 32 (L42 k) c42 := (And.intro True.intro (And.intro (And.intro True.intro (lk_L42_2 k)) (And.intro True.intro True.intro)))
theorem fn42 (k : Nat) (args : List AV) (x : mi42.den) (r : mo42.den) (h1 : args.length = mi42.items.length) (h2 : mi42.dec (Th.start args) = some x) (h3 : F42 k x = some r) : CallOK Tryz.prog 42 args (ansOf (outL mo42.items r)) :=
  call_of hm hT (ok_O41 k) (fn := Tryz.f42) (c := c42) Tryz.func42 rfl rfl rfl (lk42 k) rfl (by decide) rfl h1 h2 h3
noncomputable def O42 (k : Nat) : Orc := fun R f args K => bif Nat.beq f 42 then callF mi42 mo42 (F42 k) args K else O41 k R f args K
theorem ok_O42 (k : Nat) : OrcOK (O42 k) (CallOK Tryz.prog) := orc_add (fn42 k) (ok_O41 k)
noncomputable def c19 : Code := Tryz.f19.body.getD .skip
noncomputable def mi19 : Msk := ⟨[(.tmp 0, .val (.int .i64)), (.tmp 1, .val .str)], []⟩
noncomputable def mo19 : Msk := ⟨[(.tmp 4, .val .bool)], []⟩
noncomputable def L19 (k : Nat) : LOrc := fun _ _ _ _ => none
noncomputable def F19 (k : Nat) (v : mi19.den) : Option mo19.den := runF TI (O42 k) (L19 k) c19 mi19 mo19 v
theorem lk19 (k : Nat) : LinksOK Tryz.prog 42 (L19 k) c19 := (And.intro True.intro (And.intro True.intro (And.intro (And.intro True.intro (And.intro (And.intro True.intro True.intro) True.intro)) (And.intro True.intro True.intro))))
theorem fn19 (k : Nat) (args : List AV) (x : mi19.den) (r : mo19.den) (h1 : args.length = mi19.items.length) (h2 : mi19.dec (Th.start args) = some x) (h3 : F19 k x = some r) : CallOK Tryz.prog 19 args (ansOf (outL mo19.items r)) :=
  call_of hm hT (ok_O42 k) (fn := Tryz.f19) (c := c19) Tryz.func19 rfl rfl rfl (lk19 k) rfl (by decide) rfl h1 h2 h3
noncomputable def O19 (k : Nat) : Orc := fun R f args K => bif Nat.beq f 19 then callF mi19 mo19 (F19 k) args K else O42 k R f args K
theorem ok_O19 (k : Nat) : OrcOK (O19 k) (CallOK Tryz.prog) := orc_add (fn19 k) (ok_O42 k)
noncomputable def c20 : Code := Tryz.f20.body.getD .skip
noncomputable def mi20 : Msk := ⟨[(.tmp 0, .val (.int .i64))], []⟩
noncomputable def mo20 : Msk := ⟨[(.tmp 2, .val .bool)], []⟩
noncomputable def L20 (k : Nat) : LOrc := fun _ _ _ _ => none
noncomputable def F20 (k : Nat) (v : mi20.den) : Option mo20.den := runF TI (O19 k) (L20 k) c20 mi20 mo20 v
theorem lk20 (k : Nat) : LinksOK Tryz.prog 17 (L20 k) c20 := (And.intro True.intro (And.intro True.intro True.intro))
theorem fn20 (k : Nat) (args : List AV) (x : mi20.den) (r : mo20.den) (h1 : args.length = mi20.items.length) (h2 : mi20.dec (Th.start args) = some x) (h3 : F20 k x = some r) : CallOK Tryz.prog 20 args (ansOf (outL mo20.items r)) :=
  call_of hm hT (ok_O19 k) (fn := Tryz.f20) (c := c20) Tryz.func20 rfl rfl rfl (lk20 k) rfl (by decide) rfl h1 h2 h3
noncomputable def O20 (k : Nat) : Orc := fun R f args K => bif Nat.beq f 20 then callF mi20 mo20 (F20 k) args K else O19 k R f args K
theorem ok_O20 (k : Nat) : OrcOK (O20 k) (CallOK Tryz.prog) := orc_add (fn20 k) (ok_O19 k)
noncomputable def c43 : Code := Tryz.f43.body.getD .skip
noncomputable def mi43 : Msk := ⟨[(.tmp 0, .val .str)], []⟩
noncomputable def mo43 : Msk := ⟨[(.tmp 2, .val .bool)], []⟩
noncomputable def L43_2 (k : Nat) : LOrc := fun _ _ _ _ => none
noncomputable def b43_2 : Code := (findLoop 2 c43).getD .skip
noncomputable def m43_2 : Msk := ⟨[(.tmp 0, .val .str), (.tmp 3, .val (.int .i64))], []⟩
noncomputable def x43_2 : List (X × Msk) := [(.exit 0, ⟨[(.tmp 0, .val .str)], []⟩), (.ret, ⟨[(.tmp 2, .val .bool)], []⟩)]
noncomputable def F43_2 (k : Nat) : Nat → m43_2.den → Option (denE x43_2)
  | 0, _ => none
  | j + 1, v => round TI (O20 k) (L43_2 k) b43_2 m43_2 x43_2 (F43_2 k j) v
theorem lk43_2_ (k : Nat) : LinksOK Tryz.prog 23 (L43_2 k) b43_2 := (And.intro (And.intro True.intro (And.intro True.intro True.intro)) (And.intro (And.intro True.intro (And.intro (And.intro True.intro True.intro) True.intro)) True.intro))
noncomputable def L43 (k : Nat) : LOrc := fun R lk s K => match lk with
  | .loop r => bif Nat.beq r 2 then link m43_2 x43_2 (F43_2 k k) s K else none
  | .label l => none
theorem lk_L43_2 (k : Nat) : LoopOK Tryz.prog 23 (L43 k) b43_2 := loopOK_of hm hT (ok_O20 k) (fun _ _ _ h => h) rfl (lk43_2_ k) rfl rfl (F := F43_2 k) (fun _ => rfl) (fun _ _ => rfl) (n := k) fun _ _ _ => rfl
noncomputable def F43 (k : Nat) (v : mi43.den) : Option mo43.den := runF TI (O20 k) (L43 k) c43 mi43 mo43 v
theorem lk43 (k : Nat) : LinksOK Tryz.prog 23 (L43 k) c43 := (And.intro True.intro (And.intro (And.intro True.intro (lk_L43_2 k)) (And.intro True.intro True.intro)))
theorem fn43 (k : Nat) (args : List AV) (x : mi43.den) (r : mo43.den) (h1 : args.length = mi43.items.length) (h2 : mi43.dec (Th.start args) = some x) (h3 : F43 k x = some r) : CallOK Tryz.prog 43 args (ansOf (outL mo43.items r)) :=
  call_of hm hT (ok_O20 k) (fn := Tryz.f43) (c := c43) Tryz.func43 rfl rfl rfl (lk43 k) rfl (by decide) rfl h1 h2 h3
noncomputable def O43 (k : Nat) : Orc := fun R f args K => bif Nat.beq f 43 then callF mi43 mo43 (F43 k) args K else O20 k R f args K
theorem ok_O43 (k : Nat) : OrcOK (O43 k) (CallOK Tryz.prog) := orc_add (fn43 k) (ok_O20 k)
noncomputable def c21 : Code := Tryz.f21.body.getD .skip
noncomputable def mi21 : Msk := ⟨[(.tmp 0, .val .str)], []⟩
noncomputable def mo21 : Msk := ⟨[(.tmp 2, .val .bool)], []⟩
noncomputable def L21_5 (k : Nat) : LOrc := fun _ _ _ _ => none
noncomputable def b21_5 : Code := (findLoop 5 c21).getD .skip
noncomputable def m21_5 : Msk := ⟨[(.tmp 0, .val .str), (.tmp 3, .val (.int .i64)), (.tmp 4, .val (.int .i64))], []⟩
noncomputable def x21_5 : List (X × Msk) := [(.exit 0, ⟨[(.tmp 3, .val (.int .i64))], []⟩)]
noncomputable def F21_5 (k : Nat) : Nat → m21_5.den → Option (denE x21_5)
  | 0, _ => none
  | j + 1, v => round TI (O43 k) (L21_5 k) b21_5 m21_5 x21_5 (F21_5 k j) v
theorem lk21_5_ (k : Nat) : LinksOK Tryz.prog 38 (L21_5 k) b21_5 := (And.intro (And.intro True.intro (And.intro True.intro True.intro)) (And.intro (And.intro True.intro (And.intro (And.intro True.intro (And.intro (And.intro True.intro (And.intro True.intro (And.intro True.intro True.intro))) True.intro)) True.intro)) True.intro))
noncomputable def L21 (k : Nat) : LOrc := fun R lk s K => match lk with
  | .loop r => bif Nat.beq r 5 then link m21_5 x21_5 (F21_5 k k) s K else none
  | .label l => none
theorem lk_L21_5 (k : Nat) : LoopOK Tryz.prog 38 (L21 k) b21_5 := loopOK_of hm hT (ok_O43 k) (fun _ _ _ h => h) rfl (lk21_5_ k) rfl rfl (F := F21_5 k) (fun _ => rfl) (fun _ _ => rfl) (n := k) fun _ _ _ => rfl
noncomputable def F21 (k : Nat) (v : mi21.den) : Option mo21.den := runF TI (O43 k) (L21 k) c21 mi21 mo21 v
theorem lk21 (k : Nat) : LinksOK Tryz.prog 38 (L21 k) c21 := (And.intro True.intro (And.intro (And.intro True.intro (And.intro (And.intro True.intro True.intro) True.intro)) (And.intro True.intro (And.intro (And.intro True.intro (lk_L21_5 k)) (And.intro True.intro True.intro)))))
theorem fn21 (k : Nat) (args : List AV) (x : mi21.den) (r : mo21.den) (h1 : args.length = mi21.items.length) (h2 : mi21.dec (Th.start args) = some x) (h3 : F21 k x = some r) : CallOK Tryz.prog 21 args (ansOf (outL mo21.items r)) :=
  call_of hm hT (ok_O43 k) (fn := Tryz.f21) (c := c21) Tryz.func21 rfl rfl rfl (lk21 k) rfl (by decide) rfl h1 h2 h3
noncomputable def O21 (k : Nat) : Orc := fun R f args K => bif Nat.beq f 21 then callF mi21 mo21 (F21 k) args K else O43 k R f args K
theorem ok_O21 (k : Nat) : OrcOK (O21 k) (CallOK Tryz.prog) := orc_add (fn21 k) (ok_O43 k)
noncomputable def c9 : Code := Tryz.f9.body.getD .skip
noncomputable def mi9 : Msk := ⟨[(.tmp 0, .val (.st (.cons (.int .i64) (.cons .str (.cons (.int .u64) (.cons (.int .u32) (.cons .str (.cons .str .nil))))))))], []⟩
noncomputable def mo9 : Msk := ⟨[(.tmp 2, .val .bool)], []⟩
noncomputable def L9 (k : Nat) : LOrc := fun _ _ _ _ => none
noncomputable def F9 (k : Nat) (v : mi9.den) : Option mo9.den := runF TI (O21 k) (L9 k) c9 mi9 mo9 v
theorem lk9 (k : Nat) : LinksOK Tryz.prog 57 (L9 k) c9 := (And.intro True.intro (And.intro (And.intro True.intro (And.intro (And.intro True.intro True.intro) True.intro)) (And.intro (And.intro True.intro (And.intro (And.intro True.intro True.intro) True.intro)) (And.intro True.intro True.intro))))
theorem fn9 (k : Nat) (args : List AV) (x : mi9.den) (r : mo9.den) (h1 : args.length = mi9.items.length) (h2 : mi9.dec (Th.start args) = some x) (h3 : F9 k x = some r) : CallOK Tryz.prog 9 args (ansOf (outL mo9.items r)) :=
  call_of hm hT (ok_O21 k) (fn := Tryz.f9) (c := c9) Tryz.func9 rfl rfl rfl (lk9 k) rfl (by decide) rfl h1 h2 h3
noncomputable def O9 (k : Nat) : Orc := fun R f args K => bif Nat.beq f 9 then callF mi9 mo9 (F9 k) args K else O21 k R f args K
theorem ok_O9 (k : Nat) : OrcOK (O9 k) (CallOK Tryz.prog) := orc_add (fn9 k) (ok_O21 k)
noncomputable def c47 : Code := Tryz.f47.body.getD .skip
noncomputable def mi47 : Msk := ⟨[], []⟩
noncomputable def mo47 : Msk := ⟨[(.tmp 0, .row false .str)], []⟩
noncomputable def L47 (k : Nat) : LOrc := fun _ _ _ _ => none
noncomputable def F47 (k : Nat) (v : mi47.den) : Option mo47.den := runF TI (O9 k) (L47 k) c47 mi47 mo47 v
theorem lk47 (k : Nat) : LinksOK Tryz.prog 2 (L47 k) c47 := (And.intro True.intro (And.intro True.intro True.intro))
theorem fn47 (k : Nat) (args : List AV) (x : mi47.den) (r : mo47.den) (h1 : args.length = mi47.items.length) (h2 : mi47.dec (Th.start args) = some x) (h3 : F47 k x = some r) : CallOK Tryz.prog 47 args (ansOf (outL mo47.items r)) :=
  call_of hm hT (ok_O9 k) (fn := Tryz.f47) (c := c47) Tryz.func47 rfl rfl rfl (lk47 k) rfl (by decide) rfl h1 h2 h3
noncomputable def O47 (k : Nat) : Orc := fun R f args K => bif Nat.beq f 47 then callF mi47 mo47 (F47 k) args K else O9 k R f args K
theorem ok_O47 (k : Nat) : OrcOK (O47 k) (CallOK Tryz.prog) := orc_add (fn47 k) (ok_O9 k)
noncomputable def c88 : Code := Tryz.f88.body.getD .skip
noncomputable def mi88 : Msk := ⟨[(.tmp 0, .val (.int .u64)), (.tmp 1, .val (.int .i64))], []⟩
noncomputable def mo88 : Msk := ⟨[(.tmp 4, .val .str), (.tmp 5, .val (.int .i64))], []⟩
noncomputable def L88_5 (k : Nat) : LOrc := fun _ _ _ _ => none
noncomputable def b88_5 : Code := (findLoop 5 c88).getD .skip
noncomputable def m88_5 : Msk := ⟨[(.tmp 0, .val (.int .u64)), (.tmp 1, .val (.int .i64)), (.tmp 6, .val .str), (.tmp 7, .val (.int .i64))], []⟩
noncomputable def x88_5 : List (X × Msk) := [(.exit 0, ⟨[(.tmp 0, .val (.int .u64)), (.tmp 6, .val .str)], []⟩)]
noncomputable def F88_5 (k : Nat) : Nat → m88_5.den → Option (denE x88_5)
  | 0, _ => none
  | j + 1, v => round TI (O47 k) (L88_5 k) b88_5 m88_5 x88_5 (F88_5 k j) v
theorem lk88_5_ (k : Nat) : LinksOK Tryz.prog 32 (L88_5 k) b88_5 := (And.intro (And.intro True.intro (And.intro True.intro True.intro)) (And.intro (And.intro True.intro True.intro) True.intro))
noncomputable def L88 (k : Nat) : LOrc := fun R lk s K => match lk with
  | .loop r => bif Nat.beq r 5 then link m88_5 x88_5 (F88_5 k k) s K else none
  | .label l => none
theorem lk_L88_5 (k : Nat) : LoopOK Tryz.prog 32 (L88 k) b88_5 := loopOK_of hm hT (ok_O47 k) (fun _ _ _ h => h) rfl (lk88_5_ k) rfl rfl (F := F88_5 k) (fun _ => rfl) (fun _ _ => rfl) (n := k) fun _ _ _ => rfl
noncomputable def F88 (k : Nat) (v : mi88.den) : Option mo88.den := runF TI (O47 k) (L88 k) c88 mi88 mo88 v
theorem lk88 (k : Nat) : LinksOK Tryz.prog 32 (L88 k) c88 := (And.intro True.intro (And.intro (And.intro True.intro (And.intro (And.intro True.intro True.intro) True.intro)) (And.intro True.intro (And.intro (And.intro True.intro (lk_L88_5 k)) (And.intro (And.intro True.intro (And.intro (And.intro True.intro True.intro) True.intro)) (And.intro True.intro True.intro))))))
theorem fn88 (k : Nat) (args : List AV) (x : mi88.den) (r : mo88.den) (h1 : args.length = mi88.items.length) (h2 : mi88.dec (Th.start args) = some x) (h3 : F88 k x = some r) : CallOK Tryz.prog 88 args (ansOf (outL mo88.items r)) :=
  call_of hm hT (ok_O47 k) (fn := Tryz.f88) (c := c88) Tryz.func88 rfl rfl rfl (lk88 k) rfl (by decide) rfl h1 h2 h3
noncomputable def O88 (k : Nat) : Orc := fun R f args K => bif Nat.beq f 88 then callF mi88 mo88 (F88 k) args K else O47 k R f args K
theorem ok_O88 (k : Nat) : OrcOK (O88 k) (CallOK Tryz.prog) := orc_add (fn88 k) (ok_O47 k)
noncomputable def c48 : Code := Tryz.f48.body.getD .skip
noncomputable def mi48 : Msk := ⟨[(.tmp 0, .val (.int .u64)), (.tmp 1, .val (.int .i64))], []⟩
noncomputable def mo48 : Msk := ⟨[(.tmp 4, .val .str)], []⟩
noncomputable def L48 (k : Nat) : LOrc := fun _ _ _ _ => none
noncomputable def F48 (k : Nat) (v : mi48.den) : Option mo48.den := runF TI (O88 k) (L48 k) c48 mi48 mo48 v
theorem lk48 (k : Nat) : LinksOK Tryz.prog 14 (L48 k) c48 := (And.intro True.intro (And.intro True.intro (And.intro True.intro True.intro)))
theorem fn48 (k : Nat) (args : List AV) (x : mi48.den) (r : mo48.den) (h1 : args.length = mi48.items.length) (h2 : mi48.dec (Th.start args) = some x) (h3 : F48 k x = some r) : CallOK Tryz.prog 48 args (ansOf (outL mo48.items r)) :=
  call_of hm hT (ok_O88 k) (fn := Tryz.f48) (c := c48) Tryz.func48 rfl rfl rfl (lk48 k) rfl (by decide) rfl h1 h2 h3
noncomputable def O48 (k : Nat) : Orc := fun R f args K => bif Nat.beq f 48 then callF mi48 mo48 (F48 k) args K else O88 k R f args K
theorem ok_O48 (k : Nat) : OrcOK (O48 k) (CallOK Tryz.prog) := orc_add (fn48 k) (ok_O88 k)
noncomputable def c49 : Code := Tryz.f49.body.getD .skip
noncomputable def mi49 : Msk := ⟨[(.tmp 0, .val .str)], []⟩
noncomputable def mo49 : Msk := ⟨[(.tmp 2, .val .str)], []⟩
noncomputable def L49 (k : Nat) : LOrc := fun _ _ _ _ => none
noncomputable def F49 (k : Nat) (v : mi49.den) : Option mo49.den := runF TI (O48 k) (L49 k) c49 mi49 mo49 v
theorem lk49 (k : Nat) : LinksOK Tryz.prog 6 (L49 k) c49 := (And.intro True.intro (And.intro True.intro True.intro))
theorem fn49 (k : Nat) (args : List AV) (x : mi49.den) (r : mo49.den) (h1 : args.length = mi49.items.length) (h2 : mi49.dec (Th.start args) = some x) (h3 : F49 k x = some r) : CallOK Tryz.prog 49 args (ansOf (outL mo49.items r)) :=
  call_of hm hT (ok_O48 k) (fn := Tryz.f49) (c := c49) Tryz.func49 rfl rfl rfl (lk49 k) rfl (by decide) rfl h1 h2 h3
noncomputable def O49 (k : Nat) : Orc := fun R f args K => bif Nat.beq f 49 then callF mi49 mo49 (F49 k) args K else O48 k R f args K
theorem ok_O49 (k : Nat) : OrcOK (O49 k) (CallOK Tryz.prog) := orc_add (fn49 k) (ok_O48 k)
noncomputable def c24 : Code := Tryz.f24.body.getD .skip
noncomputable def mi24 : Msk := ⟨[(.tmp 0, .val (.st (.cons (.int .i64) (.cons .str (.cons (.int .u64) (.cons (.int .u32) (.cons .str (.cons .str .nil))))))))], []⟩
noncomputable def mo24 : Msk := ⟨[(.res 2, .val (.st (.cons .str (.cons (.slice (.st (.cons (.int .i64) (.cons .str .nil)))) .nil))))], []⟩
noncomputable def L24 (k : Nat) : LOrc := fun _ _ _ _ => none
noncomputable def F24 (k : Nat) (v : mi24.den) : Option mo24.den := runF TI (O49 k) (L24 k) c24 mi24 mo24 v
theorem lk24 (k : Nat) : LinksOK Tryz.prog 70 (L24 k) c24 := (And.intro True.intro (And.intro True.intro (And.intro (And.intro True.intro (And.intro True.intro True.intro)) (And.intro True.intro (And.intro True.intro (And.intro (And.intro True.intro (And.intro True.intro True.intro)) (And.intro (And.intro True.intro (And.intro True.intro True.intro)) (And.intro True.intro True.intro))))))))
theorem fn24 (k : Nat) (args : List AV) (x : mi24.den) (r : mo24.den) (h1 : args.length = mi24.items.length) (h2 : mi24.dec (Th.start args) = some x) (h3 : F24 k x = some r) : CallOK Tryz.prog 24 args (ansOf (outL mo24.items r)) :=
  call_of hm hT (ok_O49 k) (fn := Tryz.f24) (c := c24) Tryz.func24 rfl rfl rfl (lk24 k) rfl (by decide) rfl h1 h2 h3
noncomputable def O24 (k : Nat) : Orc := fun R f args K => bif Nat.beq f 24 then callF mi24 mo24 (F24 k) args K else O49 k R f args K
theorem ok_O24 (k : Nat) : OrcOK (O24 k) (CallOK Tryz.prog) := orc_add (fn24 k) (ok_O49 k)
noncomputable def c84 : Code := Tryz.f84.body.getD .skip
noncomputable def mi84 : Msk := ⟨[(.tmp 0, .val (.st (.cons (.int .u64) (.cons (.int .u64) .nil)))), (.tmp 1, .val (.int .i64))], []⟩
noncomputable def mo84 : Msk := ⟨[(.tmp 4, .val .bool)], []⟩
noncomputable def L84_6 (k : Nat) : LOrc := fun _ _ _ _ => none
noncomputable def b84_6 : Code := (findLoop 6 c84).getD .skip
noncomputable def m84_6 : Msk := ⟨[(.tmp 5, .val (.int .u64)), (.tmp 6, .val (.int .i64))], []⟩
noncomputable def x84_6 : List (X × Msk) := [(.exit 0, ⟨[(.tmp 5, .val (.int .u64))], []⟩)]
noncomputable def F84_6 (k : Nat) : Nat → m84_6.den → Option (denE x84_6)
  | 0, _ => none
  | j + 1, v => round TI (O24 k) (L84_6 k) b84_6 m84_6 x84_6 (F84_6 k j) v
theorem lk84_6_ (k : Nat) : LinksOK Tryz.prog 25 (L84_6 k) b84_6 := (And.intro (And.intro True.intro (And.intro True.intro True.intro)) (And.intro True.intro True.intro))
noncomputable def L84 (k : Nat) : LOrc := fun R lk s K => match lk with
  | .loop r => bif Nat.beq r 6 then link m84_6 x84_6 (F84_6 k k) s K else none
  | .label l => none
theorem lk_L84_6 (k : Nat) : LoopOK Tryz.prog 25 (L84 k) b84_6 := loopOK_of hm hT (ok_O24 k) (fun _ _ _ h => h) rfl (lk84_6_ k) rfl rfl (F := F84_6 k) (fun _ => rfl) (fun _ _ => rfl) (n := k) fun _ _ _ => rfl
noncomputable def F84 (k : Nat) (v : mi84.den) : Option mo84.den := runF TI (O24 k) (L84 k) c84 mi84 mo84 v
theorem lk84 (k : Nat) : LinksOK Tryz.prog 25 (L84 k) c84 := (And.intro True.intro (And.intro True.intro (And.intro (And.intro True.intro (And.intro (And.intro True.intro True.intro) True.intro)) (And.intro (And.intro True.intro (lk_L84_6 k)) (And.intro True.intro True.intro)))))
theorem fn84 (k : Nat) (args : List AV) (x : mi84.den) (r : mo84.den) (h1 : args.length = mi84.items.length) (h2 : mi84.dec (Th.start args) = some x) (h3 : F84 k x = some r) : CallOK Tryz.prog 84 args (ansOf (outL mo84.items r)) :=
  call_of hm hT (ok_O24 k) (fn := Tryz.f84) (c := c84) Tryz.func84 rfl rfl rfl (lk84 k) rfl (by decide) rfl h1 h2 h3
noncomputable def O84 (k : Nat) : Orc := fun R f args K => bif Nat.beq f 84 then callF mi84 mo84 (F84 k) args K else O24 k R f args K
theorem ok_O84 (k : Nat) : OrcOK (O84 k) (CallOK Tryz.prog) := orc_add (fn84 k) (ok_O24 k)
noncomputable def c82 : Code := Tryz.f82.body.getD .skip
noncomputable def mi82 : Msk := ⟨[(.tmp 0, .val (.st (.cons (.int .u64) (.cons (.int .u64) .nil))))], []⟩
noncomputable def mo82 : Msk := ⟨[(.tmp 2, .val .bool)], []⟩
noncomputable def L82 (k : Nat) : LOrc := fun _ _ _ _ => none
noncomputable def F82 (k : Nat) (v : mi82.den) : Option mo82.den := runF TI (O84 k) (L82 k) c82 mi82 mo82 v
theorem lk82 (k : Nat) : LinksOK Tryz.prog 14 (L82 k) c82 := (And.intro True.intro (And.intro True.intro True.intro))
theorem fn82 (k : Nat) (args : List AV) (x : mi82.den) (r : mo82.den) (h1 : args.length = mi82.items.length) (h2 : mi82.dec (Th.start args) = some x) (h3 : F82 k x = some r) : CallOK Tryz.prog 82 args (ansOf (outL mo82.items r)) :=
  call_of hm hT (ok_O84 k) (fn := Tryz.f82) (c := c82) Tryz.func82 rfl rfl rfl (lk82 k) rfl (by decide) rfl h1 h2 h3
noncomputable def O82 (k : Nat) : Orc := fun R f args K => bif Nat.beq f 82 then callF mi82 mo82 (F82 k) args K else O84 k R f args K
theorem ok_O82 (k : Nat) : OrcOK (O82 k) (CallOK Tryz.prog) := orc_add (fn82 k) (ok_O84 k)
noncomputable def c83 : Code := Tryz.f83.body.getD .skip
noncomputable def mi83 : Msk := ⟨[(.tmp 0, .val (.int .i64))], []⟩
noncomputable def mo83 : Msk := ⟨[(.tmp 2, .val .bool)], []⟩
noncomputable def L83 (k : Nat) : LOrc := fun _ _ _ _ => none
noncomputable def F83 (k : Nat) (v : mi83.den) : Option mo83.den := runF TI (O82 k) (L83 k) c83 mi83 mo83 v
theorem lk83 (k : Nat) : LinksOK Tryz.prog 17 (L83 k) c83 := (And.intro True.intro (And.intro True.intro True.intro))
theorem fn83 (k : Nat) (args : List AV) (x : mi83.den) (r : mo83.den) (h1 : args.length = mi83.items.length) (h2 : mi83.dec (Th.start args) = some x) (h3 : F83 k x = some r) : CallOK Tryz.prog 83 args (ansOf (outL mo83.items r)) :=
  call_of hm hT (ok_O82 k) (fn := Tryz.f83) (c := c83) Tryz.func83 rfl rfl rfl (lk83 k) rfl (by decide) rfl h1 h2 h3
noncomputable def O83 (k : Nat) : Orc := fun R f args K => bif Nat.beq f 83 then callF mi83 mo83 (F83 k) args K else O82 k R f args K
theorem ok_O83 (k : Nat) : OrcOK (O83 k) (CallOK Tryz.prog) := orc_add (fn83 k) (ok_O82 k)
noncomputable def c85 : Code := Tryz.f85.body.getD .skip
noncomputable def mi85 : Msk := ⟨[(.tmp 0, .val (.int .i64))], []⟩
noncomputable def mo85 : Msk := ⟨[(.tmp 2, .val (.int .u64))], []⟩
noncomputable def L85_3 (k : Nat) : LOrc := fun _ _ _ _ => none
noncomputable def b85_3 : Code := (findLoop 3 c85).getD .skip
noncomputable def m85_3 : Msk := ⟨[(.tmp 0, .val (.int .i64)), (.tmp 3, .val (.int .u64)), (.tmp 4, .val (.int .i64))], []⟩
noncomputable def x85_3 : List (X × Msk) := [(.exit 0, ⟨[(.tmp 3, .val (.int .u64))], []⟩)]
noncomputable def F85_3 (k : Nat) : Nat → m85_3.den → Option (denE x85_3)
  | 0, _ => none
  | j + 1, v => round TI (O83 k) (L85_3 k) b85_3 m85_3 x85_3 (F85_3 k j) v
theorem lk85_3_ (k : Nat) : LinksOK Tryz.prog 13 (L85_3 k) b85_3 := (And.intro (And.intro True.intro (And.intro True.intro True.intro)) (And.intro True.intro True.intro))
noncomputable def L85 (k : Nat) : LOrc := fun R lk s K => match lk with
  | .loop r => bif Nat.beq r 3 then link m85_3 x85_3 (F85_3 k k) s K else none
  | .label l => none
theorem lk_L85_3 (k : Nat) : LoopOK Tryz.prog 13 (L85 k) b85_3 := loopOK_of hm hT (ok_O83 k) (fun _ _ _ h => h) rfl (lk85_3_ k) rfl rfl (F := F85_3 k) (fun _ => rfl) (fun _ _ => rfl) (n := k) fun _ _ _ => rfl
noncomputable def F85 (k : Nat) (v : mi85.den) : Option mo85.den := runF TI (O83 k) (L85 k) c85 mi85 mo85 v
theorem lk85 (k : Nat) : LinksOK Tryz.prog 13 (L85 k) c85 := (And.intro True.intro (And.intro True.intro (And.intro (And.intro True.intro (lk_L85_3 k)) (And.intro True.intro True.intro))))
theorem fn85 (k : Nat) (args : List AV) (x : mi85.den) (r : mo85.den) (h1 : args.length = mi85.items.length) (h2 : mi85.dec (Th.start args) = some x) (h3 : F85 k x = some r) : CallOK Tryz.prog 85 args (ansOf (outL mo85.items r)) :=
  call_of hm hT (ok_O83 k) (fn := Tryz.f85) (c := c85) Tryz.func85 rfl rfl rfl (lk85 k) rfl (by decide) rfl h1 h2 h3
noncomputable def O85 (k : Nat) : Orc := fun R f args K => bif Nat.beq f 85 then callF mi85 mo85 (F85 k) args K else O83 k R f args K
theorem ok_O85 (k : Nat) : OrcOK (O85 k) (CallOK Tryz.prog) := orc_add (fn85 k) (ok_O83 k)
noncomputable def c44 : Code := Tryz.f44.body.getD .skip
noncomputable def mi44 : Msk := ⟨[(.tmp 0, .val (.st (.cons (.int .u64) (.cons (.int .u64) .nil)))), (.tmp 1, .val (.int .i64))], []⟩
noncomputable def mo44 : Msk := ⟨[(.res 4, .val (.st (.cons (.int .u64) (.cons (.int .u64) .nil)))), (.tmp 5, .val (.int .i64))], []⟩
noncomputable def L44 (k : Nat) : LOrc := fun _ _ _ _ => none
noncomputable def F44 (k : Nat) (v : mi44.den) : Option mo44.den := runF TI (O85 k) (L44 k) c44 mi44 mo44 v
theorem lk44 (k : Nat) : LinksOK Tryz.prog 45 (L44 k) c44 := (And.intro True.intro (And.intro (And.intro True.intro (And.intro (And.intro True.intro True.intro) True.intro)) (And.intro (And.intro True.intro (And.intro (And.intro True.intro True.intro) True.intro)) (And.intro (And.intro True.intro (And.intro (And.intro True.intro (And.intro True.intro True.intro)) True.intro)) (And.intro (And.intro True.intro (And.intro True.intro True.intro)) (And.intro True.intro (And.intro True.intro True.intro)))))))
theorem fn44 (k : Nat) (args : List AV) (x : mi44.den) (r : mo44.den) (h1 : args.length = mi44.items.length) (h2 : mi44.dec (Th.start args) = some x) (h3 : F44 k x = some r) : CallOK Tryz.prog 44 args (ansOf (outL mo44.items r)) :=
  call_of hm hT (ok_O85 k) (fn := Tryz.f44) (c := c44) Tryz.func44 rfl rfl rfl (lk44 k) rfl (by decide) rfl h1 h2 h3
noncomputable def O44 (k : Nat) : Orc := fun R f args K => bif Nat.beq f 44 then callF mi44 mo44 (F44 k) args K else O85 k R f args K
theorem ok_O44 (k : Nat) : OrcOK (O44 k) (CallOK Tryz.prog) := orc_add (fn44 k) (ok_O85 k)
noncomputable def c86 : Code := Tryz.f86.body.getD .skip
noncomputable def mi86 : Msk := ⟨[(.tmp 0, .val (.int .i64))], []⟩
noncomputable def mo86 : Msk := ⟨[(.tmp 2, .val (.int .i64))], []⟩
noncomputable def L86 (k : Nat) : LOrc := fun _ _ _ _ => none
noncomputable def F86 (k : Nat) (v : mi86.den) : Option mo86.den := runF TI (O44 k) (L86 k) c86 mi86 mo86 v
theorem lk86 (k : Nat) : LinksOK Tryz.prog 7 (L86 k) c86 := (And.intro True.intro (And.intro (And.intro True.intro (And.intro (And.intro True.intro True.intro) True.intro)) (And.intro (And.intro True.intro (And.intro (And.intro True.intro True.intro) True.intro)) (And.intro True.intro True.intro))))
theorem fn86 (k : Nat) (args : List AV) (x : mi86.den) (r : mo86.den) (h1 : args.length = mi86.items.length) (h2 : mi86.dec (Th.start args) = some x) (h3 : F86 k x = some r) : CallOK Tryz.prog 86 args (ansOf (outL mo86.items r)) :=
  call_of hm hT (ok_O44 k) (fn := Tryz.f86) (c := c86) Tryz.func86 rfl rfl rfl (lk86 k) rfl (by decide) rfl h1 h2 h3
noncomputable def O86 (k : Nat) : Orc := fun R f args K => bif Nat.beq f 86 then callF mi86 mo86 (F86 k) args K else O44 k R f args K
theorem ok_O86 (k : Nat) : OrcOK (O86 k) (CallOK Tryz.prog) := orc_add (fn86 k) (ok_O44 k)
noncomputable def c45 : Code := Tryz.f45.body.getD .skip
noncomputable def mi45 : Msk := ⟨[(.tmp 0, .val (.int .i64)), (.tmp 1, .val .str)], []⟩
noncomputable def mo45 : Msk := ⟨[(.tmp 4, .row false (.int .u8))], []⟩
noncomputable def L45 (k : Nat) : LOrc := fun _ _ _ _ => none
noncomputable def F45 (k : Nat) (v : mi45.den) : Option mo45.den := runF TI (O86 k) (L45 k) c45 mi45 mo45 v
theorem lk45 (k : Nat) : LinksOK Tryz.prog 28 (L45 k) c45 := (And.intro True.intro (And.intro True.intro (And.intro True.intro (And.intro (And.intro True.intro (And.intro (And.intro True.intro True.intro) True.intro)) (And.intro True.intro True.intro)))))
theorem fn45 (k : Nat) (args : List AV) (x : mi45.den) (r : mo45.den) (h1 : args.length = mi45.items.length) (h2 : mi45.dec (Th.start args) = some x) (h3 : F45 k x = some r) : CallOK Tryz.prog 45 args (ansOf (outL mo45.items r)) :=
  call_of hm hT (ok_O86 k) (fn := Tryz.f45) (c := c45) Tryz.func45 rfl rfl rfl (lk45 k) rfl (by decide) rfl h1 h2 h3
noncomputable def O45 (k : Nat) : Orc := fun R f args K => bif Nat.beq f 45 then callF mi45 mo45 (F45 k) args K else O86 k R f args K
theorem ok_O45 (k : Nat) : OrcOK (O45 k) (CallOK Tryz.prog) := orc_add (fn45 k) (ok_O86 k)
noncomputable def c87 : Code := Tryz.f87.body.getD .skip
noncomputable def mi87 : Msk := ⟨[(.tmp 0, .val (.int .u64))], []⟩
noncomputable def mo87 : Msk := ⟨[(.tmp 2, .row false (.int .u8))], []⟩
noncomputable def L87_3 (k : Nat) : LOrc := fun _ _ _ _ => none
noncomputable def b87_3 : Code := (findLoop 3 c87).getD .skip
noncomputable def m87_3 : Msk := ⟨[(.tmp 0, .val (.int .u64)), (.tmp 3, .row false (.int .u8)), (.tmp 4, .val (.int .i64))], []⟩
noncomputable def x87_3 : List (X × Msk) := [(.exit 0, ⟨[(.tmp 3, .row false (.int .u8))], []⟩)]
noncomputable def F87_3 (k : Nat) : Nat → m87_3.den → Option (denE x87_3)
  | 0, _ => none
  | j + 1, v => round TI (O45 k) (L87_3 k) b87_3 m87_3 x87_3 (F87_3 k j) v
theorem lk87_3_ (k : Nat) : LinksOK Tryz.prog 19 (L87_3 k) b87_3 := (And.intro (And.intro True.intro (And.intro True.intro True.intro)) (And.intro (And.intro True.intro True.intro) True.intro))
noncomputable def L87 (k : Nat) : LOrc := fun R lk s K => match lk with
  | .loop r => bif Nat.beq r 3 then link m87_3 x87_3 (F87_3 k k) s K else none
  | .label l => none
theorem lk_L87_3 (k : Nat) : LoopOK Tryz.prog 19 (L87 k) b87_3 := loopOK_of hm hT (ok_O45 k) (fun _ _ _ h => h) rfl (lk87_3_ k) rfl rfl (F := F87_3 k) (fun _ => rfl) (fun _ _ => rfl) (n := k) fun _ _ _ => rfl
noncomputable def F87 (k : Nat) (v : mi87.den) : Option mo87.den := runF TI (O45 k) (L87 k) c87 mi87 mo87 v
theorem lk87 (k : Nat) : LinksOK Tryz.prog 19 (L87 k) c87 := (And.intro True.intro (And.intro True.intro (And.intro (And.intro True.intro (lk_L87_3 k)) (And.intro True.intro True.intro))))
theorem fn87 (k : Nat) (args : List AV) (x : mi87.den) (r : mo87.den) (h1 : args.length = mi87.items.length) (h2 : mi87.dec (Th.start args) = some x) (h3 : F87 k x = some r) : CallOK Tryz.prog 87 args (ansOf (outL mo87.items r)) :=
  call_of hm hT (ok_O45 k) (fn := Tryz.f87) (c := c87) Tryz.func87 rfl rfl rfl (lk87 k) rfl (by decide) rfl h1 h2 h3
noncomputable def O87 (k : Nat) : Orc := fun R f args K => bif Nat.beq f 87 then callF mi87 mo87 (F87 k) args K else O45 k R f args K
theorem ok_O87 (k : Nat) : OrcOK (O87 k) (CallOK Tryz.prog) := orc_add (fn87 k) (ok_O45 k)
noncomputable def c46 : Code := Tryz.f46.body.getD .skip
noncomputable def mi46 : Msk := ⟨[(.tmp 0, .val (.st (.cons (.int .u64) (.cons (.int .u64) .nil))))], []⟩
noncomputable def mo46 : Msk := ⟨[(.tmp 2, .row false (.int .u8))], []⟩
noncomputable def L46 (k : Nat) : LOrc := fun _ _ _ _ => none
noncomputable def F46 (k : Nat) (v : mi46.den) : Option mo46.den := runF TI (O87 k) (L46 k) c46 mi46 mo46 v
theorem lk46 (k : Nat) : LinksOK Tryz.prog 16 (L46 k) c46 := (And.intro True.intro (And.intro (And.intro True.intro (And.intro (And.intro True.intro True.intro) True.intro)) (And.intro True.intro True.intro)))
theorem fn46 (k : Nat) (args : List AV) (x : mi46.den) (r : mo46.den) (h1 : args.length = mi46.items.length) (h2 : mi46.dec (Th.start args) = some x) (h3 : F46 k x = some r) : CallOK Tryz.prog 46 args (ansOf (outL mo46.items r)) :=
  call_of hm hT (ok_O87 k) (fn := Tryz.f46) (c := c46) Tryz.func46 rfl rfl rfl (lk46 k) rfl (by decide) rfl h1 h2 h3
noncomputable def O46 (k : Nat) : Orc := fun R f args K => bif Nat.beq f 46 then callF mi46 mo46 (F46 k) args K else O87 k R f args K
theorem ok_O46 (k : Nat) : OrcOK (O46 k) (CallOK Tryz.prog) := orc_add (fn46 k) (ok_O87 k)
noncomputable def c23 : Code := Tryz.f23.body.getD .skip
noncomputable def mi23 : Msk := ⟨[(.tmp 0, .val (.st (.cons .str (.cons (.slice (.st (.cons (.int .i64) (.cons .str .nil)))) .nil))))], []⟩
noncomputable def mo23 : Msk := ⟨[(.tmp 2, .row false (.int .u8))], []⟩
noncomputable def L23_4 (k : Nat) : LOrc := fun _ _ _ _ => none
noncomputable def b23_4 : Code := (findLoop 4 c23).getD .skip
noncomputable def m23_4 : Msk := ⟨[(.tmp 1, .ptr 1 0), (.tmp 3, .ptr 3 0), (.tmp 4, .row false (.int .u8)), (.tmp 5, .val (.int .i64)), (.cell 1 0, .val .str), (.cell 1 1, .val (.slice (.st (.cons (.int .i64) (.cons .str .nil))))), (.cell 3 0, .val (.int .u64)), (.cell 3 1, .val (.int .u64))], [(1, 2), (3, 2)]⟩
noncomputable def x23_4 : List (X × Msk) := [(.exit 0, ⟨[(.tmp 1, .ptr 1 0), (.tmp 3, .ptr 3 0), (.tmp 4, .row false (.int .u8)), (.cell 1 0, .val .str), (.cell 1 1, .val (.slice (.st (.cons (.int .i64) (.cons .str .nil))))), (.cell 3 0, .val (.int .u64)), (.cell 3 1, .val (.int .u64))], [(1, 2), (3, 2)]⟩)]
noncomputable def F23_4 (k : Nat) : Nat → m23_4.den → Option (denE x23_4)
  | 0, _ => none
  | j + 1, v => round TI (O46 k) (L23_4 k) b23_4 m23_4 x23_4 (F23_4 k j) v
theorem lk23_4_ (k : Nat) : LinksOK Tryz.prog 50 (L23_4 k) b23_4 := (And.intro (And.intro True.intro (And.intro True.intro True.intro)) (And.intro (And.intro True.intro (And.intro True.intro True.intro)) True.intro))
noncomputable def L23 (k : Nat) : LOrc := fun R lk s K => match lk with
  | .loop r => bif Nat.beq r 4 then link m23_4 x23_4 (F23_4 k k) s K else none
  | .label l => none
theorem lk_L23_4 (k : Nat) : LoopOK Tryz.prog 50 (L23 k) b23_4 := loopOK_of hm hT (ok_O46 k) (fun _ _ _ h => h) rfl (lk23_4_ k) rfl rfl (F := F23_4 k) (fun _ => rfl) (fun _ _ => rfl) (n := k) fun _ _ _ => rfl
noncomputable def F23 (k : Nat) (v : mi23.den) : Option mo23.den := runF TI (O46 k) (L23 k) c23 mi23 mo23 v
theorem lk23 (k : Nat) : LinksOK Tryz.prog 50 (L23 k) c23 := (And.intro True.intro (And.intro True.intro (And.intro True.intro (And.intro (And.intro True.intro (lk_L23_4 k)) (And.intro True.intro True.intro)))))
theorem fn23 (k : Nat) (args : List AV) (x : mi23.den) (r : mo23.den) (h1 : args.length = mi23.items.length) (h2 : mi23.dec (Th.start args) = some x) (h3 : F23 k x = some r) : CallOK Tryz.prog 23 args (ansOf (outL mo23.items r)) :=
  call_of hm hT (ok_O46 k) (fn := Tryz.f23) (c := c23) Tryz.func23 rfl rfl rfl (lk23 k) rfl (by decide) rfl h1 h2 h3
noncomputable def O23 (k : Nat) : Orc := fun R f args K => bif Nat.beq f 23 then callF mi23 mo23 (F23 k) args K else O46 k R f args K
theorem ok_O23 (k : Nat) : OrcOK (O23 k) (CallOK Tryz.prog) := orc_add (fn23 k) (ok_O46 k)
noncomputable def c22 : Code := Tryz.f22.body.getD .skip
noncomputable def mi22 : Msk := ⟨[(.tmp 0, .val (.slice (.int .u8)))], []⟩
noncomputable def mo22 : Msk := ⟨[(.tmp 2, .row false (.int .u8))], []⟩
noncomputable def L22 (k : Nat) : LOrc := fun _ _ _ _ => none
noncomputable def F22 (k : Nat) (v : mi22.den) : Option mo22.den := runF TI (O23 k) (L22 k) c22 mi22 mo22 v
theorem lk22 (k : Nat) : LinksOK Tryz.prog 14 (L22 k) c22 := (And.intro True.intro (And.intro True.intro True.intro))
theorem fn22 (k : Nat) (args : List AV) (x : mi22.den) (r : mo22.den) (h1 : args.length = mi22.items.length) (h2 : mi22.dec (Th.start args) = some x) (h3 : F22 k x = some r) : CallOK Tryz.prog 22 args (ansOf (outL mo22.items r)) :=
  call_of hm hT (ok_O23 k) (fn := Tryz.f22) (c := c22) Tryz.func22 rfl rfl rfl (lk22 k) rfl (by decide) rfl h1 h2 h3
noncomputable def O22 (k : Nat) : Orc := fun R f args K => bif Nat.beq f 22 then callF mi22 mo22 (F22 k) args K else O23 k R f args K
theorem ok_O22 (k : Nat) : OrcOK (O22 k) (CallOK Tryz.prog) := orc_add (fn22 k) (ok_O23 k)
noncomputable def c10 : Code := Tryz.f10.body.getD .skip
noncomputable def mi10 : Msk := ⟨[(.tmp 0, .val (.st (.cons (.int .i64) (.cons .str (.cons (.int .u64) (.cons (.int .u32) (.cons .str (.cons .str .nil))))))))], []⟩
noncomputable def mo10 : Msk := ⟨[(.tmp 2, .row false (.int .u8))], []⟩
noncomputable def L10 (k : Nat) : LOrc := fun _ _ _ _ => none
noncomputable def F10 (k : Nat) (v : mi10.den) : Option mo10.den := runF TI (O22 k) (L10 k) c10 mi10 mo10 v
theorem lk10 (k : Nat) : LinksOK Tryz.prog 7 (L10 k) c10 := (And.intro True.intro (And.intro True.intro True.intro))
theorem fn10 (k : Nat) (args : List AV) (x : mi10.den) (r : mo10.den) (h1 : args.length = mi10.items.length) (h2 : mi10.dec (Th.start args) = some x) (h3 : F10 k x = some r) : CallOK Tryz.prog 10 args (ansOf (outL mo10.items r)) :=
  call_of hm hT (ok_O22 k) (fn := Tryz.f10) (c := c10) Tryz.func10 rfl rfl rfl (lk10 k) rfl (by decide) rfl h1 h2 h3
noncomputable def O10 (k : Nat) : Orc := fun R f args K => bif Nat.beq f 10 then callF mi10 mo10 (F10 k) args K else O22 k R f args K
theorem ok_O10 (k : Nat) : OrcOK (O10 k) (CallOK Tryz.prog) := orc_add (fn10 k) (ok_O22 k)
noncomputable def c62 : Code := Tryz.f62.body.getD .skip
noncomputable def mi62 : Msk := ⟨[(.tmp 0, .val .str)], []⟩
noncomputable def mo62 : Msk := ⟨[(.tmp 2, .val .bool)], []⟩
noncomputable def L62_3 (k : Nat) : LOrc := fun _ _ _ _ => none
noncomputable def b62_3 : Code := (findLoop 3 c62).getD .skip
noncomputable def m62_3 : Msk := ⟨[(.tmp 0, .val .str), (.tmp 3, .row false .str), (.tmp 4, .val (.int .i64))], []⟩
noncomputable def x62_3 : List (X × Msk) := [(.exit 0, ⟨[], []⟩), (.ret, ⟨[(.tmp 2, .val .bool)], []⟩)]
noncomputable def F62_3 (k : Nat) : Nat → m62_3.den → Option (denE x62_3)
  | 0, _ => none
  | j + 1, v => round TI (O10 k) (L62_3 k) b62_3 m62_3 x62_3 (F62_3 k j) v
theorem lk62_3_ (k : Nat) : LinksOK Tryz.prog 18 (L62_3 k) b62_3 := (And.intro (And.intro True.intro (And.intro True.intro True.intro)) (And.intro (And.intro True.intro (And.intro (And.intro True.intro True.intro) True.intro)) True.intro))
noncomputable def L62 (k : Nat) : LOrc := fun R lk s K => match lk with
  | .loop r => bif Nat.beq r 3 then link m62_3 x62_3 (F62_3 k k) s K else none
  | .label l => none
theorem lk_L62_3 (k : Nat) : LoopOK Tryz.prog 18 (L62 k) b62_3 := loopOK_of hm hT (ok_O10 k) (fun _ _ _ h => h) rfl (lk62_3_ k) rfl rfl (F := F62_3 k) (fun _ => rfl) (fun _ _ => rfl) (n := k) fun _ _ _ => rfl
noncomputable def F62 (k : Nat) (v : mi62.den) : Option mo62.den := runF TI (O10 k) (L62 k) c62 mi62 mo62 v
theorem lk62 (k : Nat) : LinksOK Tryz.prog 18 (L62 k) c62 := (And.intro True.intro (And.intro True.intro (And.intro (And.intro True.intro (lk_L62_3 k)) (And.intro True.intro True.intro))))
theorem fn62 (k : Nat) (args : List AV) (x : mi62.den) (r : mo62.den) (h1 : args.length = mi62.items.length) (h2 : mi62.dec (Th.start args) = some x) (h3 : F62 k x = some r) : CallOK Tryz.prog 62 args (ansOf (outL mo62.items r)) :=
  call_of hm hT (ok_O10 k) (fn := Tryz.f62) (c := c62) Tryz.func62 rfl rfl rfl (lk62 k) rfl (by decide) rfl h1 h2 h3
noncomputable def O62 (k : Nat) : Orc := fun R f args K => bif Nat.beq f 62 then callF mi62 mo62 (F62 k) args K else O10 k R f args K
theorem ok_O62 (k : Nat) : OrcOK (O62 k) (CallOK Tryz.prog) := orc_add (fn62 k) (ok_O10 k)
noncomputable def c98 : Code := Tryz.f98.body.getD .skip
noncomputable def mi98 : Msk := ⟨[(.tmp 0, .val (.slice (.int .u8)))], []⟩
noncomputable def mo98 : Msk := ⟨[(.tmp 2, .val (.int .u64))], []⟩
noncomputable def L98_3 (k : Nat) : LOrc := fun _ _ _ _ => none
noncomputable def b98_3 : Code := (findLoop 3 c98).getD .skip
noncomputable def m98_3 : Msk := ⟨[(.tmp 0, .val (.slice (.int .u8))), (.tmp 3, .val (.int .u64)), (.tmp 4, .val (.int .i64))], []⟩
noncomputable def x98_3 : List (X × Msk) := [(.exit 0, ⟨[(.tmp 3, .val (.int .u64))], []⟩)]
noncomputable def F98_3 (k : Nat) : Nat → m98_3.den → Option (denE x98_3)
  | 0, _ => none
  | j + 1, v => round TI (O62 k) (L98_3 k) b98_3 m98_3 x98_3 (F98_3 k j) v
theorem lk98_3_ (k : Nat) : LinksOK Tryz.prog 18 (L98_3 k) b98_3 := (And.intro (And.intro True.intro (And.intro True.intro True.intro)) (And.intro True.intro True.intro))
noncomputable def L98 (k : Nat) : LOrc := fun R lk s K => match lk with
  | .loop r => bif Nat.beq r 3 then link m98_3 x98_3 (F98_3 k k) s K else none
  | .label l => none
theorem lk_L98_3 (k : Nat) : LoopOK Tryz.prog 18 (L98 k) b98_3 := loopOK_of hm hT (ok_O62 k) (fun _ _ _ h => h) rfl (lk98_3_ k) rfl rfl (F := F98_3 k) (fun _ => rfl) (fun _ _ => rfl) (n := k) fun _ _ _ => rfl
noncomputable def F98 (k : Nat) (v : mi98.den) : Option mo98.den := runF TI (O62 k) (L98 k) c98 mi98 mo98 v
theorem lk98 (k : Nat) : LinksOK Tryz.prog 18 (L98 k) c98 := (And.intro True.intro (And.intro True.intro (And.intro (And.intro True.intro (lk_L98_3 k)) (And.intro True.intro True.intro))))
theorem fn98 (k : Nat) (args : List AV) (x : mi98.den) (r : mo98.den) (h1 : args.length = mi98.items.length) (h2 : mi98.dec (Th.start args) = some x) (h3 : F98 k x = some r) : CallOK Tryz.prog 98 args (ansOf (outL mo98.items r)) :=
  call_of hm hT (ok_O62 k) (fn := Tryz.f98) (c := c98) Tryz.func98 rfl rfl rfl (lk98 k) rfl (by decide) rfl h1 h2 h3
noncomputable def O98 (k : Nat) : Orc := fun R f args K => bif Nat.beq f 98 then callF mi98 mo98 (F98 k) args K else O62 k R f args K
theorem ok_O98 (k : Nat) : OrcOK (O98 k) (CallOK Tryz.prog) := orc_add (fn98 k) (ok_O62 k)
noncomputable def c63 : Code := Tryz.f63.body.getD .skip
noncomputable def mi63 : Msk := ⟨[(.tmp 0, .val (.slice (.int .u8)))], []⟩
noncomputable def mo63 : Msk := ⟨[(.res 2, .val (.st (.cons (.int .u64) (.cons (.int .u64) .nil)))), (.tmp 3, .val (.int .i64)), (.tmp 4, .val (.int .i64))], []⟩
noncomputable def L63 (k : Nat) : LOrc := fun _ _ _ _ => none
noncomputable def F63 (k : Nat) (v : mi63.den) : Option mo63.den := runF TI (O98 k) (L63 k) c63 mi63 mo63 v
theorem lk63 (k : Nat) : LinksOK Tryz.prog 39 (L63 k) c63 := (And.intro True.intro (And.intro (And.intro True.intro (And.intro (And.intro True.intro True.intro) True.intro)) (And.intro True.intro (And.intro True.intro (And.intro (And.intro True.intro (And.intro (And.intro True.intro True.intro) True.intro)) (And.intro (And.intro True.intro (And.intro (And.intro True.intro True.intro) True.intro)) (And.intro True.intro True.intro)))))))
theorem fn63 (k : Nat) (args : List AV) (x : mi63.den) (r : mo63.den) (h1 : args.length = mi63.items.length) (h2 : mi63.dec (Th.start args) = some x) (h3 : F63 k x = some r) : CallOK Tryz.prog 63 args (ansOf (outL mo63.items r)) :=
  call_of hm hT (ok_O98 k) (fn := Tryz.f63) (c := c63) Tryz.func63 rfl rfl rfl (lk63 k) rfl (by decide) rfl h1 h2 h3
noncomputable def O63 (k : Nat) : Orc := fun R f args K => bif Nat.beq f 63 then callF mi63 mo63 (F63 k) args K else O98 k R f args K
theorem ok_O63 (k : Nat) : OrcOK (O63 k) (CallOK Tryz.prog) := orc_add (fn63 k) (ok_O98 k)
noncomputable def c64 : Code := Tryz.f64.body.getD .skip
noncomputable def mi64 : Msk := ⟨[(.tmp 0, .val (.st (.cons (.int .u64) (.cons (.int .u64) .nil)))), (.tmp 1, .val (.int .i64))], []⟩
noncomputable def mo64 : Msk := ⟨[(.tmp 4, .val .bool)], []⟩
noncomputable def L64 (k : Nat) : LOrc := fun _ _ _ _ => none
noncomputable def F64 (k : Nat) (v : mi64.den) : Option mo64.den := runF TI (O63 k) (L64 k) c64 mi64 mo64 v
theorem lk64 (k : Nat) : LinksOK Tryz.prog 12 (L64 k) c64 := (And.intro True.intro (And.intro True.intro True.intro))
theorem fn64 (k : Nat) (args : List AV) (x : mi64.den) (r : mo64.den) (h1 : args.length = mi64.items.length) (h2 : mi64.dec (Th.start args) = some x) (h3 : F64 k x = some r) : CallOK Tryz.prog 64 args (ansOf (outL mo64.items r)) :=
  call_of hm hT (ok_O63 k) (fn := Tryz.f64) (c := c64) Tryz.func64 rfl rfl rfl (lk64 k) rfl (by decide) rfl h1 h2 h3
noncomputable def O64 (k : Nat) : Orc := fun R f args K => bif Nat.beq f 64 then callF mi64 mo64 (F64 k) args K else O63 k R f args K
theorem ok_O64 (k : Nat) : OrcOK (O64 k) (CallOK Tryz.prog) := orc_add (fn64 k) (ok_O63 k)
noncomputable def c68 : Code := Tryz.f68.body.getD .skip
noncomputable def mi68 : Msk := ⟨[(.tmp 0, .val .str)], []⟩
noncomputable def mo68 : Msk := ⟨[(.tmp 2, .val (.int .u64)), (.tmp 3, .val (.int .i64))], []⟩
noncomputable def L68_9 (k : Nat) : LOrc := fun _ _ _ _ => none
noncomputable def b68_9 : Code := (findLoop 9 c68).getD .skip
noncomputable def m68_9 : Msk := ⟨[(.tmp 0, .val .str), (.tmp 4, .val (.int .u64)), (.tmp 5, .val (.int .i64))], []⟩
noncomputable def x68_9 : List (X × Msk) := [(.exit 0, ⟨[(.tmp 4, .val (.int .u64))], []⟩)]
noncomputable def F68_9 (k : Nat) : Nat → m68_9.den → Option (denE x68_9)
  | 0, _ => none
  | j + 1, v => round TI (O64 k) (L68_9 k) b68_9 m68_9 x68_9 (F68_9 k j) v
theorem lk68_9_ (k : Nat) : LinksOK Tryz.prog 30 (L68_9 k) b68_9 := (And.intro (And.intro True.intro (And.intro True.intro True.intro)) (And.intro True.intro True.intro))
noncomputable def L68 (k : Nat) : LOrc := fun R lk s K => match lk with
  | .loop r => bif Nat.beq r 9 then link m68_9 x68_9 (F68_9 k k) s K else none
  | .label l => none
theorem lk_L68_9 (k : Nat) : LoopOK Tryz.prog 30 (L68 k) b68_9 := loopOK_of hm hT (ok_O64 k) (fun _ _ _ h => h) rfl (lk68_9_ k) rfl rfl (F := F68_9 k) (fun _ => rfl) (fun _ _ => rfl) (n := k) fun _ _ _ => rfl
noncomputable def F68 (k : Nat) (v : mi68.den) : Option mo68.den := runF TI (O64 k) (L68 k) c68 mi68 mo68 v
theorem lk68 (k : Nat) : LinksOK Tryz.prog 30 (L68 k) c68 := (And.intro True.intro (And.intro (And.intro True.intro (And.intro (And.intro True.intro True.intro) True.intro)) (And.intro (And.intro True.intro (And.intro (And.intro True.intro True.intro) True.intro)) (And.intro (And.intro True.intro (And.intro (And.intro True.intro True.intro) True.intro)) (And.intro True.intro (And.intro (And.intro True.intro (lk_L68_9 k)) (And.intro True.intro True.intro)))))))
theorem fn68 (k : Nat) (args : List AV) (x : mi68.den) (r : mo68.den) (h1 : args.length = mi68.items.length) (h2 : mi68.dec (Th.start args) = some x) (h3 : F68 k x = some r) : CallOK Tryz.prog 68 args (ansOf (outL mo68.items r)) :=
  call_of hm hT (ok_O64 k) (fn := Tryz.f68) (c := c68) Tryz.func68 rfl rfl rfl (lk68 k) rfl (by decide) rfl h1 h2 h3
noncomputable def O68 (k : Nat) : Orc := fun R f args K => bif Nat.beq f 68 then callF mi68 mo68 (F68 k) args K else O64 k R f args K
theorem ok_O68 (k : Nat) : OrcOK (O68 k) (CallOK Tryz.prog) := orc_add (fn68 k) (ok_O64 k)
noncomputable def c65 : Code := Tryz.f65.body.getD .skip
noncomputable def mi65 : Msk := ⟨[(.tmp 0, .val (.int .i64)), (.tmp 1, .val (.slice (.int .u8)))], []⟩
noncomputable def mo65 : Msk := ⟨[(.tmp 4, .val .str), (.tmp 5, .val (.int .i64)), (.tmp 6, .val (.int .i64))], []⟩
noncomputable def L65 (k : Nat) : LOrc := fun _ _ _ _ => none
noncomputable def F65 (k : Nat) (v : mi65.den) : Option mo65.den := runF TI (O68 k) (L65 k) c65 mi65 mo65 v
theorem lk65 (k : Nat) : LinksOK Tryz.prog 74 (L65 k) c65 := (And.intro True.intro (And.intro True.intro (And.intro (And.intro True.intro (And.intro (And.intro True.intro True.intro) True.intro)) (And.intro True.intro (And.intro True.intro (And.intro (And.intro True.intro (And.intro (And.intro (And.intro True.intro (And.intro (And.intro True.intro True.intro) True.intro)) (And.intro True.intro (And.intro (And.intro True.intro (And.intro (And.intro True.intro True.intro) True.intro)) (And.intro True.intro (And.intro True.intro (And.intro (And.intro True.intro True.intro) True.intro)))))) True.intro)) (And.intro (And.intro True.intro (And.intro (And.intro True.intro True.intro) True.intro)) (And.intro True.intro (And.intro (And.intro True.intro (And.intro (And.intro True.intro True.intro) True.intro)) (And.intro True.intro True.intro))))))))))
theorem fn65 (k : Nat) (args : List AV) (x : mi65.den) (r : mo65.den) (h1 : args.length = mi65.items.length) (h2 : mi65.dec (Th.start args) = some x) (h3 : F65 k x = some r) : CallOK Tryz.prog 65 args (ansOf (outL mo65.items r)) :=
  call_of hm hT (ok_O68 k) (fn := Tryz.f65) (c := c65) Tryz.func65 rfl rfl rfl (lk65 k) rfl (by decide) rfl h1 h2 h3
noncomputable def O65 (k : Nat) : Orc := fun R f args K => bif Nat.beq f 65 then callF mi65 mo65 (F65 k) args K else O68 k R f args K
theorem ok_O65 (k : Nat) : OrcOK (O65 k) (CallOK Tryz.prog) := orc_add (fn65 k) (ok_O68 k)
noncomputable def c28 : Code := Tryz.f28.body.getD .skip
noncomputable def mi28 : Msk := ⟨[(.tmp 0, .val (.slice (.int .u8)))], []⟩
noncomputable def mo28 : Msk := ⟨[(.res 2, .val (.st (.cons .str (.cons (.slice (.st (.cons (.int .i64) (.cons .str .nil)))) .nil)))), (.tmp 3, .val (.int .i64))], []⟩
noncomputable def L28_11 (k : Nat) : LOrc := fun _ _ _ _ => none
noncomputable def b28_11 : Code := (findLoop 11 c28).getD .skip
noncomputable def m28_11 : Msk := ⟨[(.tmp 0, .val (.slice (.int .u8))), (.tmp 2, .ptr 2 0), (.tmp 4, .ptr 4 0), (.tmp 7, .ptr 7 0), (.tmp 8, .val (.int .i64)), (.tmp 9, .val (.int .i64)), (.cell 2 0, .val .str), (.cell 2 1, .row false (.st (.cons (.int .i64) (.cons .str .nil)))), (.cell 4 0, .val (.int .u64)), (.cell 4 1, .val (.int .u64)), (.cell 7 0, .val .str), (.cell 7 1, .row false (.st (.cons (.int .i64) (.cons .str .nil))))], [(2, 2), (4, 2), (7, 2)]⟩
noncomputable def x28_11 : List (X × Msk) := [(.exit 0, ⟨[(.tmp 0, .val (.slice (.int .u8))), (.tmp 2, .ptr 2 0), (.tmp 7, .ptr 7 0), (.tmp 8, .val (.int .i64)), (.cell 2 0, .val .str), (.cell 2 1, .row false (.st (.cons (.int .i64) (.cons .str .nil)))), (.cell 7 0, .val .str), (.cell 7 1, .row false (.st (.cons (.int .i64) (.cons .str .nil))))], [(2, 2), (7, 2)]⟩), (.ret, ⟨[(.tmp 2, .ptr 2 0), (.tmp 3, .val (.int .i64)), (.cell 2 0, .val .str), (.cell 2 1, .row false (.st (.cons (.int .i64) (.cons .str .nil))))], [(2, 2)]⟩)]
noncomputable def F28_11 (k : Nat) : Nat → m28_11.den → Option (denE x28_11)
  | 0, _ => none
  | j + 1, v => round TI (O65 k) (L28_11 k) b28_11 m28_11 x28_11 (F28_11 k j) v
theorem lk28_11_ (k : Nat) : LinksOK Tryz.prog 83 (L28_11 k) b28_11 := (And.intro (And.intro True.intro (And.intro True.intro True.intro)) (And.intro (And.intro (And.intro True.intro (And.intro True.intro True.intro)) (And.intro True.intro (And.intro (And.intro True.intro (And.intro (And.intro True.intro True.intro) True.intro)) (And.intro True.intro True.intro)))) True.intro))
noncomputable def L28 (k : Nat) : LOrc := fun R lk s K => match lk with
  | .loop r => bif Nat.beq r 11 then link m28_11 x28_11 (F28_11 k k) s K else none
  | .label l => none
theorem lk_L28_11 (k : Nat) : LoopOK Tryz.prog 83 (L28 k) b28_11 := loopOK_of hm hT (ok_O65 k) (fun _ _ _ h => h) rfl (lk28_11_ k) rfl rfl (F := F28_11 k) (fun _ => rfl) (fun _ _ => rfl) (n := k) fun _ _ _ => rfl
noncomputable def F28 (k : Nat) (v : mi28.den) : Option mo28.den := runF TI (O65 k) (L28 k) c28 mi28 mo28 v
theorem lk28 (k : Nat) : LinksOK Tryz.prog 83 (L28 k) c28 := (And.intro True.intro (And.intro (And.intro True.intro (And.intro (And.intro True.intro True.intro) True.intro)) (And.intro (And.intro True.intro (And.intro (And.intro True.intro True.intro) True.intro)) (And.intro True.intro (And.intro (And.intro True.intro (And.intro (And.intro True.intro True.intro) True.intro)) (And.intro True.intro (And.intro True.intro (And.intro (And.intro True.intro (lk_L28_11 k)) (And.intro (And.intro True.intro (And.intro (And.intro True.intro True.intro) True.intro)) (And.intro (And.intro True.intro (And.intro (And.intro True.intro True.intro) True.intro)) (And.intro True.intro True.intro)))))))))))
theorem fn28 (k : Nat) (args : List AV) (x : mi28.den) (r : mo28.den) (h1 : args.length = mi28.items.length) (h2 : mi28.dec (Th.start args) = some x) (h3 : F28 k x = some r) : CallOK Tryz.prog 28 args (ansOf (outL mo28.items r)) :=
  call_of hm hT (ok_O65 k) (fn := Tryz.f28) (c := c28) Tryz.func28 rfl rfl rfl (lk28 k) rfl (by decide) rfl h1 h2 h3
noncomputable def O28 (k : Nat) : Orc := fun R f args K => bif Nat.beq f 28 then callF mi28 mo28 (F28 k) args K else O65 k R f args K
theorem ok_O28 (k : Nat) : OrcOK (O28 k) (CallOK Tryz.prog) := orc_add (fn28 k) (ok_O65 k)
noncomputable def c66 : Code := Tryz.f66.body.getD .skip
noncomputable def mi66 : Msk := ⟨[(.tmp 0, .val (.st (.cons .str (.cons (.slice (.st (.cons (.int .i64) (.cons .str .nil)))) .nil))))], []⟩
noncomputable def mo66 : Msk := ⟨[(.tmp 2, .val .bool)], []⟩
noncomputable def L66_4 (k : Nat) : LOrc := fun _ _ _ _ => none
noncomputable def b66_4 : Code := (findLoop 4 c66).getD .skip
noncomputable def m66_4 : Msk := ⟨[(.tmp 1, .ptr 1 0), (.tmp 3, .val (.int .i64)), (.cell 1 0, .val .str), (.cell 1 1, .val (.slice (.st (.cons (.int .i64) (.cons .str .nil)))))], [(1, 2)]⟩
noncomputable def x66_4 : List (X × Msk) := [(.exit 0, ⟨[], []⟩), (.ret, ⟨[(.tmp 2, .val .bool)], []⟩)]
noncomputable def F66_4 (k : Nat) : Nat → m66_4.den → Option (denE x66_4)
  | 0, _ => none
  | j + 1, v => round TI (O28 k) (L66_4 k) b66_4 m66_4 x66_4 (F66_4 k j) v
theorem lk66_4_ (k : Nat) : LinksOK Tryz.prog 55 (L66_4 k) b66_4 := (And.intro (And.intro True.intro (And.intro True.intro True.intro)) (And.intro (And.intro True.intro (And.intro (And.intro True.intro True.intro) True.intro)) True.intro))
noncomputable def L66 (k : Nat) : LOrc := fun R lk s K => match lk with
  | .loop r => bif Nat.beq r 4 then link m66_4 x66_4 (F66_4 k k) s K else none
  | .label l => none
theorem lk_L66_4 (k : Nat) : LoopOK Tryz.prog 55 (L66 k) b66_4 := loopOK_of hm hT (ok_O28 k) (fun _ _ _ h => h) rfl (lk66_4_ k) rfl rfl (F := F66_4 k) (fun _ => rfl) (fun _ _ => rfl) (n := k) fun _ _ _ => rfl
noncomputable def F66 (k : Nat) (v : mi66.den) : Option mo66.den := runF TI (O28 k) (L66 k) c66 mi66 mo66 v
theorem lk66 (k : Nat) : LinksOK Tryz.prog 55 (L66 k) c66 := (And.intro True.intro (And.intro (And.intro True.intro (And.intro (And.intro True.intro True.intro) True.intro)) (And.intro (And.intro True.intro (lk_L66_4 k)) (And.intro True.intro True.intro))))
theorem fn66 (k : Nat) (args : List AV) (x : mi66.den) (r : mo66.den) (h1 : args.length = mi66.items.length) (h2 : mi66.dec (Th.start args) = some x) (h3 : F66 k x = some r) : CallOK Tryz.prog 66 args (ansOf (outL mo66.items r)) :=
  call_of hm hT (ok_O28 k) (fn := Tryz.f66) (c := c66) Tryz.func66 rfl rfl rfl (lk66 k) rfl (by decide) rfl h1 h2 h3
noncomputable def O66 (k : Nat) : Orc := fun R f args K => bif Nat.beq f 66 then callF mi66 mo66 (F66 k) args K else O28 k R f args K
theorem ok_O66 (k : Nat) : OrcOK (O66 k) (CallOK Tryz.prog) := orc_add (fn66 k) (ok_O28 k)
noncomputable def c67 : Code := Tryz.f67.body.getD .skip
noncomputable def mi67 : Msk := ⟨[(.tmp 0, .val (.int .i64))], []⟩
noncomputable def mo67 : Msk := ⟨[(.tmp 2, .row false (.int .i64))], []⟩
noncomputable def L67 (k : Nat) : LOrc := fun _ _ _ _ => none
noncomputable def F67 (k : Nat) (v : mi67.den) : Option mo67.den := runF TI (O66 k) (L67 k) c67 mi67 mo67 v
theorem lk67 (k : Nat) : LinksOK Tryz.prog 14 (L67 k) c67 := (And.intro True.intro (And.intro (And.intro True.intro (And.intro (And.intro True.intro True.intro) True.intro)) (And.intro (And.intro True.intro (And.intro (And.intro True.intro True.intro) True.intro)) (And.intro True.intro True.intro))))
theorem fn67 (k : Nat) (args : List AV) (x : mi67.den) (r : mo67.den) (h1 : args.length = mi67.items.length) (h2 : mi67.dec (Th.start args) = some x) (h3 : F67 k x = some r) : CallOK Tryz.prog 67 args (ansOf (outL mo67.items r)) :=
  call_of hm hT (ok_O66 k) (fn := Tryz.f67) (c := c67) Tryz.func67 rfl rfl rfl (lk67 k) rfl (by decide) rfl h1 h2 h3
noncomputable def O67 (k : Nat) : Orc := fun R f args K => bif Nat.beq f 67 then callF mi67 mo67 (F67 k) args K else O66 k R f args K
theorem ok_O67 (k : Nat) : OrcOK (O67 k) (CallOK Tryz.prog) := orc_add (fn67 k) (ok_O66 k)
noncomputable def c29 : Code := Tryz.f29.body.getD .skip
noncomputable def mi29 : Msk := ⟨[(.tmp 0, .val (.st (.cons .str (.cons (.slice (.st (.cons (.int .i64) (.cons .str .nil)))) .nil))))], []⟩
noncomputable def mo29 : Msk := ⟨[(.res 2, .val (.st (.cons (.int .i64) (.cons .str (.cons (.int .u64) (.cons (.int .u32) (.cons .str (.cons .str .nil)))))))), (.tmp 3, .val (.int .i64))], []⟩
noncomputable def L29_5 (k : Nat) : LOrc := fun _ _ _ _ => none
noncomputable def b29_5 : Code := (findLoop 5 c29).getD .skip
noncomputable def m29_5 : Msk := ⟨[(.tmp 1, .ptr 1 0), (.tmp 2, .ptr 2 0), (.tmp 4, .ptr 4 0), (.tmp 5, .val (.int .i64)), (.cell 1 0, .val .str), (.cell 1 1, .val (.slice (.st (.cons (.int .i64) (.cons .str .nil))))), (.cell 2 0, .val (.int .i64)), (.cell 2 1, .val .str), (.cell 2 2, .val (.int .u64)), (.cell 2 3, .val (.int .u32)), (.cell 2 4, .val .str), (.cell 2 5, .val .str), (.cell 4 0, .val (.int .i64)), (.cell 4 1, .val .str), (.cell 4 2, .val (.int .u64)), (.cell 4 3, .val (.int .u32)), (.cell 4 4, .val .str), (.cell 4 5, .val .str)], [(1, 2), (2, 6), (4, 6)]⟩
noncomputable def x29_5 : List (X × Msk) := [(.exit 0, ⟨[(.tmp 1, .ptr 1 0), (.tmp 2, .ptr 2 0), (.tmp 4, .ptr 4 0), (.cell 1 0, .val .str), (.cell 1 1, .val (.slice (.st (.cons (.int .i64) (.cons .str .nil))))), (.cell 2 0, .val (.int .i64)), (.cell 2 1, .val .str), (.cell 2 2, .val (.int .u64)), (.cell 2 3, .val (.int .u32)), (.cell 2 4, .val .str), (.cell 2 5, .val .str), (.cell 4 0, .val (.int .i64)), (.cell 4 1, .val .str), (.cell 4 2, .val (.int .u64)), (.cell 4 3, .val (.int .u32)), (.cell 4 4, .val .str), (.cell 4 5, .val .str)], [(1, 2), (2, 6), (4, 6)]⟩)]
noncomputable def F29_5 (k : Nat) : Nat → m29_5.den → Option (denE x29_5)
  | 0, _ => none
  | j + 1, v => round TI (O67 k) (L29_5 k) b29_5 m29_5 x29_5 (F29_5 k j) v
theorem lk29_5_ (k : Nat) : LinksOK Tryz.prog 120 (L29_5 k) b29_5 := (And.intro (And.intro True.intro (And.intro True.intro True.intro)) (And.intro (And.intro True.intro (And.intro True.intro True.intro)) True.intro))
noncomputable def L29_13 (k : Nat) : LOrc := fun _ _ _ _ => none
noncomputable def b29_13 : Code := (findLoop 13 c29).getD .skip
noncomputable def m29_13 : Msk := ⟨[(.tmp 1, .ptr 1 0), (.tmp 2, .ptr 2 0), (.tmp 4, .ptr 4 0), (.tmp 6, .row false (.int .i64)), (.tmp 7, .val (.int .i64)), (.cell 1 0, .val .str), (.cell 1 1, .val (.slice (.st (.cons (.int .i64) (.cons .str .nil))))), (.cell 2 0, .val (.int .i64)), (.cell 2 1, .val .str), (.cell 2 2, .val (.int .u64)), (.cell 2 3, .val (.int .u32)), (.cell 2 4, .val .str), (.cell 2 5, .val .str), (.cell 4 0, .val (.int .i64)), (.cell 4 1, .val .str), (.cell 4 2, .val (.int .u64)), (.cell 4 3, .val (.int .u32)), (.cell 4 4, .val .str), (.cell 4 5, .val .str)], [(1, 2), (2, 6), (4, 6)]⟩
noncomputable def x29_13 : List (X × Msk) := [(.exit 2, ⟨[(.tmp 1, .ptr 1 0), (.tmp 2, .ptr 2 0), (.tmp 4, .ptr 4 0), (.tmp 6, .row false (.int .i64)), (.cell 1 0, .val .str), (.cell 1 1, .val (.slice (.st (.cons (.int .i64) (.cons .str .nil))))), (.cell 2 0, .val (.int .i64)), (.cell 2 1, .val .str), (.cell 2 2, .val (.int .u64)), (.cell 2 3, .val (.int .u32)), (.cell 2 4, .val .str), (.cell 2 5, .val .str), (.cell 4 0, .val (.int .i64)), (.cell 4 1, .val .str), (.cell 4 2, .val (.int .u64)), (.cell 4 3, .val (.int .u32)), (.cell 4 4, .val .str), (.cell 4 5, .val .str)], [(1, 2), (2, 6), (4, 6)]⟩), (.ret, ⟨[(.tmp 2, .ptr 2 0), (.tmp 3, .val (.int .i64)), (.cell 2 0, .val (.int .i64)), (.cell 2 1, .val .str), (.cell 2 2, .val (.int .u64)), (.cell 2 3, .val (.int .u32)), (.cell 2 4, .val .str), (.cell 2 5, .val .str)], [(2, 6)]⟩)]
noncomputable def F29_13 (k : Nat) : Nat → m29_13.den → Option (denE x29_13)
  | 0, _ => none
  | j + 1, v => round TI (O67 k) (L29_13 k) b29_13 m29_13 x29_13 (F29_13 k j) v
theorem lk29_13_ (k : Nat) : LinksOK Tryz.prog 120 (L29_13 k) b29_13 := (And.intro (And.intro True.intro (And.intro True.intro True.intro)) (And.intro (And.intro True.intro (And.intro (And.intro True.intro (And.intro (And.intro True.intro True.intro) True.intro)) (And.intro True.intro (And.intro True.intro (And.intro True.intro (And.intro True.intro (And.intro True.intro (And.intro True.intro (And.intro True.intro (And.intro True.intro (And.intro True.intro (And.intro True.intro (And.intro True.intro (And.intro True.intro True.intro)))))))))))))) True.intro))
noncomputable def L29 (k : Nat) : LOrc := fun R lk s K => match lk with
  | .loop r => bif Nat.beq r 5 then link m29_5 x29_5 (F29_5 k k) s K else bif Nat.beq r 13 then link m29_13 x29_13 (F29_13 k k) s K else none
  | .label l => none
theorem lk_L29_5 (k : Nat) : LoopOK Tryz.prog 120 (L29 k) b29_5 := loopOK_of hm hT (ok_O67 k) (fun _ _ _ h => h) rfl (lk29_5_ k) rfl rfl (F := F29_5 k) (fun _ => rfl) (fun _ _ => rfl) (n := k) fun _ _ _ => rfl
theorem lk_L29_13 (k : Nat) : LoopOK Tryz.prog 120 (L29 k) b29_13 := loopOK_of hm hT (ok_O67 k) (fun _ _ _ h => h) rfl (lk29_13_ k) rfl rfl (F := F29_13 k) (fun _ => rfl) (fun _ _ => rfl) (n := k) fun _ _ _ => rfl
noncomputable def F29 (k : Nat) (v : mi29.den) : Option mo29.den := runF TI (O67 k) (L29 k) c29 mi29 mo29 v
theorem lk29 (k : Nat) : LinksOK Tryz.prog 120 (L29 k) c29 := (And.intro True.intro (And.intro (And.intro True.intro (And.intro (And.intro True.intro True.intro) True.intro)) (And.intro True.intro (And.intro (And.intro True.intro (lk_L29_5 k)) (And.intro True.intro (And.intro (And.intro True.intro (And.intro (And.intro True.intro True.intro) True.intro)) (And.intro (And.intro True.intro (lk_L29_13 k)) (And.intro (And.intro True.intro (And.intro (And.intro True.intro True.intro) True.intro)) (And.intro (And.intro True.intro (And.intro (And.intro True.intro True.intro) True.intro)) (And.intro True.intro True.intro))))))))))
theorem fn29 (k : Nat) (args : List AV) (x : mi29.den) (r : mo29.den) (h1 : args.length = mi29.items.length) (h2 : mi29.dec (Th.start args) = some x) (h3 : F29 k x = some r) : CallOK Tryz.prog 29 args (ansOf (outL mo29.items r)) :=
  call_of hm hT (ok_O67 k) (fn := Tryz.f29) (c := c29) Tryz.func29 rfl rfl rfl (lk29 k) rfl (by decide) rfl h1 h2 h3
noncomputable def O29 (k : Nat) : Orc := fun R f args K => bif Nat.beq f 29 then callF mi29 mo29 (F29 k) args K else O67 k R f args K
theorem ok_O29 (k : Nat) : OrcOK (O29 k) (CallOK Tryz.prog) := orc_add (fn29 k) (ok_O67 k)
noncomputable def c12 : Code := Tryz.f12.body.getD .skip
noncomputable def mi12 : Msk := ⟨[(.tmp 0, .val (.slice (.int .u8)))], []⟩
noncomputable def mo12 : Msk := ⟨[(.res 2, .val (.st (.cons (.int .i64) (.cons .str (.cons (.int .u64) (.cons (.int .u32) (.cons .str (.cons .str .nil)))))))), (.tmp 3, .val (.int .i64))], []⟩
noncomputable def L12 (k : Nat) : LOrc := fun _ _ _ _ => none
noncomputable def F12 (k : Nat) (v : mi12.den) : Option mo12.den := runF TI (O29 k) (L12 k) c12 mi12 mo12 v
theorem lk12 (k : Nat) : LinksOK Tryz.prog 45 (L12 k) c12 := (And.intro True.intro (And.intro (And.intro True.intro (And.intro (And.intro True.intro True.intro) True.intro)) (And.intro True.intro (And.intro (And.intro True.intro (And.intro (And.intro True.intro True.intro) True.intro)) (And.intro True.intro True.intro)))))
theorem fn12 (k : Nat) (args : List AV) (x : mi12.den) (r : mo12.den) (h1 : args.length = mi12.items.length) (h2 : mi12.dec (Th.start args) = some x) (h3 : F12 k x = some r) : CallOK Tryz.prog 12 args (ansOf (outL mo12.items r)) :=
  call_of hm hT (ok_O29 k) (fn := Tryz.f12) (c := c12) Tryz.func12 rfl rfl rfl (lk12 k) rfl (by decide) rfl h1 h2 h3
noncomputable def O12 (k : Nat) : Orc := fun R f args K => bif Nat.beq f 12 then callF mi12 mo12 (F12 k) args K else O29 k R f args K
theorem ok_O12 (k : Nat) : OrcOK (O12 k) (CallOK Tryz.prog) := orc_add (fn12 k) (ok_O29 k)
noncomputable def c72 : Code := Tryz.f72.body.getD .skip
noncomputable def mi72 : Msk := ⟨[(.tmp 0, .val (.st (.cons (.int .i64) (.cons (.slice (.slice (.int .u8))) .nil))))], []⟩
noncomputable def mo72 : Msk := ⟨[(.tmp 2, .val .bool)], []⟩
noncomputable def L72 (k : Nat) : LOrc := fun _ _ _ _ => none
noncomputable def F72 (k : Nat) (v : mi72.den) : Option mo72.den := runF TI (O12 k) (L72 k) c72 mi72 mo72 v
theorem lk72 (k : Nat) : LinksOK Tryz.prog 19 (L72 k) c72 := (And.intro True.intro (And.intro True.intro True.intro))
theorem fn72 (k : Nat) (args : List AV) (x : mi72.den) (r : mo72.den) (h1 : args.length = mi72.items.length) (h2 : mi72.dec (Th.start args) = some x) (h3 : F72 k x = some r) : CallOK Tryz.prog 72 args (ansOf (outL mo72.items r)) :=
  call_of hm hT (ok_O12 k) (fn := Tryz.f72) (c := c72) Tryz.func72 rfl rfl rfl (lk72 k) rfl (by decide) rfl h1 h2 h3
noncomputable def O72 (k : Nat) : Orc := fun R f args K => bif Nat.beq f 72 then callF mi72 mo72 (F72 k) args K else O12 k R f args K
theorem ok_O72 (k : Nat) : OrcOK (O72 k) (CallOK Tryz.prog) := orc_add (fn72 k) (ok_O12 k)
noncomputable def c31 : Code := Tryz.f31.body.getD .skip
noncomputable def mi31 : Msk := ⟨[(.tmp 0, .val (.st (.cons (.int .i64) (.cons (.slice (.slice (.int .u8))) .nil)))), (.tmp 1, .val (.slice (.slice (.int .u8))))], []⟩
noncomputable def mo31 : Msk := ⟨[(.res 4, .val (.st (.cons (.int .i64) (.cons (.slice (.slice (.int .u8))) .nil)))), (.tmp 5, .val (.int .i64))], []⟩
noncomputable def L31 (k : Nat) : LOrc := fun _ _ _ _ => none
noncomputable def F31 (k : Nat) (v : mi31.den) : Option mo31.den := runF TI (O72 k) (L31 k) c31 mi31 mo31 v
theorem lk31 (k : Nat) : LinksOK Tryz.prog 29 (L31 k) c31 := (And.intro True.intro (And.intro (And.intro True.intro (And.intro (And.intro True.intro True.intro) True.intro)) (And.intro (And.intro True.intro (And.intro (And.intro True.intro True.intro) True.intro)) (And.intro True.intro True.intro))))
theorem fn31 (k : Nat) (args : List AV) (x : mi31.den) (r : mo31.den) (h1 : args.length = mi31.items.length) (h2 : mi31.dec (Th.start args) = some x) (h3 : F31 k x = some r) : CallOK Tryz.prog 31 args (ansOf (outL mo31.items r)) :=
  call_of hm hT (ok_O72 k) (fn := Tryz.f31) (c := c31) Tryz.func31 rfl rfl rfl (lk31 k) rfl (by decide) rfl h1 h2 h3
noncomputable def O31 (k : Nat) : Orc := fun R f args K => bif Nat.beq f 31 then callF mi31 mo31 (F31 k) args K else O72 k R f args K
theorem ok_O31 (k : Nat) : OrcOK (O31 k) (CallOK Tryz.prog) := orc_add (fn31 k) (ok_O72 k)
noncomputable def c14 : Code := Tryz.f14.body.getD .skip
noncomputable def mi14 : Msk := ⟨[(.tmp 0, .val (.st (.cons (.int .i64) (.cons (.slice (.slice (.int .u8))) .nil)))), (.tmp 1, .val (.slice (.st (.cons (.int .i64) (.cons .str (.cons (.int .u64) (.cons (.int .u32) (.cons .str (.cons .str .nil)))))))))], []⟩
noncomputable def mo14 : Msk := ⟨[(.res 4, .val (.st (.cons (.int .i64) (.cons (.slice (.slice (.int .u8))) .nil)))), (.tmp 5, .val (.int .i64))], []⟩
noncomputable def L14_3 (k : Nat) : LOrc := fun _ _ _ _ => none
noncomputable def b14_3 : Code := (findLoop 3 c14).getD .skip
noncomputable def m14_3 : Msk := ⟨[(.tmp 1, .val (.slice (.st (.cons (.int .i64) (.cons .str (.cons (.int .u64) (.cons (.int .u32) (.cons .str (.cons .str .nil))))))))), (.tmp 2, .ptr 2 0), (.tmp 4, .ptr 4 0), (.tmp 6, .row false (.slice (.int .u8))), (.tmp 7, .val (.int .i64)), (.cell 2 0, .val (.int .i64)), (.cell 2 1, .val (.slice (.slice (.int .u8)))), (.cell 4 0, .val (.int .i64)), (.cell 4 1, .row false (.slice (.int .u8)))], [(2, 2), (4, 2)]⟩
noncomputable def x14_3 : List (X × Msk) := [(.exit 0, ⟨[(.tmp 2, .ptr 2 0), (.tmp 4, .ptr 4 0), (.tmp 6, .row false (.slice (.int .u8))), (.cell 2 0, .val (.int .i64)), (.cell 2 1, .val (.slice (.slice (.int .u8)))), (.cell 4 0, .val (.int .i64)), (.cell 4 1, .row false (.slice (.int .u8)))], [(2, 2), (4, 2)]⟩), (.ret, ⟨[(.tmp 4, .ptr 4 0), (.tmp 5, .val (.int .i64)), (.cell 4 0, .val (.int .i64)), (.cell 4 1, .val (.slice (.slice (.int .u8))))], [(4, 2)]⟩)]
noncomputable def F14_3 (k : Nat) : Nat → m14_3.den → Option (denE x14_3)
  | 0, _ => none
  | j + 1, v => round TI (O31 k) (L14_3 k) b14_3 m14_3 x14_3 (F14_3 k j) v
theorem lk14_3_ (k : Nat) : LinksOK Tryz.prog 34 (L14_3 k) b14_3 := (And.intro (And.intro True.intro (And.intro True.intro True.intro)) (And.intro (And.intro (And.intro True.intro (And.intro (And.intro True.intro True.intro) True.intro)) True.intro) True.intro))
noncomputable def L14 (k : Nat) : LOrc := fun R lk s K => match lk with
  | .loop r => bif Nat.beq r 3 then link m14_3 x14_3 (F14_3 k k) s K else none
  | .label l => none
theorem lk_L14_3 (k : Nat) : LoopOK Tryz.prog 34 (L14 k) b14_3 := loopOK_of hm hT (ok_O31 k) (fun _ _ _ h => h) rfl (lk14_3_ k) rfl rfl (F := F14_3 k) (fun _ => rfl) (fun _ _ => rfl) (n := k) fun _ _ _ => rfl
noncomputable def F14 (k : Nat) (v : mi14.den) : Option mo14.den := runF TI (O31 k) (L14 k) c14 mi14 mo14 v
theorem lk14 (k : Nat) : LinksOK Tryz.prog 34 (L14 k) c14 := (And.intro True.intro (And.intro True.intro (And.intro (And.intro True.intro (lk_L14_3 k)) (And.intro True.intro True.intro))))
theorem fn14 (k : Nat) (args : List AV) (x : mi14.den) (r : mo14.den) (h1 : args.length = mi14.items.length) (h2 : mi14.dec (Th.start args) = some x) (h3 : F14 k x = some r) : CallOK Tryz.prog 14 args (ansOf (outL mo14.items r)) :=
  call_of hm hT (ok_O31 k) (fn := Tryz.f14) (c := c14) Tryz.func14 rfl rfl rfl (lk14 k) rfl (by decide) rfl h1 h2 h3
noncomputable def O14 (k : Nat) : Orc := fun R f args K => bif Nat.beq f 14 then callF mi14 mo14 (F14 k) args K else O31 k R f args K
theorem ok_O14 (k : Nat) : OrcOK (O14 k) (CallOK Tryz.prog) := orc_add (fn14 k) (ok_O31 k)
noncomputable def c32 : Code := Tryz.f32.body.getD .skip
noncomputable def mi32 : Msk := ⟨[(.tmp 0, .val (.slice (.slice (.int .u8)))), (.tmp 1, .val (.slice (.slice (.int .u8))))], []⟩
noncomputable def mo32 : Msk := ⟨[(.tmp 4, .val .bool)], []⟩
noncomputable def L32_4 (k : Nat) : LOrc := fun _ _ _ _ => none
noncomputable def b32_4 : Code := (findLoop 4 c32).getD .skip
noncomputable def m32_4 : Msk := ⟨[(.tmp 0, .val (.slice (.slice (.int .u8)))), (.tmp 1, .val (.slice (.slice (.int .u8)))), (.tmp 5, .val (.int .i64))], []⟩
noncomputable def x32_4 : List (X × Msk) := [(.exit 0, ⟨[], []⟩), (.ret, ⟨[(.tmp 4, .val .bool)], []⟩)]
noncomputable def F32_4 (k : Nat) : Nat → m32_4.den → Option (denE x32_4)
  | 0, _ => none
  | j + 1, v => round TI (O14 k) (L32_4 k) b32_4 m32_4 x32_4 (F32_4 k j) v
theorem lk32_4_ (k : Nat) : LinksOK Tryz.prog 28 (L32_4 k) b32_4 := (And.intro (And.intro True.intro (And.intro True.intro True.intro)) (And.intro (And.intro True.intro (And.intro (And.intro True.intro True.intro) True.intro)) True.intro))
noncomputable def L32 (k : Nat) : LOrc := fun R lk s K => match lk with
  | .loop r => bif Nat.beq r 4 then link m32_4 x32_4 (F32_4 k k) s K else none
  | .label l => none
theorem lk_L32_4 (k : Nat) : LoopOK Tryz.prog 28 (L32 k) b32_4 := loopOK_of hm hT (ok_O14 k) (fun _ _ _ h => h) rfl (lk32_4_ k) rfl rfl (F := F32_4 k) (fun _ => rfl) (fun _ _ => rfl) (n := k) fun _ _ _ => rfl
noncomputable def F32 (k : Nat) (v : mi32.den) : Option mo32.den := runF TI (O14 k) (L32 k) c32 mi32 mo32 v
theorem lk32 (k : Nat) : LinksOK Tryz.prog 28 (L32 k) c32 := (And.intro True.intro (And.intro (And.intro True.intro (And.intro (And.intro True.intro True.intro) True.intro)) (And.intro (And.intro True.intro (lk_L32_4 k)) (And.intro True.intro True.intro))))
theorem fn32 (k : Nat) (args : List AV) (x : mi32.den) (r : mo32.den) (h1 : args.length = mi32.items.length) (h2 : mi32.dec (Th.start args) = some x) (h3 : F32 k x = some r) : CallOK Tryz.prog 32 args (ansOf (outL mo32.items r)) :=
  call_of hm hT (ok_O14 k) (fn := Tryz.f32) (c := c32) Tryz.func32 rfl rfl rfl (lk32 k) rfl (by decide) rfl h1 h2 h3
noncomputable def O32 (k : Nat) : Orc := fun R f args K => bif Nat.beq f 32 then callF mi32 mo32 (F32 k) args K else O14 k R f args K
theorem ok_O32 (k : Nat) : OrcOK (O32 k) (CallOK Tryz.prog) := orc_add (fn32 k) (ok_O14 k)
noncomputable def c15 : Code := Tryz.f15.body.getD .skip
noncomputable def mi15 : Msk := ⟨[(.tmp 0, .val (.st (.cons (.int .i64) (.cons (.slice (.slice (.int .u8))) .nil)))), (.tmp 1, .val (.st (.cons (.int .i64) (.cons (.slice (.slice (.int .u8))) .nil))))], []⟩
noncomputable def mo15 : Msk := ⟨[(.tmp 4, .val .bool)], []⟩
noncomputable def L15 (k : Nat) : LOrc := fun _ _ _ _ => none
noncomputable def F15 (k : Nat) (v : mi15.den) : Option mo15.den := runF TI (O32 k) (L15 k) c15 mi15 mo15 v
theorem lk15 (k : Nat) : LinksOK Tryz.prog 17 (L15 k) c15 := (And.intro True.intro (And.intro True.intro True.intro))
theorem fn15 (k : Nat) (args : List AV) (x : mi15.den) (r : mo15.den) (h1 : args.length = mi15.items.length) (h2 : mi15.dec (Th.start args) = some x) (h3 : F15 k x = some r) : CallOK Tryz.prog 15 args (ansOf (outL mo15.items r)) :=
  call_of hm hT (ok_O32 k) (fn := Tryz.f15) (c := c15) Tryz.func15 rfl rfl rfl (lk15 k) rfl (by decide) rfl h1 h2 h3
noncomputable def O15 (k : Nat) : Orc := fun R f args K => bif Nat.beq f 15 then callF mi15 mo15 (F15 k) args K else O32 k R f args K
theorem ok_O15 (k : Nat) : OrcOK (O15 k) (CallOK Tryz.prog) := orc_add (fn15 k) (ok_O32 k)
noncomputable def c3 : Code := Tryz.f3.body.getD .skip
noncomputable def mi3 : Msk := ⟨[(.tmp 0, .val (.st (.cons (.int .i64) (.cons .str (.cons (.int .u64) (.cons (.int .u32) (.cons .str (.cons .str .nil)))))))), (.tmp 1, .val (.slice (.int .u8))), (.tmp 2, .val (.st (.cons (.int .i64) (.cons (.slice (.slice (.int .u8))) .nil)))), (.tmp 3, .val (.slice (.st (.cons (.int .i64) (.cons .str (.cons (.int .u64) (.cons (.int .u32) (.cons .str (.cons .str .nil)))))))))], []⟩
noncomputable def mo3 : Msk := ⟨[(.tmp 8, .val .bool)], []⟩
noncomputable def L3 (k : Nat) : LOrc := fun _ _ _ _ => none
noncomputable def F3 (k : Nat) (v : mi3.den) : Option mo3.den := runF TI (O15 k) (L3 k) c3 mi3 mo3 v
theorem lk3 (k : Nat) : LinksOK Tryz.prog 113 (L3 k) c3 := (And.intro True.intro (And.intro (And.intro True.intro (And.intro (And.intro True.intro True.intro) True.intro)) (And.intro (And.intro True.intro (And.intro (And.intro True.intro True.intro) True.intro)) (And.intro True.intro (And.intro (And.intro True.intro (And.intro (And.intro True.intro True.intro) True.intro)) (And.intro True.intro (And.intro True.intro (And.intro True.intro (And.intro True.intro (And.intro True.intro True.intro))))))))))
theorem fn3 (k : Nat) (args : List AV) (x : mi3.den) (r : mo3.den) (h1 : args.length = mi3.items.length) (h2 : mi3.dec (Th.start args) = some x) (h3 : F3 k x = some r) : CallOK Tryz.prog 3 args (ansOf (outL mo3.items r)) :=
  call_of hm hT (ok_O15 k) (fn := Tryz.f3) (c := c3) Tryz.func3 rfl rfl rfl (lk3 k) rfl (by decide) rfl h1 h2 h3
noncomputable def O3 (k : Nat) : Orc := fun R f args K => bif Nat.beq f 3 then callF mi3 mo3 (F3 k) args K else O15 k R f args K
theorem ok_O3 (k : Nat) : OrcOK (O3 k) (CallOK Tryz.prog) := orc_add (fn3 k) (ok_O15 k)
end Go.Proofs.YtjgnpmdbkgeakaaGreatDoor.G
end
section
set_option maxRecDepth 1000000
set_option linter.unusedVariables false
set_option linter.unusedSimpArgs false
namespace Go.Proofs.YtjgnpmdbkgeakaaGreatDoor.G
open Go Go.Proofs.YtjgnpmdbkgeakaaGreatDoor Th
noncomputable def G59 (k : Nat) (v : Int × Unit) : Option (Bool × Unit) := F59 k v
theorem G59_eq (k : Nat) (v0 : Int) : G59 k (v0, ()) = sel (decide (v0 = 1)) (sel (decide (v0 = 1)) (some (true, ())) (some (false, ()))) (sel (decide (v0 = 3)) (sel (decide (v0 = 3)) (some (true, ())) (some (false, ()))) (sel (decide (v0 = 5)) (sel (decide
 (v0 = 5)) (some (true, ())) (some (false, ()))) (sel (decide (v0 = 6)) (some (true, ())) (some (false, ()))))) := by kernel_rfl
noncomputable def G96_g0 (k : Nat) (j : Nat) (v : List UInt8 × Int × Unit) : Option (Bool × Unit) := F96_g0 k j v
theorem G96_g0_eq (k : Nat) (j : Nat) (v0 : List UInt8) (v1 : Int) : G96_g0 k (j + 1) (v0, v1, ()) = sel (decide (v1 = Int.ofNat v0.length)) (some (decide (0 < v1), ())) (sel (decide (0 ≤ v1)) (sel (decide (v1 < Int.ofNat v0.length)) (sel (decide (Int.ofNat (v0.getD v1.toNat 0).toNat
 < 48)) (some (false, ())) (sel (decide (0 ≤ v1)) (sel (decide (v1 < Int.ofNat v0.length)) (sel (decide (57 < Int.ofNat (v0.getD v1.toNat 0).toNat)) (some (false, ())) (G96_g0 k j (v0, IntKind.i64.wrap (v1 + 1), ()))) none) none)) none) none) := by kernel_rfl
noncomputable def G96 (k : Nat) (v : List UInt8 × Unit) : Option (Bool × Unit) := F96 k v
theorem G96_eq (k : Nat) (v0 : List UInt8) : G96 k (v0, ()) = sel (decide (0 = Int.ofNat v0.length)) (some (false, ())) (sel (decide (0 < Int.ofNat v0.length)) (sel (decide (Int.ofNat (v0.getD (Int.toNat 0) 0).toNat < 48)) (some (false, ())) (sel (decide (0 < Int.ofNat
 v0.length)) (sel (decide (57 < Int.ofNat (v0.getD (Int.toNat 0) 0).toNat)) (some (false, ())) (ocall (G96_g0 k k (v0, IntKind.i64.wrap (0 + 1), ())) fun e => some (e.1, ()))) none)) none) := by kernel_rfl
noncomputable def G97 (k : Nat) (v : List UInt8 × Bool × Unit) : Option (Int × Unit) := F97 k v
theorem G97_eq (k : Nat) (v0 : List UInt8) (v1 : Bool) : G97 k (v0, v1, ()) = sel (decide (v0.length ≤ 9223372036854775807)) (some ((Sum.sumOf (Sum.backs (toBytes v0)) v1).1, ())) none := by kernel_rfl
noncomputable def G60 (k : Nat) (v : List UInt8 × Unit) : Option (Bool × Unit) := F60 k v
theorem G60_eq (k : Nat) (v0 : List UInt8) : G60 k (v0, ()) = ocall (G96 k (v0, ())) fun r => sel r.1 (ocall (G97 k (v0, false, ())) fun r => some (decide (r.1.tmod 10 = 0), ())) (some (false, ())) := by kernel_rfl
noncomputable def G34 (k : Nat) (v : Int × Unit) : Option (List UInt8 × Unit) := F34 k v
theorem G34_eq (k : Nat) (v0 : Int) : G34 k (v0, ()) = sel (decide (v0 < 0)) (some ([], ())) (sel (decide (8 ≤ v0)) (some ([], ())) (sel (decide (0 ≤ v0)) (sel (decide (v0 < Int.ofNat 8)) (some ([[], [48, 49, 48, 48], [48, 49, 49, 48], [48, 52, 48, 48], [48, 52, 49, 48], [48,
 52, 50, 48], [48, 52, 50, 49], [48, 52, 51, 48]].getD v0.toNat [], ())) none) none)) := by kernel_rfl
noncomputable def G73_5 (k : Nat) (j : Nat) (v : Int × List Int × Int × Unit) : Option (Int × List Int × Unit) := F73_5 k j v
theorem G73_5_eq (k : Nat) (j : Nat) (v0 : Int) (v1 : List Int) (v2 : Int) : G73_5 k (j + 1) (v0, v1, v2, ()) = sel (decide (0 ≤ v2)) (sel (decide (0 ≤ v2)) (sel (decide (v2 < Int.ofNat v1.length)) (sel (decide (v2.toNat < v1.length)) (G73_5 k j (IntKind.u64.wrap (v0.tdiv 10), v1.set
 v2.toNat (IntKind.u8.wrap (48 + IntKind.u8.wrap (v0.tmod 10))), IntKind.i64.wrap (v2 - 1), ())) none) none) none) (some (v0, v1, ())) := by kernel_rfl
noncomputable def G73 (k : Nat) (v : Int × Int × Unit) : Option (List UInt8 × Int × Unit) := F73 k v
theorem G73_eq (k : Nat) (v0 v1 : Int) : G73 k (v0, v1, ()) = sel (decide (v1 < 1)) (some ([], 1, ())) (sel (decide (19 < v1)) (some ([], 1, ())) (sel (decide (0 ≤ v1)) (sel (decide (v1 ≤ v1)) (sel (decide (v1 ≤ 140737488355328)) (sel (decide (v1 * Int.ofNat 1 ≤
 140737488355328)) (ocall (G73_5 k k (v0, List.replicate v1.toNat 0, IntKind.i64.wrap (v1 - 1), ())) fun e => sel (decide (0 < e.1)) (some ([], 10, ())) (some (ofBytes e.2.1, 0, ()))) none) none) none) none)) := by kernel_rfl
noncomputable def G35 (k : Nat) (v : (Int × List UInt8 × Int × Int × List UInt8 × List UInt8 × Unit) × Unit) : Option (List (Int × List UInt8 × Unit) × Unit) := F35 k v
theorem G35_eq (k : Nat) (v0 : Int) (v1 : List UInt8) (v2 v3 : Int) (v4 v5 : List UInt8) : G35 k ((v0, v1, v2, v3, v4, v5, ()), ()) = ocall (G73 k (IntKind.u64.wrap v3, 6, ())) fun r => ocall (G59 k (v0, ())) fun r_1 => sel (!r_1.1) (some ([(11, r.1, ()), (37,
 v4, ()), (39, v5, ())], ())) (ocall (G73 k (v2, 12, ())) fun r_2 => sel (decide (5 ≤ v0)) (ocall (G34 k (1, ())) fun r_3 => sel (decide (r_3.1.length + r.1.length ≤ 140737488355328)) (sel (decide ((r_3.1 ++ r.1).length + 32 ≤ 140737488355328)) (some ([(2, v1,
 ()), (4, r_2.1, ()), (11, r.1, ()), (37, v4, ()), (90, r_3.1 ++ r.1 ++ [48, 48, 48, 48, 48, 48, 48, 48, 48, 48, 48, 48, 48, 48, 48, 48, 48, 48, 48, 48, 48, 48, 48, 48, 48, 48, 48, 48, 48, 48, 48, 48], ())], ())) none) none) (some ([(2, v1, ()),
 (4, r_2.1, ()), (11, r.1, ()), (37, v4, ())], ()))) := by kernel_rfl
noncomputable def G75_2 (k : Nat) (j : Nat) (v : Int × List (Int × Int × Int × Unit) × Int × Int × Int × Int × Int × Unit) : Option (Int × Int × Int × Unit ⊕ Bool × Int × Int × Int × Unit) := F75_2 k j v
theorem G75_2_eq (k : Nat) (j : Nat) (v0 : Int) (v1 : List (Int × Int × Int × Unit)) (v2 v3 v4 v5 v6 : Int) : G75_2 k (j + 1) (v0, v1, v2, v3, v4, v5, v6, ()) = sel (decide (v3 < v2)) (sel (decide (0 ≤ v3)) (sel (decide (v3 < Int.ofNat v1.length)) (sel (decide (v3.toNat < v1.length)) (sel
 (decide ((v1.getD v3.toNat (0, 0, 0, ())).1 = v0)) (some (Sum.inr (true, (v1.getD v3.toNat (0, 0, 0, ())).1, (v1.getD v3.toNat (0, 0, 0, ())).2.1, (v1.getD v3.toNat (0, 0, 0, ())).2.2.1, ()))) (G75_2 k j (v0, v1, v2, IntKind.i64.wrap (v3 + 1), v4, v5, v6,
 ()))) none) none) none) (some (Sum.inl (v4, v5, v6, ()))) := by kernel_rfl
noncomputable def G75 (k : Nat) (v : Int × Unit) : Option ((Int × Int × Int × Unit) × Bool × Unit) := F75 k v
theorem G75_eq (k : Nat) (v0 : Int) : G75 k (v0, ()) = ocall (G75_2 k k (v0, [(2, 3, 19, ()), (3, 1, 6, ()), (4, 1, 12, ()), (7, 1, 10, ()), (11, 1, 6, ()), (12, 1, 6, ()), (37, 2, 12, ()), (38, 2, 6, ()), (39, 2, 2,
 ()), (41, 2, 8, ()), (44, 4, 25, ()), (48, 5, 999, ()), (49, 1, 3, ()), (90, 1, 42, ()), (120, 5, 999, ())], Int.ofNat 15, 0, 0, 0, 0, ())) fun e => esel e (fun v => some ((0, 0, 0, ()), false, ())) fun e => some
 ((e.2.1, e.2.2.1, e.2.2.2.1, ()), e.1, ()) := by kernel_rfl
noncomputable def G76 (k : Nat) (v : (Int × Int × Int × Unit) × Unit) : Option ((Int × Int × Unit) × Unit ⊕ (Int × Unit) × Unit) := F76 k v
theorem G76_eq (k : Nat) (v0 v1 v2 : Int) : G76 k ((v0, v1, v2, ()), ()) = sel (decide (v1 = 3)) (sel (decide (v1 = 3)) (some (Sum.inl ((2, v2, ()), ()))) (sel (decide (v1 = 5)) (some (Sum.inl ((3, v2, ()), ()))) (some (Sum.inr ((v2, ()),
 ()))))) (sel (decide (v1 = 4)) (some (Sum.inl ((2, v2, ()), ()))) (sel (decide (v1 = 5)) (some (Sum.inl ((3, v2, ()), ()))) (some (Sum.inr ((v2, ()), ()))))) := by kernel_rfl
noncomputable def G122 (k : Nat) (v : (Int × Int × Unit) × Int × Unit) : Option (Bool × Unit) := F122 k v
theorem G122_eq (k : Nat) (v0 v1 v2 : Int) : G122 k ((v0, v1, ()), v2, ()) = sel (decide (1 ≤ v2)) (some (decide (v2 ≤ v1), ())) (some (false, ())) := by kernel_rfl
noncomputable def G124 (k : Nat) (v : (Int × Unit) × Int × Unit) : Option (Bool × Unit) := F124 k v
theorem G124_eq (k : Nat) (v0 v1 : Int) : G124 k ((v0, ()), v1, ()) = some (decide (v1 = v0), ()) := by kernel_rfl
noncomputable def G92 (k : Nat) (v : (Int × Int × Int × Unit) × List UInt8 × Unit) : Option (Bool × Unit) := F92 k v
theorem G92_eq (k : Nat) (v0 v1 v2 : Int) (v3 : List UInt8) : G92 k ((v0, v1, v2, ()), v3, ()) = sel (decide (v3.length ≤ 9223372036854775807)) (ocall (G96 k (v3, ())) fun r => some (Signs.signsOf v1 r.1 v3, ())) none := by kernel_rfl
noncomputable def G61 (k : Nat) (v : Int × List UInt8 × Unit) : Option (Bool × Unit) := F61 k v
theorem G61_eq (k : Nat) (v0 : Int) (v1 : List UInt8) : G61 k (v0, v1, ()) = ocall (G75 k (v0, ())) fun r => sel r.2.1 (ocall (G76 k ((r.1.1, r.1.2.1, r.1.2.2.1, ()), ())) fun r_1 => esel r_1 (fun v => ocall (G122 k ((v.1.1, v.1.2.1, ()), Int.ofNat v1.length,
 ())) fun r_2 => sel r_2.1 (ocall (G92 k ((r.1.1, r.1.2.1, r.1.2.2.1, ()), v1, ())) fun r => some (r.1, ())) (some (false, ()))) fun e => ocall (G124 k ((e.1.1, ()), Int.ofNat v1.length, ())) fun r_2 => sel r_2.1 (ocall (G92 k ((r.1.1, r.1.2.1,
 r.1.2.2.1, ()), v1, ())) fun r => some (r.1, ())) (some (false, ()))) (some (false, ())) := by kernel_rfl
noncomputable def G74 (k : Nat) (v : List UInt8 × Unit) : Option (Bool × Unit) := F74 k v
theorem G74_eq (k : Nat) (v0 : List UInt8) : G74 k (v0, ()) = sel (decide (v0 = [48, 49, 48, 48])) (sel (decide (v0 = [48, 49, 48, 48])) (some (true, ())) (some (false, ()))) (sel (decide (v0 = [48, 49, 49, 48])) (sel (decide (v0 = [48, 49, 49, 48])) (some (true, ()))
 (some (false, ()))) (sel (decide (v0 = [48, 52, 48, 48])) (sel (decide (v0 = [48, 52, 48, 48])) (some (true, ())) (some (false, ()))) (sel (decide (v0 = [48, 52, 49, 48])) (sel (decide (v0 = [48, 52, 49, 48])) (some (true, ())) (some (false, ()))) (sel (decide
 (v0 = [48, 52, 50, 48])) (sel (decide (v0 = [48, 52, 50, 48])) (some (true, ())) (some (false, ()))) (sel (decide (v0 = [48, 52, 50, 49])) (sel (decide (v0 = [48, 52, 50, 49])) (some (true, ())) (some (false, ()))) (sel (decide (v0 = [48, 52, 51, 48])) (some (true,
 ())) (some (false, ())))))))) := by kernel_rfl
noncomputable def G36_3 (k : Nat) (j : Nat) (v : Int × List (Int × List UInt8 × Unit) × Int × Int × List UInt8 × List (Int × List UInt8 × Unit) × Unit) : Option (List UInt8 × List (Int × List UInt8 × Unit) × Unit ⊕ Bool × Unit) := F36_3 k j v
theorem G36_3_eq (k : Nat) (j : Nat) (v0 : Int) (v1 : List (Int × List UInt8 × Unit)) (v2 v3 : Int) (v4 : List UInt8) (v5 : List (Int × List UInt8 × Unit)) : G36_3 k (j + 1) (v0, v1, v2, v3, v4, v5, ()) = sel (decide (v3 < v2)) (sel (decide (0 ≤ v3)) (sel (decide (v3 < Int.ofNat
 v1.length)) (sel (decide ((v1.getD v3.toNat (0, [], ())).1 ≤ v0)) (some (Sum.inr (false, ()))) (ocall (G61 k ((v1.getD v3.toNat (0, [], ())).1, (v1.getD v3.toNat (0, [], ())).2.1, ())) fun r => sel (!r.1) (some (Sum.inr (false, ()))) (G36_3 k j
 ((v1.getD v3.toNat (0, [], ())).1, v1, v2, IntKind.i64.wrap (v3 + 1), v4, v5, ())))) none) none) (some (Sum.inl (v4, v5, ()))) := by kernel_rfl
noncomputable def G36 (k : Nat) (v : (List UInt8 × List (Int × List UInt8 × Unit) × Unit) × Unit) : Option (Bool × Unit) := F36 k v
theorem G36_eq (k : Nat) (v0 : List UInt8) (v1 : List (Int × List UInt8 × Unit)) : G36 k ((v0, v1, ()), ()) = ocall (G36_3 k k (0, v1, Int.ofNat v1.length, 0, v0, v1, ())) fun e => esel e (fun v => ocall (G74 k (v.1, ())) fun r => sel r.1 (some (decide (0 < Int.ofNat
 v.2.1.length), ())) (some (false, ()))) fun e => some (e.1, ()) := by kernel_rfl
noncomputable def G33 (k : Nat) (v : (Int × List UInt8 × Int × Int × List UInt8 × List UInt8 × Unit) × Unit) : Option (Bool × Unit) := F33 k v
theorem G33_eq (k : Nat) (v0 : Int) (v1 : List UInt8) (v2 v3 : Int) (v4 v5 : List UInt8) : G33 k ((v0, v1, v2, v3, v4, v5, ()), ()) = ocall (G59 k (v0, ())) fun r => sel r.1 (sel (!decide (v5 = [])) (some (false, ())) (ocall (G60 k (v1, ())) fun r => sel
 (!r.1) (some (false, ())) (ocall (G34 k (v0, ())) fun r => ocall (G35 k ((v0, v1, v2, v3, v4, v5, ()), ())) fun r_1 => ocall (G36 k ((r.1, r_1.1, ()), ())) fun r => some (r.1, ())))) (sel (!decide (v1 = [])) (some (false, ())) (sel
 (!decide (v2 = 0)) (some (false, ())) (ocall (G34 k (v0, ())) fun r => ocall (G35 k ((v0, v1, v2, v3, v4, v5, ()), ())) fun r_1 => ocall (G36 k ((r.1, r_1.1, ()), ())) fun r => some (r.1, ())))) := by kernel_rfl
noncomputable def G16 (k : Nat) (v : (Int × List UInt8 × Int × Int × List UInt8 × List UInt8 × Unit) × Unit) : Option ((List UInt8 × List (Int × List UInt8 × Unit) × Unit) × Int × Unit) := F16 k v
theorem G16_eq (k : Nat) (v0 : Int) (v1 : List UInt8) (v2 v3 : Int) (v4 v5 : List UInt8) : G16 k ((v0, v1, v2, v3, v4, v5, ()), ()) = ocall (G33 k ((v0, v1, v2, v3, v4, v5, ()), ())) fun r => sel (!r.1) (some (([], [], ()), 1, ())) (ocall (G34 k (v0,
 ())) fun r => ocall (G35 k ((v0, v1, v2, v3, v4, v5, ()), ())) fun r_1 => some ((r.1, r_1.1, ()), 0, ())) := by kernel_rfl
noncomputable def G121 (k : Nat) (v : (Int × Int × Unit) × Unit) : Option (Int × Unit) := F121 k v
theorem G121_eq (k : Nat) (v0 v1 : Int) : G121 k ((v0, v1, ()), ()) = some (v0, ()) := by kernel_rfl
noncomputable def G123 (k : Nat) (v : (Int × Unit) × Unit) : Option (Int × Unit) := F123 k v
theorem G123_eq (k : Nat) (v0 : Int) : G123 k ((v0, ()), ()) = some (0, ()) := by kernel_rfl
noncomputable def G37 (k : Nat) (v : Int × List UInt8 × Unit) : Option (List Int × Int × Unit) := F37 k v
theorem G37_eq (k : Nat) (v0 : Int) (v1 : List UInt8) : G37 k (v0, v1, ()) = ocall (G75 k (v0, ())) fun r => sel (!r.2.1) (some ([], 5, ())) (ocall (G61 k (v0, v1, ())) fun r_1 => sel (!r_1.1) (some ([], 1, ())) (ocall (G76 k ((r.1.1, r.1.2.1, r.1.2.2.1,
 ()), ())) fun r => esel r (fun v => ocall (G121 k ((v.1.1, v.1.2.1, ()), ())) fun r => sel (decide (0 < r.1)) (ocall (G73 k (IntKind.u64.wrap (Int.ofNat v1.length), r.1, ())) fun r => sel (decide (r.1.length + v1.length ≤ 140737488355328)) (some (toBytes (r.1
 ++ v1), 0, ())) none) (some (toBytes v1, 0, ()))) fun e => ocall (G123 k ((e.1.1, ()), ())) fun r => sel (decide (0 < r.1)) (ocall (G73 k (IntKind.u64.wrap (Int.ofNat v1.length), r.1, ())) fun r => sel (decide (r.1.length + v1.length ≤ 140737488355328)) (some
 (toBytes (r.1 ++ v1), 0, ())) none) (some (toBytes v1, 0, ())))) := by kernel_rfl
noncomputable def G100 (k : Nat) (v : Int × Int × Int × Unit) : Option (Int × Int × Int × Unit ⊕ Int × Int × Int × Unit) := F100 k v
theorem G100_eq (k : Nat) (v0 v1 v2 : Int) : G100 k (v0, v1, v2, ()) = sel (decide (v0 ≤ 64)) (sel (decide (0 ≤ IntKind.i64.wrap (v0 - 1))) (some (Sum.inl (Int.fdiv 9223372036854775808 (2 ^ min (IntKind.i64.wrap (v0 - 1)).toNat 64), v1, v2, ()))) none) (sel (decide (0 ≤
 IntKind.i64.wrap (IntKind.i64.wrap (v0 - 64) - 1))) (some (Sum.inr (Int.fdiv 9223372036854775808 (2 ^ min (IntKind.i64.wrap (IntKind.i64.wrap (v0 - 64) - 1)).toNat 64), v1, v2, ()))) none) := by kernel_rfl
noncomputable def G101 (k : Nat) (v : (Int × Int × Unit) × Int × Unit) : Option (Bool × Unit) := F101 k v
theorem G101_eq (k : Nat) (v0 v1 v2 : Int) : G101 k ((v0, v1, ()), v2, ()) = ocall (G100 k (v2, v0, v1, ())) fun r => esel r (fun v => some (!decide (bits BinOp.and IntKind.u64 v.2.1 v.1 = 0), ())) fun e => some (!decide (bits BinOp.and IntKind.u64 e.2.2.1 e.1 = 0),
 ()) := by kernel_rfl
noncomputable def G78 (k : Nat) (v : (Int × Int × Unit) × Unit) : Option (Bool × Unit) := F78 k v
theorem G78_eq (k : Nat) (v0 v1 : Int) : G78 k ((v0, v1, ()), ()) = ocall (G101 k ((v0, v1, ()), 65, ())) fun r => sel (!r.1) (ocall (G101 k ((v0, v1, ()), 1, ())) fun r => some (r.1 == !decide (v1 = 0), ())) (some (false, ())) := by
 kernel_rfl
noncomputable def G99 (k : Nat) (v : Int × Unit) : Option (Bool × Unit) := F99 k v
theorem G99_eq (k : Nat) (v0 : Int) : G99 k (v0, ()) = sel (decide (1 < v0)) (sel (decide (v0 ≤ 128)) (some (!decide (v0 = 65), ())) (some (false, ()))) (some (false, ())) := by kernel_rfl
noncomputable def G77 (k : Nat) (v : (Int × Int × Unit) × Int × Unit) : Option ((Int × Int × Unit) × Int × Unit) := F77 k v
theorem G77_eq (k : Nat) (v0 v1 v2 : Int) : G77 k ((v0, v1, ()), v2, ()) = ocall (G78 k ((v0, v1, ()), ())) fun r => sel (!r.1) (some ((v0, v1, ()), 1, ())) (ocall (G99 k (v2, ())) fun r => sel (!r.1) (some ((v0, v1, ()), 1,
 ())) (ocall (G100 k (v2, v0, v1, ())) fun r => esel r (fun v => sel (!decide (v.2.2.1 = 0)) (some ((bits BinOp.or IntKind.u64 (bits BinOp.or IntKind.u64 v.2.1 v.1) 9223372036854775808, v.2.2.1, ()), 0, ())) (some ((bits BinOp.or IntKind.u64 v.2.1 v.1, v.2.2.1,
 ()), 0, ()))) fun e => sel (!decide (bits BinOp.or IntKind.u64 e.2.2.1 e.1 = 0)) (some ((bits BinOp.or IntKind.u64 e.2.1 9223372036854775808, bits BinOp.or IntKind.u64 e.2.2.1 e.1, ()), 0, ())) (some ((e.2.1, bits BinOp.or IntKind.u64 e.2.2.1 e.1, ()), 0,
 ())))) := by kernel_rfl
noncomputable def G38_3 (k : Nat) (j : Nat) (v : List Int × Int × Int × Int × Int × Int × Int × Unit) : Option (Int × Int × Int × Int × Unit ⊕ Int × Int × Int × Unit) := F38_3 k j v
theorem G38_3_eq (k : Nat) (j : Nat) (v0 : List Int) (v1 v2 v3 v4 v5 v6 : Int) : G38_3 k (j + 1) (v0, v1, v2, v3, v4, v5, v6, ()) = sel (decide (v2 < v1)) (sel (decide (0 ≤ v2)) (sel (decide (v2 < Int.ofNat v0.length)) (ocall (G77 k ((v5, v6, ()), v0.getD v2.toNat 0, ())) fun
 r => sel (!decide (r.2.1 = 0)) (some (Sum.inr (r.2.1, 0, 0, ()))) (G38_3 k j (v0, v1, IntKind.i64.wrap (v2 + 1), v3, v4, r.1.1, r.1.2.1, ()))) none) none) (some (Sum.inl (v3, v4, v5, v6, ()))) := by kernel_rfl
noncomputable def G38 (k : Nat) (v : List Int × Unit) : Option ((Int × Int × Unit) × Int × Unit) := F38 k v
theorem G38_eq (k : Nat) (v0 : List Int) : G38 k (v0, ()) = ocall (G38_3 k k (v0, Int.ofNat v0.length, 0, 0, 0, 0, 0, ())) fun e => esel e (fun v => some ((v.2.2.1, v.2.2.2.1, ()), 0, ())) fun e => some ((e.2.1, e.2.2.1, ()), e.1, ()) := by kernel_rfl
noncomputable def G79_2 (k : Nat) (j : Nat) (v : List Int × Int × Int × Unit) : Option (List Int × Unit) := F79_2 k j v
theorem G79_2_eq (k : Nat) (j : Nat) (v0 : List Int) (v1 v2 : Int) : G79_2 k (j + 1) (v0, v1, v2, ()) = sel (decide (v2 < 8)) (sel (decide (0 ≤ IntKind.i64.wrap (64 - IntKind.i64.wrap (8 * IntKind.i64.wrap (v2 + 1))))) (sel (decide ((v0.length + 1) * 1 ≤ 140737488355328)) (G79_2 k j (v0 ++
 [IntKind.u8.wrap (v1.fdiv (2 ^ min (IntKind.i64.wrap (64 - IntKind.i64.wrap (8 * IntKind.i64.wrap (v2 + 1)))).toNat 64))], v1, IntKind.i64.wrap (v2 + 1), ())) none) none) (some (v0, ())) := by kernel_rfl
noncomputable def G79 (k : Nat) (v : List Int × Int × Unit) : Option (List Int × Unit) := F79 k v
theorem G79_eq (k : Nat) (v0 : List Int) (v1 : Int) : G79 k (v0, v1, ()) = ocall (G79_2 k k (v0, v1, 0, ())) fun e => some (e.1, ()) := by kernel_rfl
noncomputable def G39 (k : Nat) (v : (Int × Int × Unit) × Unit) : Option (List Int × Int × Unit) := F39 k v
theorem G39_eq (k : Nat) (v0 v1 : Int) : G39 k ((v0, v1, ()), ()) = ocall (G78 k ((v0, v1, ()), ())) fun r => sel (!r.1) (some ([], 1, ())) (ocall (G79 k ([], v0, ())) fun r => sel (!decide (v1 = 0)) (ocall (G79 k (r.1, v1, ())) fun r => some
 (r.1, 0, ())) (some (r.1, 0, ()))) := by kernel_rfl
noncomputable def G80 (k : Nat) (v : Int × Unit) : Option (List Int × Unit) := F80 k v
theorem G80_eq (k : Nat) (v0 : Int) : G80 k (v0, ()) = sel (decide (0 ≤ v0)) (sel (decide (v0 * 1 ≤ 140737488355328)) (some ([], ())) none) none := by kernel_rfl
noncomputable def G40_3 (k : Nat) (j : Nat) (v : List (List Int) × Int × List (List Int) × Int × Int × Unit) : Option (List (List Int) × Int × Unit) := F40_3 k j v
theorem G40_3_eq (k : Nat) (j : Nat) (v0 : List (List Int)) (v1 : Int) (v2 : List (List Int)) (v3 v4 : Int) : G40_3 k (j + 1) (v0, v1, v2, v3, v4, ()) = sel (decide (v4 < v3)) (sel (decide (0 ≤ v4)) (sel (decide (v4 < Int.ofNat v2.length)) (sel (decide (IntKind.i64.wrap (v1 + Int.ofNat
 (List.length (v2.getD v4.toNat []))) < 0)) none (G40_3 k j (v0, IntKind.i64.wrap (v1 + Int.ofNat (List.length (v2.getD v4.toNat []))), v2, v3, IntKind.i64.wrap (v4 + 1), ()))) none) none) (some (v0, v1, ())) := by kernel_rfl
noncomputable def G40_11 (k : Nat) (j : Nat) (v : List Int × List (List Int) × Int × Int × Unit) : Option (List Int × Unit) := F40_11 k j v
theorem G40_11_eq (k : Nat) (j : Nat) (v0 : List Int) (v1 : List (List Int)) (v2 v3 : Int) : G40_11 k (j + 1) (v0, v1, v2, v3, ()) = sel (decide (v3 < v2)) (sel (decide (0 ≤ v3)) (sel (decide (v3 < Int.ofNat v1.length)) (sel (decide ((v0.length + List.length (v1.getD v3.toNat [])) * 1 ≤
 140737488355328)) (G40_11 k j (v0 ++ v1.getD v3.toNat [], v1, v2, IntKind.i64.wrap (v3 + 1), ())) none) none) none) (some (v0, ())) := by kernel_rfl
noncomputable def G40 (k : Nat) (v : List (List Int) × Unit) : Option (List Int × Unit) := F40 k v
theorem G40_eq (k : Nat) (v0 : List (List Int)) : G40 k (v0, ()) = ocall (G40_3 k k (v0, 0, v0, Int.ofNat v0.length, 0, ())) fun e => ocall (G80 k (e.2.1, ())) fun r => ocall (G40_11 k k (r.1, e.1, Int.ofNat e.1.length, 0, ())) fun e => some (e.1, ()) := by
 kernel_rfl
noncomputable def G17_6 (k : Nat) (j : Nat) (v : List Int × List Int × List (Int × List UInt8 × Unit) × Int × Int × List UInt8 × List (Int × List UInt8 × Unit) × Unit) : Option (List Int × List Int × List UInt8 × List (Int × List UInt8 × Unit) × Unit) := F17_6 k j v
theorem G17_6_eq (k : Nat) (j : Nat) (v0 v1 : List Int) (v2 : List (Int × List UInt8 × Unit)) (v3 v4 : Int) (v5 : List UInt8) (v6 : List (Int × List UInt8 × Unit)) : G17_6 k (j + 1) (v0, v1, v2, v3, v4, v5, v6, ()) = sel (decide (v4 < v3)) (sel (decide (0 ≤ v4)) (sel (decide (v4 <
 Int.ofNat v2.length)) (ocall (G37 k ((v2.getD v4.toNat (0, [], ())).1, (v2.getD v4.toNat (0, [], ())).2.1, ())) fun r => sel (decide ((v0.length + 1) * 8 ≤ 140737488355328)) (sel (decide ((v1.length + r.1.length) * 1 ≤ 140737488355328)) (G17_6 k j (v0 ++ [(v2.getD v4.toNat
 (0, [], ())).1], v1 ++ r.1, v2, v3, IntKind.i64.wrap (v4 + 1), v5, v6, ())) none) none) none) none) (some (v0, v1, v5, v6, ())) := by kernel_rfl
noncomputable def G17 (k : Nat) (v : (List UInt8 × List (Int × List UInt8 × Unit) × Unit) × Unit) : Option (List Int × Int × Unit) := F17 k v
theorem G17_eq (k : Nat) (v0 : List UInt8) (v1 : List (Int × List UInt8 × Unit)) : G17 k ((v0, v1, ()), ()) = ocall (G36 k ((v0, v1, ()), ())) fun r => sel (!r.1) (some ([], 1, ())) (ocall (G17_6 k k ([], [], v1, Int.ofNat v1.length, 0, v0, v1, ()))
 fun e => ocall (G38 k (e.1, ())) fun r => ocall (G39 k ((r.1.1, r.1.2.1, ()), ())) fun r => ocall (G40 k ([toBytes e.2.2.1, r.1, e.2.1], ())) fun r => some (r.1, 0, ())) := by kernel_rfl
noncomputable def G18 (k : Nat) (v : List Int × Unit) : Option (List Int × Int × Unit) := F18 k v
theorem G18_eq (k : Nat) (v0 : List Int) : G18 k (v0, ()) = sel (decide (v0.length = 0)) (some ([], 2, ())) (sel (decide (2048 < v0.length)) (some ([], 4, ())) (some (Int.ofNat ((v0.length.div 256).mod 256) :: Int.ofNat (v0.length.mod 256) :: v0, 0, ()))) := by
 kernel_rfl
noncomputable def G8 (k : Nat) (v : (Int × List UInt8 × Int × Int × List UInt8 × List UInt8 × Unit) × Unit) : Option (List Int × Int × Unit) := F8 k v
theorem G8_eq (k : Nat) (v0 : Int) (v1 : List UInt8) (v2 v3 : Int) (v4 v5 : List UInt8) : G8 k ((v0, v1, v2, v3, v4, v5, ()), ()) = ocall (G16 k ((v0, v1, v2, v3, v4, v5, ()), ())) fun r => sel (!decide (r.2.1 = 0)) (some ([], r.2.1, ())) (ocall (G17 k
 ((r.1.1, r.1.2.1, ()), ())) fun r => ocall (G18 k (r.1, ())) fun r => some (r.1, r.2.1, ())) := by kernel_rfl
noncomputable def G51 (k : Nat) (v : List Int × Unit) : Option (Int × Unit) := F51 k v
theorem G51_eq (k : Nat) (v0 : List Int) : G51 k (v0, ()) = sel (decide (Int.ofNat v0.length < 2)) (some (0, ())) (sel (decide (0 < Int.ofNat v0.length)) (sel (decide (1 < Int.ofNat v0.length)) (sel (decide (bits BinOp.or IntKind.i64 (IntKind.i64.wrap (IntKind.i64.wrap (v0.getD
 (Int.toNat 0) 0) * 2 ^ min (Int.toNat 8) 64)) (IntKind.i64.wrap (v0.getD (Int.toNat 1) 0)) = 0)) (sel (decide (bits BinOp.or IntKind.i64 (IntKind.i64.wrap (IntKind.i64.wrap (v0.getD (Int.toNat 0) 0) * 2 ^ min (Int.toNat 8) 64)) (IntKind.i64.wrap (v0.getD (Int.toNat 1) 0)) = 0)) (some ((-1 : Int),
 ())) (sel (decide (Int.ofNat v0.length < IntKind.i64.wrap (2 + bits BinOp.or IntKind.i64 (IntKind.i64.wrap (IntKind.i64.wrap (v0.getD (Int.toNat 0) 0) * 2 ^ min (Int.toNat 8) 64)) (IntKind.i64.wrap (v0.getD (Int.toNat 1) 0))))) (some (0, ())) (some (IntKind.i64.wrap (2 + bits
 BinOp.or IntKind.i64 (IntKind.i64.wrap (IntKind.i64.wrap (v0.getD (Int.toNat 0) 0) * 2 ^ min (Int.toNat 8) 64)) (IntKind.i64.wrap (v0.getD (Int.toNat 1) 0))), ())))) (sel (decide (2048 < bits BinOp.or IntKind.i64 (IntKind.i64.wrap (IntKind.i64.wrap (v0.getD (Int.toNat 0) 0) * 2 ^ min
 (Int.toNat 8) 64)) (IntKind.i64.wrap (v0.getD (Int.toNat 1) 0)))) (some ((-1 : Int), ())) (sel (decide (Int.ofNat v0.length < IntKind.i64.wrap (2 + bits BinOp.or IntKind.i64 (IntKind.i64.wrap (IntKind.i64.wrap (v0.getD (Int.toNat 0) 0) * 2 ^ min (Int.toNat 8) 64)) (IntKind.i64.wrap (v0.getD
 (Int.toNat 1) 0))))) (some (0, ())) (some (IntKind.i64.wrap (2 + bits BinOp.or IntKind.i64 (IntKind.i64.wrap (IntKind.i64.wrap (v0.getD (Int.toNat 0) 0) * 2 ^ min (Int.toNat 8) 64)) (IntKind.i64.wrap (v0.getD (Int.toNat 1) 0))), ()))))) none) none) := by kernel_rfl
noncomputable def G50 (k : Nat) (v : (List Int × Bool × Unit) × Unit) : Option (Bool × Unit) := F50 k v
theorem G50_eq (k : Nat) (v0 : List Int) (v1 : Bool) : G50 k ((v0, v1, ()), ()) = sel v1 (some (decide (Int.ofNat v0.length = 0), ())) (ocall (G51 k (v0, ())) fun r => some (decide (r.1 = 0), ())) := by kernel_rfl
noncomputable def G52 (k : Nat) (v : List Int) : Option (List Int × Unit) := F52 k v
theorem G52_eq (k : Nat) (v0 : List Int) : G52 k v0 = sel (decide ((0 + v0.length) * 1 ≤ 140737488355328)) (some (v0, ())) none := by kernel_rfl
noncomputable def G25_g0 (k : Nat) (j : Nat) (v : List Int × List (List Int) × List Int × Bool × Unit) : Option (List (List Int) × Int × List Int × Bool × Unit) := F25_g0 k j v
theorem G25_g0_eq (k : Nat) (j : Nat) (v0 : List Int) (v1 : List (List Int)) (v2 : List Int) (v3 : Bool) : G25_g0 k (j + 1) (v0, v1, v2, v3, ()) = ocall (G51 k (v0, ())) fun r => sel (decide (0 < r.1)) (sel (decide (2 ≤ r.1)) (sel (decide (r.1 ≤ r.1)) (sel (decide (r.1 ≤ Int.ofNat
 v0.length)) (sel (decide ((v1.length + 1) * 24 ≤ 140737488355328)) (sel (decide (0 ≤ r.1)) (sel (decide (r.1 ≤ Int.ofNat v0.length)) (sel (decide (Int.ofNat v0.length ≤ Int.ofNat v0.length)) (sel (decide (Int.ofNat v0.length ≤ Int.ofNat v0.length)) (G25_g0 k j (List.drop r.1.toNat (List.take
 (Int.ofNat v0.length).toNat v0), v1 ++ [List.drop (Int.toNat 2) (List.take r.1.toNat v0)], v2, v3, ())) none) none) none) none) none) none) none) none) (sel (decide (r.1 < 0)) (some (v1, 12, [], true, ())) (ocall (G52 k v0) fun r => some (v1, 0, r.1, false, ()))) := by
 kernel_rfl
noncomputable def G25 (k : Nat) (v : (List Int × Bool × Unit) × List Int × Unit) : Option ((List Int × Bool × Unit) × List (List Int) × Int × Unit) := F25 k v
theorem G25_eq (k : Nat) (v0 : List Int) (v1 : Bool) (v2 : List Int) : G25 k ((v0, v1, ()), v2, ()) = ocall (G50 k ((v0, v1, ()), ())) fun r => sel (!r.1) (some ((v0, v1, ()), [], 1, ())) (sel v1 (some ((v0, v1, ()), [], 12, ())) (ocall
 (G40 k ([v0, v2], ())) fun r => ocall (G51 k (r.1, ())) fun r_1 => sel (decide (0 < r_1.1)) (sel (decide (2 ≤ r_1.1)) (sel (decide (r_1.1 ≤ r_1.1)) (sel (decide (r_1.1 ≤ Int.ofNat r.1.length)) (sel (decide (0 ≤ r_1.1)) (sel (decide (r_1.1 ≤ Int.ofNat r.1.length)) (sel (decide
 (Int.ofNat r.1.length ≤ Int.ofNat r.1.length)) (sel (decide (Int.ofNat r.1.length ≤ Int.ofNat r.1.length)) (ocall (G25_g0 k k (List.drop r_1.1.toNat (List.take (Int.ofNat r.1.length).toNat r.1), [List.drop (Int.toNat 2) (List.take r_1.1.toNat r.1)], [], false, ())) fun e => some ((e.2.2.1,
 e.2.2.2.1, ()), e.1, e.2.1, ())) none) none) none) none) none) none) none) (sel (decide (r_1.1 < 0)) (some (([], true, ()), [], 12, ())) (ocall (G52 k r.1) fun r => some ((r.1, false, ()), [], 0, ()))))) := by kernel_rfl
noncomputable def G102_3 (k : Nat) (j : Nat) (v : Int × List Int × Int × Int × Unit) : Option (Int × Unit) := F102_3 k j v
theorem G102_3_eq (k : Nat) (j : Nat) (v0 : Int) (v1 : List Int) (v2 v3 : Int) : G102_3 k (j + 1) (v0, v1, v2, v3, ()) = sel (decide (v3 < v2)) (sel (decide (0 ≤ v3)) (sel (decide (v3 < Int.ofNat v1.length)) (G102_3 k j (bits BinOp.or IntKind.u64 (IntKind.u64.wrap (v0 * 2 ^ min (Int.toNat 8)
 64)) (IntKind.u64.wrap (v1.getD v3.toNat 0)), v1, v2, IntKind.i64.wrap (v3 + 1), ())) none) none) (some (v0, ())) := by kernel_rfl
noncomputable def G102 (k : Nat) (v : List Int × Unit) : Option (Int × Unit) := F102 k v
theorem G102_eq (k : Nat) (v0 : List Int) : G102 k (v0, ()) = sel (decide (8 ≤ Int.ofNat v0.length)) (sel (decide (Int.ofNat v0.length ≤ Int.ofNat v0.length)) (ocall (G102_3 k k (0, List.drop (Int.ofNat 0).toNat (List.take (Int.toNat 8) v0), Int.ofNat (List.drop (Int.ofNat 0).toNat
 (List.take (Int.toNat 8) v0)).length, 0, ())) fun e => some (e.1, ())) none) none := by kernel_rfl
noncomputable def G89 (k : Nat) (v : List Int × Unit) : Option ((Int × Int × Unit) × Int × Int × Unit) := F89 k v
theorem G89_eq (k : Nat) (v0 : List Int) : G89 k (v0, ()) = sel (decide (Int.ofNat v0.length < 8)) (some ((0, 0, ()), 0, 2, ())) (ocall (G102 k (v0, ())) fun r => ocall (G101 k ((r.1, 0, ()), 1, ())) fun r_1 => sel r_1.1 (sel (decide (Int.ofNat
 v0.length < 16)) (some ((0, 0, ()), 0, 2, ())) (sel (decide (8 ≤ Int.ofNat v0.length)) (sel (decide (Int.ofNat v0.length ≤ Int.ofNat v0.length)) (sel (decide (Int.ofNat v0.length ≤ Int.ofNat v0.length)) (ocall (G102 k (List.drop (Int.toNat 8) (List.take (Int.ofNat v0.length).toNat
 v0), ())) fun r_2 => ocall (G78 k ((r.1, r_2.1, ()), ())) fun r_3 => sel (!r_3.1) (some ((0, 0, ()), 0, 3, ())) (some ((r.1, r_2.1, ()), 16, 0, ()))) none) none) none)) (ocall (G78 k ((r.1, 0, ()), ())) fun r_2 => sel (!r_2.1)
 (some ((0, 0, ()), 0, 3, ())) (some ((r.1, 0, ()), 8, 0, ())))) := by kernel_rfl
noncomputable def G103 (k : Nat) (v : (Int × Int × Unit) × Int × Unit) : Option (Bool × Unit) := F103 k v
theorem G103_eq (k : Nat) (v0 v1 v2 : Int) : G103 k ((v0, v1, ()), v2, ()) = ocall (G99 k (v2, ())) fun r => sel r.1 (ocall (G101 k ((v0, v1, ()), v2, ())) fun r => some (r.1, ())) (some (false, ())) := by kernel_rfl
noncomputable def G90_g0 (k : Nat) (j : Nat) (v : List Int × Int × Int × Int × Unit) : Option (List Int × Unit) := F90_g0 k j v
theorem G90_g0_eq (k : Nat) (j : Nat) (v0 : List Int) (v1 v2 v3 : Int) : G90_g0 k (j + 1) (v0, v1, v2, v3, ()) = ocall (G103 k ((v2, v3, ()), v1, ())) fun r => sel r.1 (sel (decide ((v0.length + 1) * 8 ≤ 140737488355328)) (sel (decide (IntKind.i64.wrap (v1 + 1) ≤ 128))
 (G90_g0 k j (v0 ++ [v1], IntKind.i64.wrap (v1 + 1), v2, v3, ())) (some (v0 ++ [v1], ()))) none) (sel (decide (IntKind.i64.wrap (v1 + 1) ≤ 128)) (G90_g0 k j (v0, IntKind.i64.wrap (v1 + 1), v2, v3, ())) (some (v0, ()))) := by kernel_rfl
noncomputable def G90 (k : Nat) (v : (Int × Int × Unit) × Unit) : Option (List Int × Unit) := F90 k v
theorem G90_eq (k : Nat) (v0 v1 : Int) : G90 k ((v0, v1, ()), ()) = ocall (G103 k ((v0, v1, ()), 2, ())) fun r => sel r.1 (ocall (G90_g0 k k ([2], IntKind.i64.wrap (2 + 1), v0, v1, ())) fun e => some (e.1, ())) (ocall (G90_g0 k k ([], IntKind.i64.wrap
 (2 + 1), v0, v1, ())) fun e => some (e.1, ())) := by kernel_rfl
noncomputable def G53 (k : Nat) (v : List Int × Unit) : Option (List UInt8 × List Int × List Int × Int × Unit) := F53 k v
theorem G53_eq (k : Nat) (v0 : List Int) : G53 k (v0, ()) = sel (decide (Int.ofNat v0.length < 4)) (some ([], [], [], 2, ())) (sel (decide (4 ≤ Int.ofNat v0.length)) (sel (decide (Int.ofNat v0.length ≤ Int.ofNat v0.length)) (ocall (G74 k (ofBytes (List.drop (Int.ofNat 0).toNat
 (List.take (Int.toNat 4) v0)), ())) fun r => sel (!r.1) (some ([], [], [], 3, ())) (sel (decide (4 ≤ Int.ofNat v0.length)) (sel (decide (Int.ofNat v0.length ≤ Int.ofNat v0.length)) (sel (decide (Int.ofNat v0.length ≤ Int.ofNat v0.length)) (ocall (G89 k (List.drop (Int.toNat 4)
 (List.take (Int.ofNat v0.length).toNat v0), ())) fun r => sel (decide (4 ≤ Int.ofNat v0.length)) (sel (decide (Int.ofNat v0.length ≤ Int.ofNat v0.length)) (ocall (G90 k ((r.1.1, r.1.2.1, ()), ())) fun r_1 => sel (decide (0 ≤ IntKind.i64.wrap (4 + r.2.1))) (sel (decide
 (IntKind.i64.wrap (4 + r.2.1) ≤ Int.ofNat v0.length)) (sel (decide (Int.ofNat v0.length ≤ Int.ofNat v0.length)) (sel (decide (Int.ofNat v0.length ≤ Int.ofNat v0.length)) (some (ofBytes (List.drop (Int.ofNat 0).toNat (List.take (Int.toNat 4) v0)), r_1.1, List.drop (IntKind.i64.wrap (4 + r.2.1)).toNat
 (List.take (Int.ofNat v0.length).toNat v0), r.2.2.1, ())) none) none) none) none) none) none) none) none) none)) none) none) := by kernel_rfl
noncomputable def G93_9 (k : Nat) (j : Nat) (v : Int × List Int × Int × Int × Unit) : Option (Int × Unit) := F93_9 k j v
theorem G93_9_eq (k : Nat) (j : Nat) (v0 : Int) (v1 : List Int) (v2 v3 : Int) : G93_9 k (j + 1) (v0, v1, v2, v3, ()) = sel (decide (v3 < v2)) (sel (decide (0 ≤ v3)) (sel (decide (v3 < Int.ofNat v1.length)) (sel (decide (v3.toNat < v1.length)) (G93_9 k j (IntKind.u64.wrap (IntKind.u64.wrap
 (10 * v0) + IntKind.u64.wrap (IntKind.u8.wrap (v1.getD v3.toNat 0 - 48))), v1, v2, IntKind.i64.wrap (v3 + 1), ())) none) none) none) (some (v0, ())) := by kernel_rfl
noncomputable def G93 (k : Nat) (v : List UInt8 × Unit) : Option (Int × Int × Unit) := F93 k v
theorem G93_eq (k : Nat) (v0 : List UInt8) : G93 k (v0, ()) = sel (decide (v0 = [])) (some (0, 2, ())) (sel (decide (19 < Int.ofNat v0.length)) (some (0, 4, ())) (ocall (G96 k (v0, ())) fun r => sel (!r.1) (some (0, 3, ())) (ocall (G93_9 k k (0, toBytes v0,
 Int.ofNat (toBytes v0).length, 0, ())) fun e => some (e.1, 0, ())))) := by kernel_rfl
noncomputable def G91 (k : Nat) (v : (Int × Int × Int × Unit) × List Int × Unit) : Option (Int × Int × Unit) := F91 k v
theorem G91_eq (k : Nat) (v0 v1 v2 : Int) (v3 : List Int) : G91 k ((v0, v1, v2, ()), v3, ()) = ocall (G76 k ((v0, v1, v2, ()), ())) fun r => esel r (fun v => ocall (G121 k ((v.1.1, v.1.2.1, ()), ())) fun r => sel (decide (r.1 = 0)) (some (v2, 0,
 ())) (sel (decide (Int.ofNat v3.length < r.1)) (some (0, 2, ())) (sel (decide (Int.ofNat 0 ≤ r.1)) (sel (decide (r.1 ≤ Int.ofNat v3.length)) (sel (decide (Int.ofNat v3.length ≤ Int.ofNat v3.length)) (ocall (G93 k (ofBytes (List.drop (Int.ofNat 0).toNat (List.take r.1.toNat v3)),
 ())) fun r => sel (!decide (r.2.1 = 0)) (sel (!decide (r.2.1 = 0)) (some (0, 3, ())) (sel (decide (IntKind.u64.wrap v2 < r.1)) (some (0, 4, ())) (some (IntKind.i64.wrap r.1, 0, ())))) (sel (decide (r.1 = 0)) (some (0, 3, ())) (sel (decide (IntKind.u64.wrap v2
 < r.1)) (some (0, 4, ())) (some (IntKind.i64.wrap r.1, 0, ()))))) none) none) none))) fun e => ocall (G123 k ((e.1.1, ()), ())) fun r => sel (decide (r.1 = 0)) (some (v2, 0, ())) (sel (decide (Int.ofNat v3.length < r.1)) (some (0, 2, ())) (sel (decide
 (Int.ofNat 0 ≤ r.1)) (sel (decide (r.1 ≤ Int.ofNat v3.length)) (sel (decide (Int.ofNat v3.length ≤ Int.ofNat v3.length)) (ocall (G93 k (ofBytes (List.drop (Int.ofNat 0).toNat (List.take r.1.toNat v3)), ())) fun r => sel (!decide (r.2.1 = 0)) (sel (!decide (r.2.1 = 0)) (some (0, 3,
 ())) (sel (decide (IntKind.u64.wrap v2 < r.1)) (some (0, 4, ())) (some (IntKind.i64.wrap r.1, 0, ())))) (sel (decide (r.1 = 0)) (some (0, 3, ())) (sel (decide (IntKind.u64.wrap v2 < r.1)) (some (0, 4, ())) (some (IntKind.i64.wrap r.1, 0, ()))))) none)
 none) none)) := by kernel_rfl
noncomputable def G54 (k : Nat) (v : Int × List Int × Unit) : Option (List UInt8 × Int × Int × Unit) := F54 k v
theorem G54_eq (k : Nat) (v0 : Int) (v1 : List Int) : G54 k (v0, v1, ()) = ocall (G75 k (v0, ())) fun r => sel (!r.2.1) (some ([], 0, 5, ())) (ocall (G91 k ((r.1.1, r.1.2.1, r.1.2.2.1, ()), v1, ())) fun r_1 => sel (!decide (r_1.2.1 = 0)) (some ([], 0, r_1.2.1,
 ())) (ocall (G76 k ((r.1.1, r.1.2.1, r.1.2.2.1, ()), ())) fun r_2 => esel r_2 (fun v => ocall (G121 k ((v.1.1, v.1.2.1, ()), ())) fun r_3 => sel (decide (Int.ofNat v1.length < IntKind.i64.wrap (r_3.1 + r_1.1))) (some ([], 0, 2, ())) (sel (decide (0 ≤
 r_3.1)) (sel (decide (r_3.1 ≤ IntKind.i64.wrap (r_3.1 + r_1.1))) (sel (decide (IntKind.i64.wrap (r_3.1 + r_1.1) ≤ Int.ofNat v1.length)) (sel (decide (Int.ofNat v1.length ≤ Int.ofNat v1.length)) (ocall (G92 k ((r.1.1, r.1.2.1, r.1.2.2.1, ()), ofBytes (List.drop r_3.1.toNat (List.take
 (IntKind.i64.wrap (r_3.1 + r_1.1)).toNat v1)), ())) fun r => sel (!r.1) (some ([], 0, 3, ())) (some (ofBytes (List.drop r_3.1.toNat (List.take (IntKind.i64.wrap (r_3.1 + r_1.1)).toNat v1)), IntKind.i64.wrap (r_3.1 + r_1.1), 0, ()))) none) none) none) none)) fun e => ocall
 (G123 k ((e.1.1, ()), ())) fun r_3 => sel (decide (Int.ofNat v1.length < IntKind.i64.wrap (r_3.1 + r_1.1))) (some ([], 0, 2, ())) (sel (decide (0 ≤ r_3.1)) (sel (decide (r_3.1 ≤ IntKind.i64.wrap (r_3.1 + r_1.1))) (sel (decide (IntKind.i64.wrap (r_3.1 + r_1.1) ≤ Int.ofNat
 v1.length)) (sel (decide (Int.ofNat v1.length ≤ Int.ofNat v1.length)) (ocall (G92 k ((r.1.1, r.1.2.1, r.1.2.2.1, ()), ofBytes (List.drop r_3.1.toNat (List.take (IntKind.i64.wrap (r_3.1 + r_1.1)).toNat v1)), ())) fun r => sel (!r.1) (some ([], 0, 3, ())) (some (ofBytes
 (List.drop r_3.1.toNat (List.take (IntKind.i64.wrap (r_3.1 + r_1.1)).toNat v1)), IntKind.i64.wrap (r_3.1 + r_1.1), 0, ()))) none) none) none) none))) := by kernel_rfl
noncomputable def G26_8 (k : Nat) (j : Nat) (v : List Int × List Int × Int × Int × List UInt8 × List (Int × List UInt8 × Unit) × List UInt8 × List (Int × List UInt8 × Unit) × Unit) : Option (List Int × List UInt8 × List (Int × List UInt8 × Unit) × List UInt8 × List (Int × List UInt8 × Unit) ×
 Unit ⊕ Int × List UInt8 × List (Int × List UInt8 × Unit) × Unit) := F26_8 k j v
theorem G26_8_eq (k : Nat) (j : Nat) (v0 v1 : List Int) (v2 v3 : Int) (v4 : List UInt8) (v5 : List (Int × List UInt8 × Unit)) (v6 : List UInt8) (v7 : List (Int × List UInt8 × Unit)) : G26_8 k (j + 1) (v0, v1, v2, v3, v4, v5, v6, v7, ()) = sel (decide (v3 < v2)) (sel (decide (0 ≤ v3)) (sel
 (decide (v3 < Int.ofNat v1.length)) (sel (decide (v3.toNat < v1.length)) (ocall (G54 k (v1.getD v3.toNat 0, v0, ())) fun r => sel (!decide (r.2.2.1 = 0)) (some (Sum.inr (r.2.2.1, [], [], ()))) (sel (decide ((v7.length + 1) * 24 ≤ 140737488355328)) (sel (decide (0 ≤ r.2.1)) (sel
 (decide (r.2.1 ≤ Int.ofNat v0.length)) (sel (decide (Int.ofNat v0.length ≤ Int.ofNat v0.length)) (sel (decide (Int.ofNat v0.length ≤ Int.ofNat v0.length)) (G26_8 k j (List.drop r.2.1.toNat (List.take (Int.ofNat v0.length).toNat v0), v1, v2, IntKind.i64.wrap (v3 + 1), v4, v5, v6, v7 ++ [(v1.getD
 v3.toNat 0, r.1, ())], ())) none) none) none) none) none)) none) none) none) (some (Sum.inl (v0, v4, v5, v6, v7, ()))) := by kernel_rfl
noncomputable def G26 (k : Nat) (v : List Int × Unit) : Option ((List UInt8 × List (Int × List UInt8 × Unit) × Unit) × Int × Unit) := F26 k v
theorem G26_eq (k : Nat) (v0 : List Int) : G26 k (v0, ()) = ocall (G53 k (v0, ())) fun r => sel (!decide (r.2.2.2.1 = 0)) (some (([], [], ()), r.2.2.2.1, ())) (sel (decide (Int.ofNat r.2.1.length = 0)) (some (([], [], ()), 3, ())) (ocall (G26_8 k k
 (r.2.2.1, r.2.1, Int.ofNat r.2.1.length, 0, [], [], r.1, [], ())) fun e => esel e (fun v => sel (decide (0 < Int.ofNat v.1.length)) (some (([], [], ()), 4, ())) (some ((v.2.2.2.1, v.2.2.2.2.1, ()), 0, ()))) fun e => some ((e.2.1, e.2.2.1, ()), e.1,
 ()))) := by kernel_rfl
noncomputable def G55_2 (k : Nat) (j : Nat) (v : List UInt8 × Int × Unit) : Option (Unit ⊕ Int × Unit) := F55_2 k j v
theorem G55_2_eq (k : Nat) (j : Nat) (v0 : List UInt8) (v1 : Int) : G55_2 k (j + 1) (v0, v1, ()) = sel (decide (v1 ≤ 7)) (ocall (G34 k (v1, ())) fun r => sel (decide (r.1 = v0)) (some (Sum.inr (v1, ()))) (G55_2 k j (v0, IntKind.i64.wrap (v1 + 1), ()))) (some (Sum.inl
 ())) := by kernel_rfl
noncomputable def G55 (k : Nat) (v : List UInt8 × Unit) : Option (Int × Unit) := F55 k v
theorem G55_eq (k : Nat) (v0 : List UInt8) : G55 k (v0, ()) = ocall (G55_2 k k (v0, 1, ())) fun e => esel e (fun v => some (0, ())) fun e => some (e.1, ()) := by kernel_rfl
noncomputable def G95 (k : Nat) (v : (Int × List UInt8 × Unit) × (Int × Unit) × Unit) : Option (Bool × Unit) := F95 k v
theorem G95_eq (k : Nat) (v0 : Int) (v1 : List UInt8) (v2 : Int) : G95 k ((v0, v1, ()), (v2, ()), ()) = some (decide (v0 = v2), ()) := by kernel_rfl
noncomputable def G7000000_2 (k : Nat) (j : Nat) (v : List (Int × List UInt8 × Unit) × ((Int × Unit) × Unit) × Int × Int × Unit) : Option (Unit ⊕ Int × Unit) := F7000000_2 k j v
theorem G7000000_2_eq (k : Nat) (j : Nat) (v0 : List (Int × List UInt8 × Unit)) (v1 v2 v3 : Int) : G7000000_2 k (j + 1) (v0, ((v1, ()), ()), v2, v3, ()) = sel (decide (v3 < v2)) (sel (decide (0 ≤ v3)) (sel (decide (v3 < Int.ofNat v0.length)) (ocall (G95 k (((v0.getD v3.toNat
 (0, [], ())).1, (v0.getD v3.toNat (0, [], ())).2.1, ()), (v1, ()), ())) fun r => sel r.1 (some (Sum.inr (v3, ()))) (G7000000_2 k j (v0, ((v1, ()), ()), v2, IntKind.i64.wrap (v3 + 1), ()))) none) none) (some (Sum.inl ()))
 := by kernel_rfl
noncomputable def G7000000 (k : Nat) (v : List (Int × List UInt8 × Unit) × ((Int × Unit) × Unit) × Unit) : Option (Int × Unit) := F7000000 k v
theorem G7000000_eq (k : Nat) (v0 : List (Int × List UInt8 × Unit)) (v1 : Int) : G7000000 k (v0, ((v1, ()), ()), ()) = ocall (G7000000_2 k k (v0, ((v1, ()), ()), Int.ofNat v0.length, 0, ())) fun e => esel e (fun v => some ((-1 : Int), ())) fun
 e => some (e.1, ()) := by kernel_rfl
end Go.Proofs.YtjgnpmdbkgeakaaGreatDoor.G
end
section
set_option maxRecDepth 1000000
set_option linter.unusedVariables false
set_option linter.unusedSimpArgs false
namespace Go.Proofs.YtjgnpmdbkgeakaaGreatDoor.G
open Go Go.Proofs.YtjgnpmdbkgeakaaGreatDoor Th
noncomputable def G57 (k : Nat) (v : (List UInt8 × List (Int × List UInt8 × Unit) × Unit) × Int × Unit) : Option (List UInt8 × Bool × Unit) := F57 k v
theorem G57_eq (k : Nat) (v0 : List UInt8) (v1 : List (Int × List UInt8 × Unit)) (v2 : Int) : G57 k ((v0, v1, ()), v2, ()) = ocall (G7000000 k (v1, ((v2, ()), ()), ())) fun r => sel (decide (r.1 < 0)) (some ([], false, ())) (sel (decide (0 ≤ r.1))
 (sel (decide (r.1 < Int.ofNat v1.length)) (some ((v1.getD r.1.toNat (0, [], ())).2.1, true, ())) none) none) := by kernel_rfl
noncomputable def G56 (k : Nat) (v : (List UInt8 × List (Int × List UInt8 × Unit) × Unit) × Int × Unit) : Option (Int × Unit) := F56 k v
theorem G56_eq (k : Nat) (v0 : List UInt8) (v1 : List (Int × List UInt8 × Unit)) (v2 : Int) : G56 k ((v0, v1, ()), v2, ()) = ocall (G57 k ((v0, v1, ()), v2, ())) fun r => ocall (G93 k (r.1, ())) fun r => some (r.1, ()) := by kernel_rfl
noncomputable def G58_5 (k : Nat) (j : Nat) (v : List (Int × List UInt8 × Unit) × Int × Int × List UInt8 × List (Int × List UInt8 × Unit) × Unit) : Option (Unit ⊕ Bool × Unit) := F58_5 k j v
theorem G58_5_eq (k : Nat) (j : Nat) (v0 : List (Int × List UInt8 × Unit)) (v1 v2 : Int) (v3 : List UInt8) (v4 : List (Int × List UInt8 × Unit)) : G58_5 k (j + 1) (v0, v1, v2, v3, v4, ()) = sel (decide (v2 < v1)) (sel (decide (0 ≤ v2)) (sel (decide (v2 < Int.ofNat v0.length)) (sel (decide
 (v2.toNat < v0.length)) (sel (decide (0 ≤ v2)) (sel (decide (v2 < Int.ofNat v4.length)) (sel (!decide ((v4.getD v2.toNat (0, [], ())).1 = (v0.getD v2.toNat (0, [], ())).1)) (some (Sum.inr (false, ()))) (G58_5 k j (v0, v1, IntKind.i64.wrap (v2 + 1), v3, v4, ()))) none)
 none) none) none) none) (some (Sum.inl ())) := by kernel_rfl
noncomputable def G58 (k : Nat) (v : (List UInt8 × List (Int × List UInt8 × Unit) × Unit) × (Int × List UInt8 × Int × Int × List UInt8 × List UInt8 × Unit) × Unit) : Option (Bool × Unit) := F58 k v
theorem G58_eq (k : Nat) (v0 : List UInt8) (v1 : List (Int × List UInt8 × Unit)) (v2 : Int) (v3 : List UInt8) (v4 v5 : Int) (v6 v7 : List UInt8) : G58 k ((v0, v1, ()), (v2, v3, v4, v5, v6, v7, ()), ()) = ocall (G35 k ((v2, v3, v4, v5, v6, v7, ()), ())) fun r
 => sel (!decide (Int.ofNat r.1.length = Int.ofNat v1.length)) (some (false, ())) (ocall (G58_5 k k (r.1, Int.ofNat r.1.length, 0, v0, v1, ())) fun e => esel e (fun v => some (true, ())) fun e => some (e.1, ())) := by kernel_rfl
noncomputable def G27 (k : Nat) (v : (List UInt8 × List (Int × List UInt8 × Unit) × Unit) × Unit) : Option ((Int × List UInt8 × Int × Int × List UInt8 × List UInt8 × Unit) × Int × Unit) := F27 k v
theorem G27_eq (k : Nat) (v0 : List UInt8) (v1 : List (Int × List UInt8 × Unit)) : G27 k ((v0, v1, ()), ()) = ocall (G36 k ((v0, v1, ()), ())) fun r => sel (!r.1) (some ((0, [], 0, 0, [], [], ()), 1, ())) (ocall (G55 k (v0, ())) fun r => ocall
 (G56 k ((v0, v1, ()), 11, ())) fun r_1 => ocall (G56 k ((v0, v1, ()), 4, ())) fun r_2 => ocall (G57 k ((v0, v1, ()), 2, ())) fun r_3 => ocall (G57 k ((v0, v1, ()), 37, ())) fun r_4 => ocall (G57 k ((v0, v1, ()), 39, ()))
 fun r_5 => ocall (G57 k ((v0, v1, ()), 90, ())) fun r_6 => ocall (G58 k ((v0, v1, ()), (r.1, r_3.1, r_2.1, IntKind.u32.wrap r_1.1, r_4.1, r_5.1, ()), ())) fun r_7 => sel (!r_7.1) (sel (!r_7.1) (some ((0, [], 0, 0, [], [], ()), 3, ())) (sel
 (decide (5 ≤ r.1)) (ocall (G59 k (r.1, ())) fun r_8 => sel r_8.1 (ocall (G35 k ((r.1, r_3.1, r_2.1, IntKind.u32.wrap r_1.1, r_4.1, r_5.1, ()), ())) fun r_9 => sel (decide (4 < Int.ofNat r_9.1.length)) (sel (decide (Int.toNat 4 < r_9.1.length)) (sel (!decide (r_6.1 =
 (r_9.1.getD (Int.toNat 4) (0, [], ())).2.1)) (some ((0, [], 0, 0, [], [], ()), 11, ())) (ocall (G61 k (37, r_4.1, ())) fun r_10 => sel (!r_10.1) (some ((0, [], 0, 0, [], [], ()), 3, ())) (some ((r.1, r_3.1, r_2.1, IntKind.u32.wrap r_1.1, r_4.1, r_5.1,
 ()), 0, ())))) none) none) (ocall (G61 k (37, r_4.1, ())) fun r_9 => sel (!r_9.1) (some ((0, [], 0, 0, [], [], ()), 3, ())) (some ((r.1, r_3.1, r_2.1, IntKind.u32.wrap r_1.1, r_4.1, r_5.1, ()), 0, ())))) (ocall (G61 k (37, r_4.1, ()))
 fun r_8 => sel (!r_8.1) (some ((0, [], 0, 0, [], [], ()), 3, ())) (some ((r.1, r_3.1, r_2.1, IntKind.u32.wrap r_1.1, r_4.1, r_5.1, ()), 0, ()))))) (ocall (G59 k (r.1, ())) fun r_8 => sel r_8.1 (ocall (G60 k (r_3.1, ())) fun r_9 => sel (!r_9.1) (some
 ((0, [], 0, 0, [], [], ()), 3, ())) (sel (decide (5 ≤ r.1)) (ocall (G59 k (r.1, ())) fun r_10 => sel r_10.1 (ocall (G35 k ((r.1, r_3.1, r_2.1, IntKind.u32.wrap r_1.1, r_4.1, r_5.1, ()), ())) fun r_11 => sel (decide (4 < Int.ofNat r_11.1.length)) (sel (decide
 (Int.toNat 4 < r_11.1.length)) (sel (!decide (r_6.1 = (r_11.1.getD (Int.toNat 4) (0, [], ())).2.1)) (some ((0, [], 0, 0, [], [], ()), 11, ())) (ocall (G61 k (37, r_4.1, ())) fun r_12 => sel (!r_12.1) (some ((0, [], 0, 0, [], [], ()), 3, ())) (some
 ((r.1, r_3.1, r_2.1, IntKind.u32.wrap r_1.1, r_4.1, r_5.1, ()), 0, ())))) none) none) (ocall (G61 k (37, r_4.1, ())) fun r_11 => sel (!r_11.1) (some ((0, [], 0, 0, [], [], ()), 3, ())) (some ((r.1, r_3.1, r_2.1, IntKind.u32.wrap r_1.1, r_4.1, r_5.1,
 ()), 0, ())))) (ocall (G61 k (37, r_4.1, ())) fun r_10 => sel (!r_10.1) (some ((0, [], 0, 0, [], [], ()), 3, ())) (some ((r.1, r_3.1, r_2.1, IntKind.u32.wrap r_1.1, r_4.1, r_5.1, ()), 0, ()))))) (sel (decide (5 ≤ r.1)) (ocall (G59 k (r.1,
 ())) fun r_9 => sel r_9.1 (ocall (G35 k ((r.1, r_3.1, r_2.1, IntKind.u32.wrap r_1.1, r_4.1, r_5.1, ()), ())) fun r_10 => sel (decide (4 < Int.ofNat r_10.1.length)) (sel (decide (Int.toNat 4 < r_10.1.length)) (sel (!decide (r_6.1 = (r_10.1.getD (Int.toNat 4) (0, [],
 ())).2.1)) (some ((0, [], 0, 0, [], [], ()), 11, ())) (ocall (G61 k (37, r_4.1, ())) fun r_11 => sel (!r_11.1) (some ((0, [], 0, 0, [], [], ()), 3, ())) (some ((r.1, r_3.1, r_2.1, IntKind.u32.wrap r_1.1, r_4.1, r_5.1, ()), 0, ()))))
 none) none) (ocall (G61 k (37, r_4.1, ())) fun r_10 => sel (!r_10.1) (some ((0, [], 0, 0, [], [], ()), 3, ())) (some ((r.1, r_3.1, r_2.1, IntKind.u32.wrap r_1.1, r_4.1, r_5.1, ()), 0, ())))) (ocall (G61 k (37, r_4.1, ())) fun r_9 => sel (!r_9.1) (some
 ((0, [], 0, 0, [], [], ()), 3, ())) (some ((r.1, r_3.1, r_2.1, IntKind.u32.wrap r_1.1, r_4.1, r_5.1, ()), 0, ())))))) := by kernel_rfl
noncomputable def G11 (k : Nat) (v : List Int × Unit) : Option ((Int × List UInt8 × Int × Int × List UInt8 × List UInt8 × Unit) × Int × Unit) := F11 k v
theorem G11_eq (k : Nat) (v0 : List Int) : G11 k (v0, ()) = ocall (G25 k (([], false, ()), v0, ())) fun r => sel (!decide (r.2.2.1 = 0)) (some ((0, [], 0, 0, [], [], ()), 3, ())) (sel (!decide (Int.ofNat r.2.1.length = 1)) (some ((0, [], 0, 0, [], [],
 ()), 3, ())) (sel (decide (0 < Int.ofNat r.1.1.length)) (some ((0, [], 0, 0, [], [], ()), 3, ())) (sel (decide (0 < Int.ofNat r.2.1.length)) (sel (decide (Int.toNat 0 < r.2.1.length)) (ocall (G26 k (r.2.1.getD (Int.toNat 0) [], ())) fun r => sel (!decide
 (r.2.1 = 0)) (some ((0, [], 0, 0, [], [], ()), r.2.1, ())) (ocall (G27 k ((r.1.1, r.1.2.1, ()), ())) fun r => some ((r.1.1, r.1.2.1, r.1.2.2.1, r.1.2.2.2.1, r.1.2.2.2.2.1, r.1.2.2.2.2.2.1, ()), r.2.1, ()))) none) none))) := by kernel_rfl
noncomputable def G69 (k : Nat) (v : (Int × List (List Int) × Unit) × Unit) : Option (Bool × Unit) := F69 k v
theorem G69_eq (k : Nat) (v0 : Int) (v1 : List (List Int)) : G69 k ((v0, v1, ()), ()) = sel (decide (1 ≤ v0)) (sel (decide (v0 ≤ 64)) (some (decide (Int.ofNat v1.length ≤ v0), ())) (some (false, ()))) (some (false, ())) := by kernel_rfl
noncomputable def G70 (k : Nat) (v : (Int × List (List Int) × Unit) × Unit) : Option (Int × Unit) := F70 k v
theorem G70_eq (k : Nat) (v0 : Int) (v1 : List (List Int)) : G70 k ((v0, v1, ()), ()) = ocall (G69 k ((v0, v1, ()), ())) fun r => sel (!r.1) (some (0, ())) (some (IntKind.i64.wrap (v0 - Int.ofNat v1.length), ())) := by kernel_rfl
noncomputable def G71 (k : Nat) (v : List (List Int)) : Option (List (List Int) × Unit) := F71 k v
theorem G71_eq (k : Nat) (v0 : List (List Int)) : G71 k v0 = sel (decide ((0 + v0.length) * 24 ≤ 140737488355328)) (some (v0, ())) none := by kernel_rfl
noncomputable def G30_7 (k : Nat) (j : Nat) (v : List (List Int) × Int × Int × Int × List (List Int) × Int × List (List Int) × Unit) : Option (Int × List (List Int) × Int × List (List Int) × Unit) := F30_7 k j v
theorem G30_7_eq (k : Nat) (j : Nat) (v0 : List (List Int)) (v1 v2 v3 : Int) (v4 : List (List Int)) (v5 : Int) (v6 : List (List Int)) : G30_7 k (j + 1) (v0, v1, v2, v3, v4, v5, v6, ()) = sel (decide (v2 < v1)) (sel (decide (0 ≤ v2)) (sel (decide (v2 < Int.ofNat v0.length)) (ocall (G52 k
 (v0.getD v2.toNat [])) fun r => sel (decide ((v4.length + 1) * 24 ≤ 140737488355328)) (G30_7 k j (v0, v1, IntKind.i64.wrap (v2 + 1), v3, v4 ++ [r.1], v5, v6, ())) none) none) none) (some (v3, v4, v5, v6, ())) := by kernel_rfl
noncomputable def G30 (k : Nat) (v : (Int × List (List Int) × Unit) × List (List Int) × Unit) : Option ((Int × List (List Int) × Unit) × Int × Unit) := F30 k v
theorem G30_eq (k : Nat) (v0 : Int) (v1 v2 : List (List Int)) : G30 k ((v0, v1, ()), v2, ()) = ocall (G69 k ((v0, v1, ()), ())) fun r => sel (!r.1) (some ((v0, v1, ()), 1, ())) (ocall (G70 k ((v0, v1, ()), ())) fun r => sel (decide (r.1
 < Int.ofNat v2.length)) (some ((v0, v1, ()), 7, ())) (ocall (G71 k v1) fun r => ocall (G30_7 k k (v2, Int.ofNat v2.length, 0, v0, r.1, 0, [], ())) fun e => some ((e.1, e.2.1, ()), 0, ()))) := by kernel_rfl
noncomputable def G13_g0 (k : Nat) (j : Nat) (v : List (Int × List UInt8 × Int × Int × List UInt8 × List UInt8 × Unit) × List (List Int) × Int × Int × List (List Int) × Int × List (List Int) × Unit) : Option (Int × Int × List (List Int) × Unit) := F13_g0 k j v
theorem G13_g0_eq (k : Nat) (j : Nat) (v0 : List (Int × List UInt8 × Int × Int × List UInt8 × List UInt8 × Unit)) (v1 : List (List Int)) (v2 v3 : Int) (v4 : List (List Int)) (v5 : Int) (v6 : List (List Int)) : G13_g0 k (j + 1) (v0, v1, v2, v3, v4, v5, v6, ()) = sel (decide (v2 < Int.ofNat
 v0.length)) (sel (decide (0 ≤ v2)) (sel (decide (v2 < Int.ofNat v0.length)) (ocall (G8 k (((v0.getD v2.toNat (0, [], 0, 0, [], [], ())).1, (v0.getD v2.toNat (0, [], 0, 0, [], [], ())).2.1, (v0.getD v2.toNat (0, [], 0, 0, [], [], ())).2.2.1, (v0.getD v2.toNat (0, [], 0, 0, [],
 [], ())).2.2.2.1, (v0.getD v2.toNat (0, [], 0, 0, [], [], ())).2.2.2.2.1, (v0.getD v2.toNat (0, [], 0, 0, [], [], ())).2.2.2.2.2.1, ()), ())) fun r => sel (!decide (r.2.1 = 0)) (some (r.2.1, v3, v4, ())) (sel (decide ((v1.length + 1) * 24 ≤
 140737488355328)) (G13_g0 k j (v0, v1 ++ [r.1], IntKind.i64.wrap (v2 + 1), v3, v4, v5, v6, ())) none)) none) none) (ocall (G30 k ((v3, v4, ()), v1, ())) fun r => some (r.2.1, r.1.1, r.1.2.1, ())) := by kernel_rfl
noncomputable def G13 (k : Nat) (v : (Int × List (List Int) × Unit) × List (Int × List UInt8 × Int × Int × List UInt8 × List UInt8 × Unit) × Unit) : Option ((Int × List (List Int) × Unit) × Int × Unit) := F13 k v
theorem G13_eq (k : Nat) (v0 : Int) (v1 : List (List Int)) (v2 : List (Int × List UInt8 × Int × Int × List UInt8 × List UInt8 × Unit)) : G13 k ((v0, v1, ()), v2, ()) = sel (decide (0 < Int.ofNat v2.length)) (sel (decide (0 < Int.ofNat v2.length)) (ocall (G8 k (((v2.getD (Int.toNat
 0) (0, [], 0, 0, [], [], ())).1, (v2.getD (Int.toNat 0) (0, [], 0, 0, [], [], ())).2.1, (v2.getD (Int.toNat 0) (0, [], 0, 0, [], [], ())).2.2.1, (v2.getD (Int.toNat 0) (0, [], 0, 0, [], [], ())).2.2.2.1, (v2.getD (Int.toNat 0) (0, [], 0, 0, [], [],
 ())).2.2.2.2.1, (v2.getD (Int.toNat 0) (0, [], 0, 0, [], [], ())).2.2.2.2.2.1, ()), ())) fun r => sel (!decide (r.2.1 = 0)) (some ((v0, v1, ()), r.2.1, ())) (ocall (G13_g0 k k (v2, [r.1], IntKind.i64.wrap (0 + 1), v0, v1, 0, [], ())) fun e =>
 some ((e.2.1, e.2.2.1, ()), e.1, ()))) none) (ocall (G30 k ((v0, v1, ()), [], ())) fun r => some ((r.1.1, r.1.2.1, ()), r.2.1, ())) := by kernel_rfl
noncomputable def G4 (k : Nat) (v : Unit) : Option (Bool × Unit) := F4 k v
end Go.Proofs.YtjgnpmdbkgeakaaGreatDoor.G
end
