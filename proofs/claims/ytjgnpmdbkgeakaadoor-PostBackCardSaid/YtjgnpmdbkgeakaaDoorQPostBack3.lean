/- THE CLAIM'S TEXTS, part 3: what its proof needs of the theory, the functions, their equations and the laws. No condition. -/
import Derived.Test.YtjgnpmdbkgeakaaDoorQPostBack2
import Derived.RangeFuncFrom
import Derived.RangeFuncBox
import Derived.RangeFuncLeaves
import Derived.Shelf.Abstract
import Derived.Shelf.RegionOpenPlain
import Derived.Lib.Walk
import Derived.Lib.SliceRun
import Derived.Lib.AppendZerosOnto
import Derived.Laws.MakeOwn
import Derived.Laws.CopyOwn
import Derived.KernelRfl
section
set_option linter.unusedVariables false
set_option linter.unusedSimpArgs false
namespace Go.Proofs.YtjgnpmdbkgeakaaDoor.Signs
open Go Go.RowKit Go.Proofs Go.Proofs.YtjgnpmdbkgeakaaDoor Th Go.Lib
attribute [local go_sem] Oper.semAt_some
theorem fn177 (f kind size : Int) (b : List UInt8) (hlen : b.length ≤ 9223372036854775807) (d : Bool) (hIs : CallOK Tryd.prog 169 [.str b] (.bool d)) :
    CallOK Tryd.prog 177 [.agg [.int .i64 f, .int .i64 kind, .int .i64 size], .str b] (.bool (signsOf kind d b)) := by
  refine .inl ⟨rfl, ⟨_, Tryd.func177, by kernel_rfl, by kernel_rfl⟩, fun w pr us hpr hgl ha => ?_⟩
  obtain ⟨u1, us1, rfl, h1, h2⟩ : ∃ u1 us1, us = u1 :: us1 ∧ PV w pr (.agg [.int .i64 f, .int .i64 kind, .int .i64 size]) u1 ∧ All2 (PV w pr) [.str b] us1 := by
    cases us with
    | nil => exact ha.elim
    | cons u us => exact ⟨u, us, rfl, ha.1, ha.2⟩
  obtain ⟨u2, us2, rfl, h3, h4⟩ : ∃ u1 us', us1 = u1 :: us' ∧ PV w pr (.str b) u1 ∧ All2 (PV w pr) [] us' := by
    cases us1 with
    | nil => exact h2.elim
    | cons u us => exact ⟨u, us, rfl, h2.1, h2.2⟩
  have e1 : u1 = .agg #[.int .i64 f, .int .i64 kind, .int .i64 size] := by
    rcases h1 with h | ⟨cs, vs, hc, hv, hr⟩
    · exact h.elim
    · cases hc
      match vs, hr with
      | [a, b, c], ⟨p, q, r, _⟩ => rw [hv, show a = _ from p, show b = _ from q, show c = _ from r]
  have e2 : u2 = strV b := by rcases h3 with h | ⟨_, _, h, _⟩ <;> first | exact h | cases h
  have e3 : us2 = [] := by cases us2 with | nil => rfl | cons _ _ => exact h4.elim
  subst e1 e2 e3
  have hIs' : ∀ w1 : World, Below w.heap.size w w1 → Calls Tryd.prog 169 #[strV b] w1 fun e w' => e = .returned (.bool d) ∧ Below w1.heap.size w1 w' := by
    intro w1 hb1
    rcases hIs with ⟨_, hIs⟩ | ⟨_, _, _, _, _, e, _⟩ | ⟨_, _, _, _, _, e, _⟩
    case inr.inl => cases e
    case inr.inr => cases e
    refine (hIs.2 w1 pr [strV b] (fun k o h => Nat.lt_of_lt_of_le (hpr k o h) hb1.size) (hgl.keeps fun k o p => ⟨p, cell_heap (hb1.block k (hpr k o p)) o⟩) ⟨.inl rfl, trivial⟩).mono ?_
    rintro e w' ⟨r, pr', rfl, hb, _, _, hr⟩
    obtain ⟨bb, hr⟩ := hr
    refine ⟨?_, hb⟩
    rcases hr.1 with h1 | ⟨_, _, h1, _⟩
    · rw [show r = .bool d from h1]
    · cases h1
  have := signs_in 10 (by omega) f kind size ⟨b.toArray⟩ (by simpa [ByteArray.size] using hlen) d w hIs'
  refine (callsIn_wide.1 this).mono ?_
  rintro e W' ⟨rfl, hb⟩
  exact ⟨_, pr, rfl, hb, fun _ _ _ => Iff.rfl, fun k o h => Nat.lt_of_lt_of_le (hpr k o h) hb.size, none, .inl rfl, rfl⟩
end Go.Proofs.YtjgnpmdbkgeakaaDoor.Signs
end
section
set_option linter.unusedVariables false
set_option linter.unusedSimpArgs false
namespace Go.Proofs.YtjgnpmdbkgeakaaDoor.Sum
open Go Go.RowKit Go.Shelf Go.Proofs Go.Proofs.YtjgnpmdbkgeakaaDoor Th
attribute [local go_sem] Oper.semAt_some
def Keep2 (b1 b2 : Nat) (W W' : World) : Prop := ∀ k, k = b1 ∨ k = b2 → W'.heap[k]? = W.heap[k]?
theorem Keep2.cell {b1 b2 : Nat} {W W' : World} (h : Keep2 b1 b2 W W') {a : Addr} (ha : a.block = b1 ∨ a.block = b2) : W'.cell? a = W.cell? a := World.cell?_of_block (h _ ha)
def backs (l : List Int) : List (Int × Int) := ((List.range l.length).map fun (i : Nat) => ((i : Int), l.getD i 0)).reverse
theorem backs_len (l : List Int) : (backs l).length = l.length := by simp [backs]
theorem backs_at (l : List Int) (k : Nat) (hk : k < l.length) : (backs l).take (k + 1) = (backs l).take k ++ [(((l.length - 1 - k : Nat) : Int), l.getD (l.length - 1 - k) 0)] := by
  rw [List.take_add_one]
  congr 1
  simp [backs, List.getElem?_reverse, hk]
set_option maxRecDepth 100000 in
set_option maxHeartbeats 1000000 in
theorem back1_in (F : Fence) (n : Nat) (h93 : F.fn 222) (hro : F.round = none) (hn : 1 ≤ n) (l B : Nat) (bs : List Int) (ad : Addr) (cap : Nat) (J Jx : List (Int × Int) → World → Prop)
    (hY : ∀ pre x W, J pre W → pre.length < bs.length → YieldAt F (n - 1) Tryd.prog l #[.int .i64 x.1, .int .u8 x.2] W fun e W' =>
      (e = .returned (.bool true) ∧ J (pre ++ [x]) W' ∧ Keep2 B ad.block W W') ∨ (e = .returned (.bool false) ∧ Jx (pre ++ [x]) W'))
    (W : World) (hB : W.cell? ⟨B, 0, none⟩ = some (.slice (some ad) bs.length cap)) (hc : ∀ (i : Nat) (h : i < bs.length), W.cell? (ad.add i) = some (.int .u8 bs[i])) (hlen : bs.length ≤ 9223372036854775807) (h0 : J [] W) :
    CallsIn F n Tryd.prog 222 #[.func (.yield l) #[] #[], .pointer (some ⟨B, 0, none⟩)] W fun e W' => (∃ v, e = .returned v) ∧
      ((∃ ys, ys = backs bs ∧ J ys W') ∨ (∃ pre, True ∧ Jx pre W')) := by
  refine callsIn_of_wp Tryd.func222 rfl h93 ?_ hro
  simp only [Tryd.ntmps222, List.size_toArray, List.length_cons, List.length_nil, Nat.reduceAdd, Nat.reduceSub, Array.replicate_succ, Array.replicate_zero, List.push_toArray, List.append_toArray, List.nil_append, List.cons_append]
  gi_wp2
  gi_loopw [3] (fun p wr => ∃ k, k ≤ bs.length ∧ p = .int .i64 ((bs.length : Int) - 1 - k) ∧ Keep2 B ad.block W wr ∧ J ((backs bs).take k) wr)
    (fun p wr => match p with | .int _ n => (n + 1).toNat | _ => 0)
  case atStart => exact ⟨0, by omega, by simp, fun k _ => rfl, by simpa using h0⟩
  case round =>
    obtain ⟨k, hk, rfl, hkeep, hJ⟩ := hrel
    have hBr : wr.cell? ⟨B, 0, none⟩ = some (.slice (some ad) bs.length cap) := (hkeep.cell (.inl rfl)).trans hB
    by_cases hlt : k < bs.length
    · have hi : bs.length - 1 - k < bs.length := by omega
      have ei : (bs.length : Int) - 1 - k = ((bs.length - 1 - k : Nat) : Int) := by omega
      have hcr : wr.cell? (ad.add (bs.length - 1 - k)) = some (.int .u8 bs[bs.length - 1 - k]) := by
        refine (hkeep.cell (.inr ?_)).trans (hc _ hi)
        unfold Addr.add; split <;> rfl
      rw [ei]
      have hx := backs_at bs k hlt
      rw [getD_of hi] at hx
      obtain ⟨fn, tmps, assign, body, hy, hR⟩ := hY _ (((bs.length - 1 - k : Nat) : Int), bs[bs.length - 1 - k]) wr hJ (by rw [List.length_take, backs_len]; omega)
      generalize bs.length - 1 - k = i at *
      gi_wp2
      refine hR.mono ?_
      rintro e W3 (⟨rfl, hJ3, hk3⟩ | ⟨rfl, hJx3⟩)
      · gi_wp2
        go_roundw
        case rel => exact ⟨k + 1, by omega, by congr 1; omega, fun b hb => (hk3 b hb).trans (hkeep b hb), by rw [hx]; exact hJ3⟩
        case measure => simp
      · gi_wp2
        refine bodyPost_ret (results_none rfl _ _ _) rfl ?_
        exact ⟨⟨_, rfl⟩, .inr ⟨_, trivial, hJx3⟩⟩
    · have hk' : k = bs.length := by omega
      subst hk'
      have e1 : (bs.length : Int) - 1 - (bs.length : Nat) = -1 := by omega
      rw [e1]
      gi_wp2
      go_end0
      exact ⟨⟨_, rfl⟩, .inl ⟨_, rfl, by rw [List.take_of_length_le (by rw [backs_len]; exact Nat.le_refl _)] at hJ; exact hJ⟩⟩
set_option maxHeartbeats 1000000 in
theorem back_in (F : Fence) (n : Nat) (h91 : F.fn 203) (hro : F.round = none) (ad : Addr) (m cap : Nat) (w : World) :
    CallsIn F n Tryd.prog 203 #[.slice (some ad) m cap] w fun e w' => e = .returned (.func (.func 222) #[] #[.pointer (some ⟨w.heap.size, 0, none⟩)]) ∧ w' = w.alloc (.cells #[.slice (some ad) m cap] 110) := by
  refine callsIn_of_wp Tryd.func203 rfl h91 ?_ hro
  simp only [Tryd.ntmps203, List.size_toArray, List.length_cons, List.length_nil, Nat.reduceAdd, Nat.reduceSub, Array.replicate_succ, Array.replicate_zero, List.push_toArray, List.append_toArray, List.nil_append, List.cons_append]
  gi_wp2
  go_ret
  exact ⟨rfl, rfl⟩
def step (p : Int × Bool) (c : Int) : Int × Bool :=
  (RowKit.wrap64 (p.1 + bif p.2 then (c - 48) % 256 * 2 - (c - 48) % 256 / 5 * 9 else (c - 48) % 256), !p.2)
def sumOf (l : List (Int × Int)) (tw : Bool) : Int × Bool := l.foldl (fun p x => step p x.2) (0, tw)
theorem sumOf_snoc (pre : List (Int × Int)) (x : Int × Int) (tw : Bool) : sumOf (pre ++ [x]) tw = step (sumOf pre tw) x.2 := by simp [sumOf]
theorem run_s2b (P : Program) {src dst e : TypeId} (hsrc : ∃ d, P.underlying src = some d) (hdst : P.underlying dst = some (.slice e)) (he8 : P.underlying e = some (.int .u8)) (b : List UInt8) (w : World) :
    ∃ (cap : Nat) (us : Array Value), b.length ≤ cap ∧ (∀ (i : Nat) (h : i < b.length), us[i]? = some (.int .u8 (b[i].toNat : Int))) ∧
      (convert src dst (strV b)).run P w = .ok (.slice (some ⟨w.heap.size, 0, none⟩) b.length cap) (w.drew.alloc (.cells us e (us.size, us.size + 1))) := by
  obtain ⟨d, hd1⟩ := hsrc
  refine ⟨grownCap w b.length 0 e, (⟨b.toArray⟩ : ByteArray).data.map (fun b => Value.int .u8 b.toNat) ++ Array.replicate (grownCap w b.length 0 e - b.length) (.int .u8 0), grownCap_ge w b.length 0 e, fun i h => ?_, ?_⟩
  · rw [Array.getElem?_append_left (by simpa using h)]
    simp [h]
  · have hsz : (⟨b.toArray⟩ : ByteArray).size = b.length := by simp [ByteArray.size]
    have hge : b.length ≤ grownCap w b.length 0 e := grownCap_ge w b.length 0 e
    generalize hus : (⟨b.toArray⟩ : ByteArray).data.map (fun b => Value.int .u8 b.toNat) ++ Array.replicate (grownCap w b.length 0 e - b.length) (.int .u8 0) = us
    have hsh := shape_alloc w.drew us e
    have hfz := freeze_alloc w.drew us e
    simp only [strV, Sem.run_bind, convert, run_underlying hd1, run_underlying hdst, Result.andThen_ok, run_underlying he8]
    simp only [Conv.stringToBytes, Sem.run_bind, run_choose_drew, Question.forced, Bool.false_eq_true, if_false, Result.andThen_ok, newRow, run_newObj_alloc, Sem.run_pure, markStringish, run_shape, hsz]
    have e0 : (Question.appendCap b.length 0 e).cut (w.tape w.drawn (Question.appendCap b.length 0 e)) = grownCap w b.length 0 e := rfl
    rw [e0, hus]
    simp only [hsh, run_freeze, hfz, Result.andThen_ok]
    rfl
structure At0 (w : World) (tw : Bool) (b : List UInt8) (cap : Nat) (W : World) : Prop where
  size : W.heap.size = w.heap.size + 4
  below : Below w.heap.size w W
  tw : W.cell? ⟨w.heap.size, 0, none⟩ = some (.bool tw) ∧ W.frozen? ⟨w.heap.size, 0, none⟩ = false
  n : W.cell? ⟨w.heap.size + 1, 0, none⟩ = some (.int .i64 0) ∧ W.frozen? ⟨w.heap.size + 1, 0, none⟩ = false
  bytes : ∀ (i : Nat) (h : i < (toBytes b).length), W.cell? ((⟨w.heap.size + 2, 0, none⟩ : Addr).add i) = some (.int .u8 (toBytes b)[i])
  box : W.cell? ⟨w.heap.size + 3, 0, none⟩ = some (.slice (some ⟨w.heap.size + 2, 0, none⟩) (toBytes b).length cap)
theorem at0 (w : World) (tw : Bool) (b : List UInt8) (cap : Nat) (us : Array Value) (e1 e2 e3 e4 : TypeId) (fr : Nat × Nat) (hus : ∀ (i : Nat) (h : i < b.length), us[i]? = some (.int .u8 (b[i].toNat : Int))) :
    At0 w tw b cap ((((w.alloc (.cells #[.bool tw] e1)).alloc (.cells #[.int .i64 0] e2)).alloc (.cells us e3 fr)).drew.alloc (.cells #[.slice (some ⟨w.heap.size + 1 + 1, 0, none⟩) b.length cap] e4)) := by
  generalize hW : ((((w.alloc (.cells #[.bool tw] e1)).alloc (.cells #[.int .i64 0] e2)).alloc (.cells us e3 fr)).drew.alloc (.cells #[.slice (some ⟨w.heap.size + 1 + 1, 0, none⟩) b.length cap] e4)) = W
  have hh : W.heap = (((w.heap.push (.cells #[.bool tw] e1)).push (.cells #[.int .i64 0] e2)).push (.cells us e3 fr)).push (.cells #[.slice (some ⟨w.heap.size + 1 + 1, 0, none⟩) b.length cap] e4) := by rw [← hW]; rfl
  have g0 : W.heap[w.heap.size]? = some (.cells #[.bool tw] e1) := by rw [hh]; simp only [Array.getElem?_push, Array.size_push]; rw [if_neg (by omega), if_neg (by omega), if_neg (by omega), if_pos trivial]
  have g1 : W.heap[w.heap.size + 1]? = some (.cells #[.int .i64 0] e2) := by rw [hh]; simp only [Array.getElem?_push, Array.size_push]; rw [if_neg (by omega), if_neg (by omega), if_pos trivial]
  have g2 : W.heap[w.heap.size + 2]? = some (.cells us e3 fr) := by rw [hh]; simp only [Array.getElem?_push, Array.size_push]; rw [if_neg (by omega), if_pos trivial]
  have g3 : W.heap[w.heap.size + 3]? = some (.cells #[.slice (some ⟨w.heap.size + 1 + 1, 0, none⟩) b.length cap] e4) := by rw [hh]; simp only [Array.getElem?_push, Array.size_push]; rw [if_pos trivial]
  have hl : (toBytes b).length = b.length := by simp [toBytes]
  refine ⟨by rw [hh]; simp, ?_, ⟨by rw [cell_of g0]; rfl, frozen_of g0 (thawed0 _) (by simp)⟩, ⟨by rw [cell_of g1]; rfl, frozen_of g1 (thawed0 _) (by simp)⟩, fun i h => ?_, by rw [cell_of g3, hl]; rfl⟩
  · rw [← hW]
    refine (((((Below.refl _ w).alloc (Nat.le_refl _) _).alloc (by simp) _).alloc (by simp; omega) _).drew).alloc ?_ _
    show _ ≤ (((w.alloc _).alloc _).alloc _).heap.size
    simp; omega
  · rw [addr_add, cell_of g2, Nat.zero_add, hus i (by omega)]
    simp [toBytes]
theorem round_post {w WW W : World} {tw : Bool} {b : List UInt8} {cap : Nat} (A : At0 w tw b cap WW) {pre : List (Int × Int)} {x : Int × Int} {p : Int × Bool} {v : Int} {c : Bool} {ac : Act}
    (hsn : sumOf (pre ++ [x]) tw = (v, c)) (ht : W.cell? ⟨w.heap.size, 0, none⟩ = some (.bool p.2)) (htf : W.frozen? ⟨w.heap.size, 0, none⟩ = false)
    (hc : W.cell? ⟨w.heap.size + 1, 0, none⟩ = some (.int .i64 p.1)) (hf : W.frozen? ⟨w.heap.size + 1, 0, none⟩ = false) (hb : Below w.heap.size w W) :
    ownPostK (Keep2 (w.heap.size + 3) (w.heap.size + 2)) (fun pre W => (W.cell? ⟨w.heap.size, 0, none⟩ = some (.bool (sumOf pre tw).2) ∧ W.frozen? ⟨w.heap.size, 0, none⟩ = false) ∧ (W.cell? ⟨w.heap.size + 1, 0, none⟩ = some (.int .i64 (sumOf pre tw).1) ∧ W.frozen? ⟨w.heap.size + 1, 0, none⟩ = false) ∧ Below w.heap.size w W)
      (fun _ _ _ => False) (pre ++ [x]) W .normal ac ((W.setCell ⟨w.heap.size + 1, 0, none⟩ (.int .i64 v)).setCell ⟨w.heap.size, 0, none⟩ (.bool c)) := by
  refine ⟨(KeepsOthers.setCell _ _ _).trans (KeepsOthers.setCell _ _ _), fun k hk => ?_, ⟨?_, ?_⟩, ⟨?_, ?_⟩, (hb.setCell (by simp) _).setCell (by simp) _⟩
  · rw [Below.heap_setCell _ _ _ _ (by simp; omega), Below.heap_setCell _ _ _ _ (by simp; omega)]
  · rw [hsn]
    refine World.cell?_setCell_same' _ _ _ ?_
    rw [World.cell?_of_block (Below.heap_setCell _ _ _ _ (by simp)), ht]; rfl
  · rw [World.frozen?_setCell, World.frozen?_setCell]; exact htf
  · rw [hsn, World.cell?_of_block (Below.heap_setCell _ _ _ _ (by simp))]
    refine World.cell?_setCell_same' _ _ _ ?_
    rw [hc]; rfl
  · rw [World.frozen?_setCell, World.frozen?_setCell]; exact hf
set_option maxRecDepth 100000 in
set_option maxHeartbeats 2000000 in
theorem sum_in (n : Nat) (hn : 3 ≤ n) (b : List UInt8) (hlen : b.length ≤ 9223372036854775807) (tw : Bool) (w : World) :
    CallsIn Fence.wide n Tryd.prog 170 #[strV b, .bool tw] w fun e W' => e = .returned (.int .i64 (sumOf (backs (toBytes b)) tw).1) ∧ Below w.heap.size w W' := by
  have h1 : 1 ≤ n := by omega
  refine callsIn_of_wp_marks Tryd.func170 rfl trivial ?_ rfl
  simp only [Tryd.ntmps170, List.size_toArray, List.length_cons, List.length_nil, Nat.reduceAdd, Nat.reduceSub, Array.replicate_succ, Array.replicate_zero, List.push_toArray, List.append_toArray, List.nil_append, List.cons_append]
  gi_wp2
  obtain ⟨cap, us, hcap, hus, hrun⟩ := run_s2b Tryd.prog (src := 9) (dst := 110) (e := 5) ⟨_, Tryd.underlying9⟩ Tryd.underlying110 Tryd.underlying5 b ((w.alloc (.cells #[.bool tw] 4)).alloc (.cells #[.int .i64 0] 3))
  rw [hrun]
  simp only [Result.andThen_ok]
  gi_wp2
  refine ⟨trivial, (back_in Fence.wide (n - 1) trivial rfl _ _ _ _).mono ?_⟩
  rintro e w' ⟨rfl, rfl⟩
  dsimp only
  gi_wp2
  have A := at0 w tw b cap us 4 3 5 110 (us.size, us.size + 1) hus
  have hs : (((w.alloc (Obj.cells #[Value.bool tw] 4)).alloc (Obj.cells #[Value.int IntKind.i64 0] 3)).alloc (Obj.cells us 5 (us.size, us.size + 1))).drew.heap.size = w.heap.size + 3 := by
    show (((w.alloc _).alloc _).alloc _).heap.size = _
    simp
  rw [hs]
  generalize ((((w.alloc (Obj.cells #[Value.bool tw] 4)).alloc (Obj.cells #[Value.int IntKind.i64 0] 3)).alloc (Obj.cells us 5 (us.size, us.size + 1))).drew.alloc (Obj.cells #[Value.slice (some { block := w.heap.size + 1 + 1, off := 0 }) b.length cap] 110)) = WW at A ⊢
  have hlen' : (toBytes b).length = b.length := by simp [toBytes]
  refine wpIn_rangeFunc_ownF rfl h1 (gf := 222) (lb := #[.pointer (some ⟨w.heap.size + 3, 0, none⟩)]) rfl trivial (enters_of Tryd.func222 (by kernel_rfl) rfl)
    (encs := fun x : Int × Int => #[.int .i64 x.1, .int .u8 x.2]) (Kp := Keep2 (w.heap.size + 3) (w.heap.size + 2)) (S := fun ys => ys = backs (toBytes b)) (Sp := fun _ => True) (N := (toBytes b).length) (w0 := WW)
    (fun l J Jx W hW _ _ hY h0 => back1_in Fence.wide (n - 1) trivial rfl (by omega) l (w.heap.size + 3) (toBytes b) ⟨w.heap.size + 2, 0, none⟩ cap J Jx hY W ((hW.cell (p := ⟨w.heap.size + 3, 0, none⟩) (by rw [A.size]; show w.heap.size + 3 < _; omega)).trans A.box)
      (fun i h => (hW.cell (p := (⟨w.heap.size + 2, 0, none⟩ : Addr).add i) (by rw [A.size, addr_add]; show w.heap.size + 2 < _; omega)).trans (A.bytes i h)) (by rw [hlen']; exact hlen) h0)
    (fun h k b hb => (k b hb).trans (h b hb))
    (fun W l o o' hl _ _ _ b hb => World.putObj_heap_other (by rw [A.size] at hl; omega))
    (Below.refl _ _) (fun _ => rfl)
    (fun pre W => (W.cell? ⟨w.heap.size, 0, none⟩ = some (.bool (sumOf pre tw).2) ∧ W.frozen? ⟨w.heap.size, 0, none⟩ = false) ∧ (W.cell? ⟨w.heap.size + 1, 0, none⟩ = some (.int .i64 (sumOf pre tw).1) ∧ W.frozen? ⟨w.heap.size + 1, 0, none⟩ = false) ∧ Below w.heap.size w W)
    (fun _ _ _ => False) ?own (fun _ _ _ _ _ hs _ _ => hs) ⟨A.tw, A.n, A.below⟩
    (fun x => { tmps := #[strV b, .bool tw, undef, .pointer (some ⟨w.heap.size, 0, none⟩), .int .i64 0, .pointer (some ⟨w.heap.size + 1, 0, none⟩), undef, .int .u8 x.2, undef, strV b, .slice (some ⟨w.heap.size + 1 + 1, 0, none⟩) b.length cap, .func (.func 222) #[] #[.pointer (some ⟨w.heap.size + 3, 0, none⟩)], .int .i64 x.1, .int .u8 x.2, undef, undef, undef, undef, undef, undef, undef, undef, undef, undef, undef, undef, undef, undef, undef, undef], defers := [] }) ?assign ?body ?done ?stop
  case own =>
    refine fun s A' B' row hs hg hr => ⟨⟨cell_kept hs.1.1 hg fun r e => (hr r e).2, (frozen_kept hs.1.1 hg fun r e => (hr r e).2).trans hs.1.2⟩, ⟨cell_kept hs.2.1.1 hg fun r e => (hr r e).2, (frozen_kept hs.2.1.1 hg fun r e => (hr r e).2).trans hs.2.1.2⟩, ?_⟩
    exact hs.2.2.grown hg hs.2.2.size (fun k e => by have := (hr k e).1; rw [A.size] at this; omega)
  case assign =>
    intro l x W K hK
    gi_wp2_with (rw [Oper.semAt_eq _ _ _ (fun c h => by cases h)]; go_simp; try go_bits)
    exact hK
  case body =>
    rintro l pre x W ⟨⟨ht, htf⟩, ⟨hc, hf⟩, hb⟩ _
    have hsn := sumOf_snoc pre x tw
    generalize hp : sumOf pre tw = p at ht hc hsn
    obtain ⟨p1, p2⟩ := p
    simp only [] at ht hc
    cases p2
    · gi_wp2_with (rw [Oper.semAt_eq _ _ _ (fun c h => by cases h)]; go_simp; try go_bits)
      exact round_post (p := (p1, false)) A hsn ht htf hc hf hb
    · gi_wp2_with (rw [Oper.semAt_eq _ _ _ (fun c h => by cases h)]; go_simp; try go_bits)
      exact round_post (p := (p1, true)) A hsn ht htf hc hf hb
  case done =>
    rintro D xs W hD rfl ⟨⟨ht, htf⟩, ⟨hc, hf⟩, hb⟩ hK
    gi_wp2
    refine ⟨by simp, .inl ⟨_, _, rfl, run_takeDeferred hK, ?_⟩⟩
    exact ⟨_, results_tmp rfl _ _ _, rfl, hb.grown (grownBy_putObj' W D _) hb.size (fun k e => by cases e; rw [A.size] at hD; omega)⟩
  case stop =>
    rintro D c pre W _ _ h _
    exact h.elim
theorem fn170 (b : List UInt8) (hlen : b.length ≤ 9223372036854775807) (tw : Bool) : CallOK Tryd.prog 170 [.str b, .bool tw] (.int .i64 (sumOf (backs (toBytes b)) tw).1) := by
  refine .inl ⟨rfl, ⟨_, Tryd.func170, by kernel_rfl, by kernel_rfl⟩, fun w pr us hpr _ ha => ?_⟩
  obtain ⟨u1, us1, rfl, h1, h2⟩ : ∃ u1 us1, us = u1 :: us1 ∧ PV w pr (.str b) u1 ∧ All2 (PV w pr) [.bool tw] us1 := by
    cases us with
    | nil => exact ha.elim
    | cons u us => exact ⟨u, us, rfl, ha.1, ha.2⟩
  obtain ⟨u2, us2, rfl, h3, h4⟩ : ∃ u1 us', us1 = u1 :: us' ∧ PV w pr (.bool tw) u1 ∧ All2 (PV w pr) [] us' := by
    cases us1 with
    | nil => exact h2.elim
    | cons u us => exact ⟨u, us, rfl, h2.1, h2.2⟩
  have e1 : u1 = strV b := by rcases h1 with h | ⟨_, _, h, _⟩ <;> first | exact h | cases h
  have e2 : u2 = .bool tw := by rcases h3 with h | ⟨_, _, h, _⟩ <;> first | exact h | cases h
  have e3 : us2 = [] := by cases us2 with | nil => rfl | cons _ _ => exact h4.elim
  subst e1 e2 e3
  refine (callsIn_wide.1 (sum_in 10 (by omega) b hlen tw w)).mono ?_
  rintro e W' ⟨rfl, hb⟩
  exact ⟨_, pr, rfl, hb, fun _ _ _ => Iff.rfl, fun k o h => Nat.lt_of_lt_of_le (hpr k o h) hb.size, none, .inl rfl, rfl⟩
end Go.Proofs.YtjgnpmdbkgeakaaDoor.Sum
end
section
set_option linter.unusedVariables false
set_option linter.unusedSimpArgs false
namespace Go.Proofs.YtjgnpmdbkgeakaaDoor.Grow192
open Go Go.RowKit Go.Shelf Go.Lib Go.Proofs Go.Proofs.YtjgnpmdbkgeakaaDoor Th
def Post (n : Nat) (z : Value) (w : World) (e : Ending) (w' : World) : Prop := (n = 0 ∧ e = .returned (.slice none 0 0) ∧ w' = w) ∨
      (0 < n ∧ ∃ G us, e = .returned (.slice (some ⟨w.heap.size, 0, none⟩) 0 G) ∧ w' = w.drew.alloc (.cells us 5) ∧ us = Builtin.zeroCells z.cells n ++ Builtin.zeroCells z.cells (G - n) ∧ n ≤ G)
set_option maxHeartbeats 4000000 in
set_option maxRecDepth 100000 in
theorem walk (i0 : TypeInfo) (z : Value) (hi0 : Tryd.prog.info? 5 = some i0) (hz0 : i0.zero = some z) (hs0 : 0 < i0.size) (n : Nat) (w : World) (hbig : n * i0.bytes ≤ 140737488355328) (h63 : n ≤ 4611686018427387904) :
    Calls Tryd.prog 192 #[.slice none 0 0, .int .i64 n] w (Post n z w) := by
  by_cases hn : n = 0
  · subst hn
    go_enter Tryd.func192, Tryd.ntmps192
    go_wp2
    go_ret
    exact .inl ⟨rfl, rfl, rfl⟩
  have hts : Tryd.prog.underlying 110 = some (.slice 5) := by kernel_rfl
  have hti : Tryd.prog.underlying 3 = some (.int .i64) := by kernel_rfl
  have h1 : ¬ ((n : Int) < 0) := by omega
  have h4 : (n : Int) > 0 := by omega
  have hold : (Builtin.firstCells i0.size 0 (.slice none 0 0)).run Tryd.prog w.drew = .ok ([] : List Value).toArray w.drew := run_firstCells_none w.drew i0.size 0 0 0
  have hrz : ∀ ty, (Builtin.append_ #[110, 3] ty #[.slice none 0 0, .int .i64 (n : Int)]).run Tryd.prog w =
      .ok (.slice (some ⟨w.heap.size, 0, none⟩) n (grownCap w n 0 5)) (w.drew.alloc (.cells (([] : List Value).toArray ++ Builtin.zeroCells z.cells n ++ Builtin.zeroCells z.cells (grownCap w n 0 5 - n)) 5)) := fun ty => by
    have h := Lib.run_append_grow_zeros w 110 3 ty 5 i0 z .i64 .i64 hts hti hi0 hz0 none 0 0 [] hold n (by omega) hs0 (by omega) (by omega) (by omega) (by rw [Nat.zero_add]; exact growslice_fits (by omega) hbig)
    rw [Nat.zero_add] at h
    exact h
  have hGn : n ≤ grownCap w n 0 5 := grownCap_ge w _ _ _
  obtain ⟨G, hG⟩ : ∃ G, G = grownCap w n 0 5 := ⟨_, rfl⟩
  rw [← hG] at hrz hGn
  obtain ⟨ROW, hROW⟩ : ∃ ROW : Array Value, ROW = ([] : List Value).toArray ++ Builtin.zeroCells z.cells n ++ Builtin.zeroCells z.cells (G - n) := ⟨_, rfl⟩
  rw [← hROW] at hrz
  have hpost : Post n z w (.returned (.slice (some ⟨w.heap.size, 0, none⟩) 0 G)) (w.drew.alloc (.cells ROW 5)) := .inr ⟨by omega, G, _, rfl, rfl, by rw [hROW]; simp, hGn⟩
  clear hROW
  have hG63 : G ≤ 9223372036854775807 := by
    have := grownCap_le_maxLen w n 0 5 (by unfold maxLen; omega)
    rw [← hG] at this
    unfold maxLen at this
    omega
  have hw : IntKind.i64.wrap (n : Int) = (n : Int) := by rw [IntKind.wrap_i64]; omega
  clear hold hG
  go_enter Tryd.func192, Tryd.ntmps192
  go_wp2_with (at_builtin; refine Lib.wpList_append_run _ rfl _ _ _ _ rfl _ _ rfl rfl _ _ (hrz _) ?_)
  all_goals (go_ret; exact hpost)
theorem calls {ei : TInfo} {d : TypeDesc} {i0 : TypeInfo} {z : Value} (E : TypeIs Tryd.prog 5 ei i0 d z) (hs0 : 0 < ei.size) (n : Int) (h0 : 0 ≤ n) (hbig : n * (ei.bytes : Int) ≤ 140737488355328) (h63 : n ≤ 4611686018427387904) :
    CallOK Tryd.prog 192 [.nilsl, .int .i64 n] (.own ei.ty []) := by
  refine .inl ⟨rfl, ⟨_, Tryd.func192, rfl, rfl⟩, fun w pr us hlt hgl ha => ?_⟩
  obtain ⟨u1, u2, rfl⟩ : ∃ u1 u2, us = [u1, u2] := by
    have := ha.len
    match us, this with
    | [u1, u2], _ => exact ⟨u1, u2, rfl⟩
  obtain ⟨p1, p2, _⟩ := ha
  have e1 : u1 = .slice none 0 0 := by
    rcases p1 with h | ⟨cs, us, h, _⟩
    · exact h
    · cases h
  have e2 : u2 = .int .i64 n := by
    rcases p2 with h | ⟨cs, us, h, _⟩
    · exact h
    · cases h
  subst e1 e2
  obtain ⟨m, rfl⟩ : ∃ m : Nat, n = m := ⟨n.toNat, by omega⟩
  have hzsz : z.cells.size = ei.size := by have := (z0s_LR (w := w) (g := ⟨fun _ _ => False, fun _ => none, fun _ => none⟩) E.zrel).len; have := E.zlen; simp at *; omega
  refine (walk i0 z E.info E.zero (by rw [E.size]; exact hs0) m w (by rw [E.bytes]; have : ((m * ei.bytes : Nat) : Int) ≤ 140737488355328 := by rw [Int.natCast_mul]; exact hbig
                                                                      omega) (by omega)).mono ?_
  rintro e w' (⟨rfl, rfl, rfl⟩ | ⟨hm, G, us, rfl, rfl, rfl, hG⟩)
  · exact ⟨_, pr, rfl, Below.refl _ _, fun _ _ _ => Iff.rfl, hlt, none, ⟨.slice none 0 0, none, ei.ty.size⟩, ⟨rfl, .inl ⟨rfl, rfl, rfl⟩⟩, rfl, rfl, fun k hk => by cases hk⟩
  · refine ⟨_, pr, rfl, ((Below.refl _ w).drew).alloc (Nat.le_refl _) _, fun _ _ _ => Iff.rfl, fun k o p => ?_, some w.heap.size, ⟨.slice (some ⟨w.heap.size, 0, none⟩) 0 G, some w.heap.size, ei.ty.size⟩,
      ⟨rfl, .inr ⟨w.heap.size, G, rfl, rfl, ?_⟩⟩, rfl, rfl, fun k hk => ?_⟩
    · have h1 : (w.drew.alloc (.cells (Builtin.zeroCells z.cells m ++ Builtin.zeroCells z.cells (G - m)) 5)).heap.size = w.heap.size + 1 := by show (w.heap.push _).size = _; simp
      rw [h1]; have := hlt k o p; omega
    · refine ⟨bd0_mine.2 (Nat.le_refl _), Nat.zero_le _, ⟨_, 5, (0, 0), alloc_new w.drew _, thawed0 _, ?_, fun j x hj => by simp at hj⟩, fun o p => absurd (hlt _ _ p) (by omega), fun h => (by cases h), fun _ o p => absurd (hlt _ _ p) (by omega)⟩
      rw [E.tysz]
      simp only [Array.size_append, size_zeroCells, hzsz]
      rw [← Nat.add_mul]
      exact Nat.mul_le_mul_right _ (by omega)
    · cases hk; show _ < (w.heap.push _).size; simp
end Go.Proofs.YtjgnpmdbkgeakaaDoor.Grow192
end
section
set_option linter.unusedVariables false
set_option linter.unusedSimpArgs false
namespace Go.Proofs.YtjgnpmdbkgeakaaDoor.FrameP
open Go Go.RowKit Go.Shelf Go.Lib Go.Proofs Go.Proofs.YtjgnpmdbkgeakaaDoor Th
def hdr (n : Nat) : List Value := [.int .u8 (n / 256 % 256 : Nat), .int .u8 (n % 256 : Nat)]
def Post (n : Nat) (cs : List Value) (w : World) (e : Ending) (w' : World) : Prop :=
  (n = 0 ∧ e = .returned (.tuple #[.slice none 0 0, .int .i64 2]) ∧ w' = w) ∨
  (2048 < n ∧ e = .returned (.tuple #[.slice none 0 0, .int .i64 4]) ∧ w' = w) ∨
  (0 < n ∧ n ≤ 2048 ∧ e = .returned (.tuple #[.slice (some ⟨w.heap.size, 0, none⟩) (n + 2) (n + 2), .int .i64 0]) ∧ Below w.heap.size w w' ∧ w'.heap[w.heap.size]? = some (.cells (hdr n ++ cs).toArray 5 (0, 0)))
theorem wpList_make_run {P : Program} (w : World) {ops : Array Oper} {rest : List Oper} {o : Oper} {a : Act} {Q : Exit → Act → World → Prop} (hg : o.guard = none) (l c : Operand) (t : TypeId) (hop : o.op = Op.makeSlice t l c)
    (vl vc : Value) (hl : a.eval l = vl) (hc : a.eval c = vc) (v : Value) (w' : World) (hrun : (Instr.makeSlice t vl vc).run P w = .ok v w') (h : wpList P ops Q rest (a.put o.dst v) w') : wpList P ops Q (o :: rest) a w := by
  refine wpList_plain hg fun K hK' => ?_
  unfold Oper.wp
  simp [execOp, hop, hl, hc, hrun, Result.andThen]
  exact hK' _ _ h
theorem wpList_copy_run {P : Program} (w : World) {ops : Array Oper} {rest : List Oper} {o : Oper} {a : Act} {Q : Exit → Act → World → Prop} (hg : o.guard = none) (x y : Operand) (t u : TypeId) (hop : o.op = .call { callee := .builtin .copy, args := #[x, y], argTypes := #[t, u] })
    (vx vy : Value) (hx : a.eval x = vx) (hy : a.eval y = vy) (v : Value) (w' : World) (hrun : (Builtin.copy_ #[t, u] o.type #[vx, vy]).run P w = .ok v w') (h : wpList P ops Q rest (a.put o.dst v) w') : wpList P ops Q (o :: rest) a w := by
  refine wpList_plain hg fun K hK' => ?_
  unfold Oper.wp
  simp [execOp, hop, resolve, invoke, builtin, hx, hy, hrun, Result.andThen]
  exact hK' _ _ h
theorem cell_below {B : Nat} {w w' : World} (h : Below B w w') {a : Addr} (ha : a.block < B) : w'.cell? a = w.cell? a := by
  have := h.block a.block ha
  simp only [World.cell?, this]
theorem made_list (v : Value) (n : Nat) (z : Array Value) (hz : z = #[v]) : madeCells z n = (List.replicate n v).toArray := by
  subst hz
  apply Array.ext
  · rw [size_madeCells]; simp
  · intro i h1 h2
    simp [madeCells, Nat.mod_one]
set_option maxHeartbeats 4000000 in
set_option maxRecDepth 100000 in
theorem walk (ad : Option Addr) (n c : Nat) (cs : List Value) (hn : cs.length = n) (w : World) (hsrc : 0 < n → ∃ a, ad = some a ∧ ∀ j v, cs[j]? = some v → (a.add j).block < w.heap.size ∧ w.cell? (a.add j) = some v) (h1 : ∀ v ∈ cs, v.oneCell' = true) :
    Calls Tryd.prog 151 #[.slice ad n c] w (Post n cs w) := by
  by_cases hz : n = 0
  · subst hz
    go_enter Tryd.func151, Tryd.ntmps151
    go_wp2
    all_goals (go_ret2; exact .inl ⟨rfl, rfl, rfl⟩)
  have q0 : ¬ ((n : Int) = 0) := by omega
  by_cases hbig : 2048 < n
  · have q1 : (n : Int) > 2048 := by omega
    go_enter Tryd.func151, Tryd.ntmps151
    go_wp2
    all_goals (go_ret2; exact .inr (.inl ⟨hbig, rfl, rfl⟩))
  have q1 : ¬ ((n : Int) > 2048) := by omega
  have hts : Tryd.prog.underlying 110 = some (.slice 5) := by kernel_rfl
  have hti : (Tryd.prog.info? 5).map (fun i => (i.zero, i.size, i.bytes)) = some (some (.int .u8 0), 1, 1) := by kernel_rfl
  obtain ⟨i0, hi0, hz0, hs0, hb0⟩ := info_parts hti
  obtain ⟨W1, hmk, hB1, hr1⟩ : ∃ W1, (Instr.makeSlice 110 (.int .i64 (2 + (n : Int))) (.int .i64 (2 + (n : Int)))).run Tryd.prog w = .ok (.slice (some ⟨w.heap.size, 0, none⟩) (n + 2) (n + 2)) W1 ∧ Below w.heap.size w W1 ∧
      W1.heap[w.heap.size]? = some (.cells (List.replicate (n + 2) (Value.int .u8 0)).toArray 5 (0, 0)) := by
    have h := run_make (P := Tryd.prog) w 110 5 i0 _ hts hi0 hz0 .i64 .i64 (2 + (n : Int)) (2 + (n : Int)) (by omega) (by omega) (by rw [hb0]; omega) (by omega)
    have e : (2 + (n : Int)).toNat = n + 2 := by omega
    rw [e, hs0] at h
    refine ⟨_, h, (Below.refl _ _).alloc (Nat.le_refl _) _, ?_⟩
    rw [made_list (.int .u8 0) _ (Value.int .u8 0).cells rfl, Nat.mul_one]
    exact Array.getElem?_push_size
  have hw : IntKind.i64.wrap (2 + (n : Int)) = 2 + (n : Int) := by rw [IntKind.wrap_i64]; omega
  have hc0 : W1.cell? ⟨w.heap.size, 0, none⟩ = some (.int .u8 0) := by simp [World.cell?, hr1, List.replicate_succ]
  have hf0 : W1.frozen? ⟨w.heap.size, 0, none⟩ = false := frozen_of_row _ _ _ _ _ hr1
  have hr2 := fun v => heap_setCell_same W1 w.heap.size 0 _ 5 v hr1
  have hc1 : ∀ v, (W1.setCell ⟨w.heap.size, 0, none⟩ v).cell? ⟨w.heap.size, 1, none⟩ = some (.int .u8 0) := fun v => by simp [World.cell?, hr2 v, List.replicate_succ]
  have hf1 : ∀ v, (W1.setCell ⟨w.heap.size, 0, none⟩ v).frozen? ⟨w.heap.size, 1, none⟩ = false := fun v => frozen_of_row _ _ _ _ _ (hr2 v)
  have hr3 := fun v u => heap_setCell_same _ w.heap.size 1 _ 5 u (hr2 v)
  have hB3 : ∀ v u, Below w.heap.size w ((W1.setCell ⟨w.heap.size, 0, none⟩ v).setCell ⟨w.heap.size, 1, none⟩ u) := fun v u => (hB1.setCell (p := ⟨w.heap.size, 0, none⟩) (Nat.le_refl _) v).setCell (p := ⟨w.heap.size, 1, none⟩) (Nat.le_refl _) u
  obtain ⟨a, rfl, hsrc'⟩ := hsrc (by omega)
  obtain ⟨W3, hcp, hB4, hr4⟩ : ∃ W3, (Builtin.copy_ #[110, 110] 3 #[.slice (some ⟨w.heap.size, 2, none⟩) n n, .slice (some a) n c]).run Tryd.prog ((W1.setCell ⟨w.heap.size, 0, none⟩ (.int .u8 ((n : Int) / 256))).setCell ⟨w.heap.size, 1, none⟩ (.int .u8 ((n : Int) % 256))) = .ok (goInt n) W3 ∧
      Below w.heap.size w W3 ∧ W3.heap[w.heap.size]? = some (.cells (hdr n ++ cs).toArray 5 (0, 0)) := by
    have h := run_copy_row (P := Tryd.prog) _ 110 110 3 5 w.heap.size 2 n n a n c _ 5 cs hts (by rw [hi0]; simp [hs0]) (hr3 (.int .u8 ((n : Int) / 256)) (.int .u8 ((n : Int) % 256))) (by simp [hn])
      (fun j v hj => by rw [cell_below (hB3 _ _) (a := a.add j) (hsrc' j v hj).1]; exact (hsrc' j v hj).2) (by simp; omega) h1
    rw [hn] at h
    refine ⟨_, h, below_setRow (hB3 _ _) (Nat.le_refl _) _, ?_⟩
    have hl : ((List.replicate (n + 2) (Value.int .u8 0)).toArray.setIfInBounds 0 (.int .u8 ((n : Int) / 256))).setIfInBounds 1 (.int .u8 ((n : Int) % 256)) = (.int .u8 ((n : Int) / 256) :: .int .u8 ((n : Int) % 256) :: List.replicate n (Value.int .u8 0)).toArray := by
      rw [List.replicate_succ, List.replicate_succ]; rfl
    rw [setRow_heap _ _ _ _ 5 (0, 0) (hr3 _ _), hl]
    have e1 : (n : Int) / 256 = ((n / 256 % 256 : Nat) : Int) := by omega
    have e2 : (n : Int) % 256 = ((n % 256 : Nat) : Int) := by omega
    have e3 : List.drop (2 + n) (.int .u8 ((n : Int) / 256) :: .int .u8 ((n : Int) % 256) :: List.replicate n (Value.int .u8 0)) = [] := List.drop_eq_nil_of_le (by simp; omega)
    show some (Obj.cells (List.toArray (List.take 2 (.int .u8 ((n : Int) / 256) :: .int .u8 ((n : Int) % 256) :: List.replicate n (Value.int .u8 0)) ++ cs ++ List.drop (2 + n) (.int .u8 ((n : Int) / 256) :: .int .u8 ((n : Int) % 256) :: List.replicate n (Value.int .u8 0)))) 5 (0, 0)) = _
    rw [e3, List.append_nil, e1, e2]
    rfl
  go_enter Tryd.func151, Tryd.ntmps151
  go_wp2_with (first | (at_make; (refine wpList_make_run _ rfl _ _ _ rfl _ _ rfl rfl _ _ hmk ?_)) | (with_reducible refine wpList_copy_run _ rfl _ _ _ _ rfl _ _ rfl rfl _ _ hcp ?_))
  all_goals (go_ret2; exact .inr (.inr ⟨by omega, by omega, rfl, hB4, hr4⟩))
theorem two_of {B : Bd} {w : World} {pr : Nat → Nat → Prop} {a b : AV} {u v : Value} (h1 : OwnC B w pr a u none) (h2 : OwnC B w pr b v none) : ∀ (i : Nat) (x : AV) (y : Value) (c : Option Nat), [a, b][i]? = some x → [u, v][i]? = some y → [none, none][i]? = some c → OwnC B w pr x y c := by
  intro i x y c p q r
  match i with
  | 0 => cases p; cases q; cases r; exact h1
  | 1 => cases p; cases q; cases r; exact h2
  | i + 2 => simp at p
theorem none_two : ∀ (i j k : Nat), ([none, none] : List (Option Nat))[i]? = some (some k) → ([none, none] : List (Option Nat))[j]? = some (some k) → i = j := by
  intro i j k p
  match i with
  | 0 => cases p
  | 1 => cases p
  | i + 2 => simp at p
def putF (b : List Int) : List Int × Int := if b.length = 0 then ([], 2) else if 2048 < b.length then ([], 4) else (((b.length / 256 % 256 : Nat) : Int) :: ((b.length % 256 : Nat) : Int) :: b, 0)
theorem calls (b : List Int) (a : AV) (ha : a = .sl (.int .u8) b ∨ (a = .nilsl ∧ b = [])) : CallOK Tryd.prog 151 [a] (.tup [.sl (.int .u8) (putF b).1, .int .i64 (putF b).2]) := by
  refine .inl ⟨rfl, ⟨_, Tryd.func151, rfl, rfl⟩, fun w pr us hlt hgl hal => ?_⟩
  obtain ⟨u1, rfl⟩ : ∃ u1, us = [u1] := by
    have := hal.len
    match us, this with
    | [u1], _ => exact ⟨u1, rfl⟩
  obtain ⟨p1, _⟩ := hal
  have hTR : TR w pr (.slice (.int .u8)) b [u1] := by
    rcases ha with rfl | ⟨rfl, rfl⟩
    · rcases p1 with h | ⟨cs, us, h, _⟩
      · exact h
      · cases h
    · have e : u1 = .slice none 0 0 := by
        rcases p1 with h | ⟨cs, us, h, _⟩
        · exact h
        · cases h
      rw [e]; exact TR_nilsl _ _ _
  obtain ⟨ad, c, e, hcap, hel⟩ := hTR
  cases e
  have hget : ∀ (j : Nat) (v : Value), (b.map (Value.int .u8))[j]? = some v → ∃ x, b[j]? = some x ∧ v = .int .u8 x := fun j v hj => by
    rw [List.getElem?_map] at hj
    cases hx : b[j]? with
    | none => rw [hx] at hj; cases hj
    | some x => rw [hx] at hj; exact ⟨x, rfl, by cases hj; rfl⟩
  refine (walk ad b.length c (b.map (Value.int .u8)) (by simp) w (fun h0 => ?_) (fun v hv => ?_)).mono ?_
  · obtain ⟨a0, vs0, ea, _⟩ := hel 0 b[0] (List.getElem?_eq_getElem h0)
    refine ⟨a0, ea, fun j v hj => ?_⟩
    obtain ⟨x, hx, rfl⟩ := hget j v hj
    obtain ⟨a1, vs1, ea1, hl1, hc1, hv1⟩ := hel j x hx
    rw [ea] at ea1
    cases ea1
    have hv1 : vs1 = [.int .u8 x] := hv1
    have := hc1 0 (.int .u8 x) (by rw [hv1]; rfl)
    rw [Nat.add_zero, show (Ty.int .u8).size = 1 from rfl, Nat.mul_one] at this
    exact ⟨hlt _ _ this.2, this.1⟩
  · obtain ⟨x, _, rfl⟩ := List.mem_map.1 hv
    rfl
  rintro e w' (⟨h0, rfl, rfl⟩ | ⟨h0, rfl, rfl⟩ | ⟨h0, h1, rfl, hB, hr⟩)
  · have ep : putF b = ([], 2) := by unfold putF; rw [if_pos h0]
    rw [ep]
    exact ⟨_, pr, rfl, Below.refl _ _, fun _ _ _ => Iff.rfl, hlt, [.slice none 0 0, .int .i64 2], [none, none], rfl, rfl, rfl, two_of ⟨.inl (TR_nilsl _ _ _), rfl⟩ ⟨.inl rfl, rfl⟩, none_two⟩
  · have ep : putF b = ([], 4) := by unfold putF; rw [if_neg (by omega), if_pos h0]
    rw [ep]
    exact ⟨_, pr, rfl, Below.refl _ _, fun _ _ _ => Iff.rfl, hlt, [.slice none 0 0, .int .i64 4], [none, none], rfl, rfl, rfl, two_of ⟨.inl (TR_nilsl _ _ _), rfl⟩ ⟨.inl rfl, rfl⟩, none_two⟩
  · have ep : putF b = (((b.length / 256 % 256 : Nat) : Int) :: ((b.length % 256 : Nat) : Int) :: b, 0) := by unfold putF; rw [if_neg (by omega), if_neg (by omega)]
    have hs' : w.heap.size < w'.heap.size := (Array.getElem?_eq_some_iff.1 hr).1
    rw [ep]
    refine ⟨_, fun k o => pr k o ∨ k = w.heap.size, rfl, hB, fun k o hk => ⟨fun h => h.elim id fun h => absurd h (by omega), .inl⟩, fun k o h => h.elim (fun h => Nat.lt_of_lt_of_le (hlt _ _ h) hB.size) fun h => by omega,
      [.slice (some ⟨w.heap.size, 0, none⟩) (b.length + 2) (b.length + 2), .int .i64 0], [none, none], rfl, rfl, rfl, two_of ⟨.inl ⟨some ⟨w.heap.size, 0, none⟩, b.length + 2, rfl, ⟨Nat.le_refl _, fun h => by cases h⟩, fun j x hj => ?_⟩, rfl⟩ ⟨.inl rfl, rfl⟩, none_two⟩
    refine ⟨_, [.int .u8 x], rfl, rfl, fun i v hi => ?_, rfl⟩
    match i, hi with
    | 0, hi =>
      cases hi
      rw [Nat.add_zero, show (Ty.int .u8).size = 1 from rfl, Nat.mul_one]
      refine ⟨?_, .inr (by rw [addr_add])⟩
      have e : (hdr b.length ++ b.map (Value.int .u8)) = (((b.length / 256 % 256 : Nat) : Int) :: ((b.length % 256 : Nat) : Int) :: b).map (Value.int .u8) := rfl
      have hj' : (((b.length / 256 % 256 : Nat) : Int) :: ((b.length % 256 : Nat) : Int) :: b)[j]? = some x := hj
      rw [addr_add, Nat.zero_add, cell_of hr, List.getElem?_toArray, e, List.getElem?_map, hj']
      rfl
def putS (b : List Int) : Option (List Int × Int × Unit) := sel (decide (b.length = 0)) (some ([], 2, ())) (sel (decide (2048 < b.length)) (some ([], 4, ())) (some (((b.length / 256 % 256 : Nat) : Int) :: ((b.length % 256 : Nat) : Int) :: b, 0, ())))
theorem putS_eq (b : List Int) : putS b = some ((putF b).1, (putF b).2, ()) := by
  unfold putS putF
  by_cases h : b.length = 0
  · rw [sel_pos h, if_pos h]
  · rw [sel_neg h, if_neg h]
    by_cases h2 : 2048 < b.length
    · rw [sel_pos h2, if_pos h2]
    · rw [sel_neg h2, if_neg h2]
end Go.Proofs.YtjgnpmdbkgeakaaDoor.FrameP
end
section
set_option linter.unusedVariables false
set_option linter.unusedSimpArgs false
namespace Go.Proofs.YtjgnpmdbkgeakaaDoor.G
open Go Go.Proofs.YtjgnpmdbkgeakaaDoor.Th
def til : List (Nat × TInfo) := [
  (3, ⟨.int .i64, 1, 8, (.int .i64), [.int .i64 0], [], [], true, false, [], []⟩),
  (4, ⟨.bool, 1, 1, .bool, [.bool false], [], [], true, false, [], []⟩),
  (5, ⟨.int .u8, 1, 1, (.int .u8), [.int .u8 0], [], [], true, false, [], []⟩),
  (9, ⟨.str, 1, 16, .str, [.str []], [], [], true, false, [], [(229, 8)]⟩),
  (22, ⟨.int .u64, 1, 8, (.int .u64), [.int .u64 0], [], [], true, false, [], []⟩),
  (23, ⟨.int .u32, 1, 4, (.int .u32), [.int .u32 0], [], [], true, false, [], []⟩),
  (25, ⟨.struct, 6, 72, (.st (.cons (.int .i64) (.cons .str (.cons (.int .u64) (.cons (.int .u32) (.cons .str (.cons .str .nil))))))), [.int .i64 0, .str [], .int .u64 0, .int .u32 0, .str [], .str []], [(0, 3), (1, 9), (2, 22), (3, 23), (4, 9), (5, 9)], [1, 1, 1, 1, 1, 1], true, true, [], []⟩),
  (27, ⟨.struct, 2, 24, (.st (.cons (.int .u32) (.cons .str .nil))), [.int .u32 0, .str []], [(0, 23), (1, 9)], [1, 1], true, true, [], []⟩),
  (37, ⟨.slice 160, 1, 24, (.slice (.st (.cons (.int .i64) (.cons .str .nil)))), [.nilsl], [], [], true, false, [], []⟩),
  (39, ⟨.struct, 2, 40, (.st (.cons .str (.cons (.slice (.st (.cons (.int .i64) (.cons .str .nil)))) .nil))), [.str [], .nilsl], [(0, 9), (1, 37)], [1, 1], true, false, [], []⟩),
  (41, ⟨.int .i64, 1, 8, (.int .i64), [.int .i64 0], [], [], true, false, [], []⟩),
  (54, ⟨.struct, 8, 88, (.st (.cons (.st (.cons (.int .u32) (.cons .str .nil))) (.cons (.int .i64) (.cons .str (.cons (.int .u64) (.cons .str (.cons (.int .i64) (.cons (.int .i64) .nil)))))))), [.int .u32 0, .str [], .int .i64 0, .str [], .int .u64 0, .str [], .int .i64 0, .int .i64 0], [(0, 27), (2, 3), (3, 9), (4, 22), (5, 9), (6, 3), (7, 3)], [2, 1, 1, 1, 1, 1, 1], true, true, [], []⟩),
  (56, ⟨.struct, 7, 80, (.st (.cons (.int .i64) (.cons (.st (.cons (.int .i64) (.cons .str (.cons (.int .u64) (.cons (.int .u32) (.cons .str (.cons .str .nil))))))) .nil))), [.int .i64 0, .int .i64 0, .str [], .int .u64 0, .int .u32 0, .str [], .str []], [(0, 3), (1, 25)], [1, 6], true, true, [], []⟩),
  (58, ⟨.slice 25, 1, 24, (.slice (.st (.cons (.int .i64) (.cons .str (.cons (.int .u64) (.cons (.int .u32) (.cons .str (.cons .str .nil)))))))), [.nilsl], [], [], true, false, [], []⟩),
  (60, ⟨.struct, 12, 152, (.st (.cons (.st (.cons (.st (.cons (.int .u32) (.cons .str .nil))) (.cons (.int .i64) (.cons .str (.cons (.int .u64) (.cons .str (.cons (.int .i64) (.cons (.int .i64) .nil)))))))) (.cons (.slice (.st (.cons (.int .i64) (.cons .str (.cons (.int .u64) (.cons (.int .u32) (.cons .str (.cons .str .nil)))))))) (.cons (.slice (.st (.cons (.int .i64) (.cons .str (.cons (.int .u64) (.cons (.int .u32) (.cons .str (.cons .str .nil)))))))) (.cons (.int .i64) (.cons .bool .nil)))))), [.int .u32 0, .str [], .int .i64 0, .str [], .int .u64 0, .str [], .int .i64 0, .int .i64 0, .nilsl, .nilsl, .int .i64 0, .bool false], [(0, 54), (8, 58), (9, 58), (10, 3), (11, 4)], [8, 1, 1, 1, 1], true, false, [], []⟩),
  (69, ⟨.slice 56, 1, 24, (.slice (.st (.cons (.int .i64) (.cons (.st (.cons (.int .i64) (.cons .str (.cons (.int .u64) (.cons (.int .u32) (.cons .str (.cons .str .nil))))))) .nil)))), [.nilsl], [], [], true, false, [], []⟩),
  (110, ⟨.slice 5, 1, 24, (.slice (.int .u8)), [.nilsl], [], [], true, false, [], []⟩),
  (115, ⟨.struct, 2, 32, (.st (.cons (.slice (.int .u8)) (.cons .bool .nil))), [.nilsl, .bool false], [(0, 110), (1, 4)], [1, 1], true, false, [], []⟩),
  (121, ⟨.struct, 5, 88, (.st (.cons (.st (.cons (.slice (.int .u8)) (.cons .bool .nil))) (.cons (.slice (.int .u8)) (.cons (.slice (.int .u8)) (.cons (.int .i64) .nil))))), [.nilsl, .bool false, .nilsl, .nilsl, .int .i64 0], [(0, 115), (2, 110), (3, 110), (4, 3)], [2, 1, 1, 1], true, false, [], []⟩),
  (126, ⟨.slice 110, 1, 24, (.slice (.slice (.int .u8))), [.nilsl], [], [], true, false, [], []⟩),
  (136, ⟨.struct, 2, 32, (.st (.cons (.int .i64) (.cons (.slice (.slice (.int .u8))) .nil))), [.int .i64 0, .nilsl], [(0, 3), (1, 126)], [1, 1], true, false, [], []⟩),
  (160, ⟨.struct, 2, 24, (.st (.cons (.int .i64) (.cons .str .nil))), [.int .i64 0, .str []], [(0, 3), (1, 9)], [1, 1], true, true, [], []⟩),
  (161, ⟨.slice 9, 1, 24, (.slice .str), [.nilsl], [], [], true, false, [], []⟩),
  (169, ⟨.slice 3, 1, 24, (.slice (.int .i64)), [.nilsl], [], [], true, false, [], []⟩),
  (175, ⟨.struct, 20, 240, (.st (.cons (.st (.cons (.st (.cons (.st (.cons (.int .u32) (.cons .str .nil))) (.cons (.int .i64) (.cons .str (.cons (.int .u64) (.cons .str (.cons (.int .i64) (.cons (.int .i64) .nil)))))))) (.cons (.slice (.st (.cons (.int .i64) (.cons .str (.cons (.int .u64) (.cons (.int .u32) (.cons .str (.cons .str .nil)))))))) (.cons (.slice (.st (.cons (.int .i64) (.cons .str (.cons (.int .u64) (.cons (.int .u32) (.cons .str (.cons .str .nil)))))))) (.cons (.int .i64) (.cons .bool .nil)))))) (.cons (.st (.cons (.int .i64) (.cons (.st (.cons (.int .i64) (.cons .str (.cons (.int .u64) (.cons (.int .u32) (.cons .str (.cons .str .nil))))))) .nil))) (.cons (.int .i64) .nil)))), [.int .u32 0, .str [], .int .i64 0, .str [], .int .u64 0, .str [], .int .i64 0, .int .i64 0, .nilsl, .nilsl, .int .i64 0, .bool false, .int .i64 0, .int .i64 0, .str [], .int .u64 0, .int .u32 0, .str [], .str [], .int .i64 0], [(0, 60), (12, 56), (19, 3)], [12, 7, 1], true, false, [], []⟩),
  (196, ⟨.struct, 2, 16, (.st (.cons (.int .u64) (.cons (.int .u64) .nil))), [.int .u64 0, .int .u64 0], [(0, 22), (1, 22)], [1, 1], true, true, [], []⟩),
  (222, ⟨.struct, 3, 24, (.st (.cons (.int .i64) (.cons (.int .i64) (.cons (.int .i64) .nil)))), [.int .i64 0, .int .i64 0, .int .i64 0], [(0, 3), (1, 3), (2, 3)], [1, 1, 1], true, true, [], []⟩),
  (266, ⟨.slice 222, 1, 24, (.slice (.st (.cons (.int .i64) (.cons (.int .i64) (.cons (.int .i64) .nil))))), [.nilsl], [], [], true, false, [], []⟩),
  (268, ⟨.struct, 2, 16, (.st (.cons (.int .i64) (.cons (.int .i64) .nil))), [.int .i64 0, .int .i64 0], [(0, 3), (1, 3)], [1, 1], true, true, [("paydesk/field.ahead", 245), ("paydesk/field.sized", 246)], []⟩),
  (270, ⟨.struct, 1, 8, (.st (.cons (.int .i64) .nil)), [.int .i64 0], [(0, 3)], [1], true, true, [("paydesk/field.ahead", 247), ("paydesk/field.sized", 248)], []⟩)
]
noncomputable def TI : TEnv := tiOf til
theorem hT : TIok Tryd.prog TI := TIok.of (by kernel_rfl)
theorem hm : Tryd.prog.follows .mixedOrders = true := rfl
noncomputable def O_0 (_ : Nat) : Orc := fun _ _ _ _ => none
theorem ok_O_0 (k : Nat) : OrcOK (O_0 k) (CallOK Tryd.prog) := orc_none
noncomputable def c175 : Code := Tryd.f175.body.getD .skip
noncomputable def mi175 : Msk := ⟨[(.tmp 0, .val (.int .i64))], []⟩
noncomputable def mo175 : Msk := ⟨[(.res 2, .val (.st (.cons (.int .i64) (.cons (.int .i64) (.cons (.int .i64) .nil))))), (.tmp 3, .val .bool)], []⟩
noncomputable def L175_2 (k : Nat) : LOrc := fun _ _ _ _ => none
noncomputable def b175_2 : Code := (findLoop 2 c175).getD .skip
noncomputable def m175_2 : Msk := ⟨[(.tmp 0, .val (.int .i64)), (.tmp 2, .ptr 2 0), (.tmp 21, .row false (.st (.cons (.int .i64) (.cons (.int .i64) (.cons (.int .i64) .nil))))), (.tmp 22, .val (.int .i64)), (.tmp 23, .val (.int .i64)), (.cell 2 0, .val (.int .i64)), (.cell 2 1, .val (.int .i64)), (.cell 2 2, .val (.int .i64))], [(2, 3)]⟩
noncomputable def x175_2 : List (X × Msk) := [(.exit 0, ⟨[(.tmp 2, .ptr 2 0), (.cell 2 0, .val (.int .i64)), (.cell 2 1, .val (.int .i64)), (.cell 2 2, .val (.int .i64))], [(2, 3)]⟩), (.ret, ⟨[(.tmp 2, .ptr 2 0), (.tmp 3, .val .bool), (.cell 2 0, .val (.int .i64)), (.cell 2 1, .val (.int .i64)), (.cell 2 2, .val (.int .i64))], [(2, 3)]⟩)]
noncomputable def F175_2 (k : Nat) : Nat → m175_2.den → Option (denE x175_2)
  | 0, _ => none
  | j + 1, v => round TI (O_0 k) (L175_2 k) b175_2 m175_2 x175_2 (F175_2 k j) v
theorem lk175_2_ (k : Nat) : LinksOK Tryd.prog 34 (L175_2 k) b175_2 := (And.intro True.intro (And.intro (And.intro True.intro True.intro) (And.intro (And.intro True.intro (And.intro True.intro (And.intro (And.intro True.intro True.intro) True.intro))) True.intro)))
noncomputable def L175 (k : Nat) : LOrc := fun R lk s K => match lk with
  | .loop r => bif Nat.beq r 2 then link m175_2 x175_2 (F175_2 k k) s K else none
  | .label l => none
theorem lk_L175_2 (k : Nat) : LoopOK Tryd.prog 34 (L175 k) b175_2 := loopOK_of hm hT (ok_O_0 k) (fun _ _ _ h => h) rfl (lk175_2_ k) rfl rfl (F := F175_2 k) (fun _ => rfl) (fun _ _ => rfl) (n := k) fun _ _ _ => rfl
noncomputable def F175 (k : Nat) (v : mi175.den) : Option mo175.den := runF TI (O_0 k) (L175 k) c175 mi175 mo175 v
theorem lk175 (k : Nat) : LinksOK Tryd.prog 34 (L175 k) c175 := (And.intro True.intro (And.intro (And.intro True.intro (lk_L175_2 k)) (And.intro True.intro True.intro)))
theorem fn175 (k : Nat) (args : List AV) (x : mi175.den) (r : mo175.den) (h1 : args.length = mi175.items.length) (h2 : mi175.dec (Th.start args) = some x) (h3 : F175 k x = some r) : CallOK Tryd.prog 175 args (ansOf (outL mo175.items r)) :=
  call_of hm hT (ok_O_0 k) (fn := Tryd.f175) (c := c175) Tryd.func175 rfl rfl rfl (lk175 k) rfl (by decide) rfl h1 h2 h3
noncomputable def O175 (k : Nat) : Orc := fun R f args K => bif Nat.beq f 175 then callF mi175 mo175 (F175 k) args K else O_0 k R f args K
theorem ok_O175 (k : Nat) : OrcOK (O175 k) (CallOK Tryd.prog) := orc_add (fn175 k) (ok_O_0 k)
noncomputable def c176 : Code := Tryd.f176.body.getD .skip
noncomputable def mi176 : Msk := ⟨[(.tmp 0, .val (.st (.cons (.int .i64) (.cons (.int .i64) (.cons (.int .i64) .nil)))))], []⟩
noncomputable def mo176 : List Msk := [⟨[(.tmp 2, .val (.ifc 268 (.st (.cons (.int .i64) (.cons (.int .i64) .nil)))))], []⟩, ⟨[(.tmp 2, .val (.ifc 270 (.st (.cons (.int .i64) .nil))))], []⟩]
noncomputable def L176 (k : Nat) : LOrc := fun _ _ _ _ => none
noncomputable def F176 (k : Nat) (v : mi176.den) : Option (denA mo176) := runA TI (O175 k) (L176 k) c176 mi176 mo176 v
theorem lk176 (k : Nat) : LinksOK Tryd.prog 22 (L176 k) c176 := (And.intro True.intro (And.intro (And.intro True.intro (And.intro (And.intro True.intro (And.intro True.intro True.intro)) (And.intro (And.intro True.intro True.intro) (And.intro True.intro (And.intro (And.intro True.intro True.intro) True.intro))))) (And.intro True.intro True.intro)))
theorem fn176 (k : Nat) (args : List AV) (x : mi176.den) (r : (denA mo176)) (h1 : args.length = mi176.items.length) (h2 : mi176.dec (Th.start args) = some x) (h3 : F176 k x = some r) : CallOK Tryd.prog 176 args (valA mo176 r) :=
  call_ofA hm hT (ok_O175 k) (fn := Tryd.f176) (c := c176) Tryd.func176 rfl rfl rfl (lk176 k) rfl (by decide) rfl h1 h2 h3
noncomputable def O176 (k : Nat) : Orc := fun R f args K => bif Nat.beq f 176 then callA mi176 mo176 (F176 k) args K else O175 k R f args K
theorem ok_O176 (k : Nat) : OrcOK (O176 k) (CallOK Tryd.prog) := orc_addA (fn176 k) (ok_O175 k)
noncomputable def c246 : Code := Tryd.f246.body.getD .skip
noncomputable def mi246 : Msk := ⟨[(.tmp 0, .val (.st (.cons (.int .i64) (.cons (.int .i64) .nil)))), (.tmp 1, .val (.int .i64))], []⟩
noncomputable def mo246 : Msk := ⟨[(.tmp 4, .val .bool)], []⟩
noncomputable def L246 (k : Nat) : LOrc := fun _ _ _ _ => none
noncomputable def F246 (k : Nat) (v : mi246.den) : Option mo246.den := runF TI (O176 k) (L246 k) c246 mi246 mo246 v
theorem lk246 (k : Nat) : LinksOK Tryd.prog 13 (L246 k) c246 := (And.intro True.intro (And.intro True.intro True.intro))
theorem fn246 (k : Nat) (args : List AV) (x : mi246.den) (r : mo246.den) (h1 : args.length = mi246.items.length) (h2 : mi246.dec (Th.start args) = some x) (h3 : F246 k x = some r) : CallOK Tryd.prog 246 args (ansOf (outL mo246.items r)) :=
  call_of hm hT (ok_O176 k) (fn := Tryd.f246) (c := c246) Tryd.func246 rfl rfl rfl (lk246 k) rfl (by decide) rfl h1 h2 h3
noncomputable def O246 (k : Nat) : Orc := fun R f args K => bif Nat.beq f 246 then callF mi246 mo246 (F246 k) args K else O176 k R f args K
theorem ok_O246 (k : Nat) : OrcOK (O246 k) (CallOK Tryd.prog) := orc_add (fn246 k) (ok_O176 k)
noncomputable def c248 : Code := Tryd.f248.body.getD .skip
noncomputable def mi248 : Msk := ⟨[(.tmp 0, .val (.st (.cons (.int .i64) .nil))), (.tmp 1, .val (.int .i64))], []⟩
noncomputable def mo248 : Msk := ⟨[(.tmp 4, .val .bool)], []⟩
noncomputable def L248 (k : Nat) : LOrc := fun _ _ _ _ => none
noncomputable def F248 (k : Nat) (v : mi248.den) : Option mo248.den := runF TI (O246 k) (L248 k) c248 mi248 mo248 v
theorem lk248 (k : Nat) : LinksOK Tryd.prog 9 (L248 k) c248 := (And.intro True.intro (And.intro True.intro True.intro))
theorem fn248 (k : Nat) (args : List AV) (x : mi248.den) (r : mo248.den) (h1 : args.length = mi248.items.length) (h2 : mi248.dec (Th.start args) = some x) (h3 : F248 k x = some r) : CallOK Tryd.prog 248 args (ansOf (outL mo248.items r)) :=
  call_of hm hT (ok_O246 k) (fn := Tryd.f248) (c := c248) Tryd.func248 rfl rfl rfl (lk248 k) rfl (by decide) rfl h1 h2 h3
noncomputable def O248 (k : Nat) : Orc := fun R f args K => bif Nat.beq f 248 then callF mi248 mo248 (F248 k) args K else O246 k R f args K
theorem ok_O248 (k : Nat) : OrcOK (O248 k) (CallOK Tryd.prog) := orc_add (fn248 k) (ok_O246 k)
noncomputable def c169 : Code := Tryd.f169.body.getD .skip
noncomputable def mi169 : Msk := ⟨[(.tmp 0, .val .str)], []⟩
noncomputable def mo169 : Msk := ⟨[(.tmp 2, .val .bool)], []⟩
noncomputable def L169_g0 (k : Nat) : LOrc := fun _ _ _ _ => none
noncomputable def b169_g0 : Code := (findScope 0 c169).getD .skip
noncomputable def l169_g0 : List (X × Msk) := [(.goto 0, ⟨[(.tmp 0, .val .str), (.tmp 3, .val (.int .i64))], []⟩)]
noncomputable def x169_g0 : List (X × Msk) := [(.ret, ⟨[(.tmp 2, .val .bool)], []⟩)]
noncomputable def F169_g0 (k : Nat) : Nat → denE l169_g0 → Option (denE x169_g0)
  | 0, _ => none
  | j + 1, v => pass TI (O248 k) (L169_g0 k) b169_g0 l169_g0 x169_g0 (F169_g0 k j) v
theorem lk169_g0_ (k : Nat) : LinksOK Tryd.prog 22 (L169_g0 k) b169_g0 := (And.intro True.intro (And.intro True.intro (And.intro (And.intro True.intro (And.intro (And.intro True.intro True.intro) True.intro)) (And.intro (And.intro True.intro (And.intro (And.intro True.intro True.intro) True.intro)) (And.intro True.intro True.intro)))))
noncomputable def L169 (k : Nat) : LOrc := fun R lk s K => match lk with
  | .loop r => none
  | .label l => (match findLabel b169_g0 l with | some _ => linkJ l169_g0 x169_g0 (F169_g0 k k) l s K | none => none)
theorem lk_L169_g0 (k : Nat) : JumpsOK Tryd.prog 22 (L169 k) b169_g0 := jumpsOK_of hm hT (ok_O248 k) (fun _ _ _ h => h) rfl (lk169_g0_ k) rfl rfl (F := F169_g0 k) (fun _ => rfl) (fun _ _ => rfl) (n := k) fun R l s K rest hf => by
  show (match findLabel b169_g0 l with | some _ => linkJ l169_g0 x169_g0 (F169_g0 k k) l s K | none => none) = _
  rw [hf]
noncomputable def F169 (k : Nat) (v : mi169.den) : Option mo169.den := runF TI (O248 k) (L169 k) c169 mi169 mo169 v
theorem lk169 (k : Nat) : LinksOK Tryd.prog 22 (L169 k) c169 := (And.intro True.intro (And.intro (lk_L169_g0 k) (And.intro True.intro (And.intro True.intro (And.intro (And.intro True.intro (And.intro (And.intro True.intro True.intro) True.intro)) (And.intro (And.intro True.intro (And.intro (And.intro True.intro True.intro) True.intro)) (And.intro True.intro True.intro)))))))
theorem fn169 (k : Nat) (args : List AV) (x : mi169.den) (r : mo169.den) (h1 : args.length = mi169.items.length) (h2 : mi169.dec (Th.start args) = some x) (h3 : F169 k x = some r) : CallOK Tryd.prog 169 args (ansOf (outL mo169.items r)) :=
  call_of hm hT (ok_O248 k) (fn := Tryd.f169) (c := c169) Tryd.func169 rfl rfl rfl (lk169 k) rfl (by decide) rfl h1 h2 h3
noncomputable def O169 (k : Nat) : Orc := fun R f args K => bif Nat.beq f 169 then callF mi169 mo169 (F169 k) args K else O248 k R f args K
theorem ok_O169 (k : Nat) : OrcOK (O169 k) (CallOK Tryd.prog) := orc_add (fn169 k) (ok_O248 k)
noncomputable def F177 (k : Nat) (v : (Int × Int × Int × Unit) × List UInt8 × Unit) : Option (Bool × Unit) := sel (decide (v.2.1.length ≤ 9223372036854775807)) (ocall (α := Bool × Unit) (F169 k ((v.2.1, ()) : List UInt8 × Unit)) fun r => some (Signs.signsOf v.1.2.1 r.1 v.2.1, ())) none
noncomputable def O177 (k : Nat) : Orc := fun R f args K => bif Nat.beq f 177 then (match args with | [.agg [.int .i64 a, .int .i64 b, .int .i64 c], .str s] => ocall (F177 k ((a, b, c, ()), s, ())) fun r => K (.bool r.1) | _ => none) else O169 k R f args K
theorem ok_O177 (k : Nat) : OrcOK (O177 k) (CallOK Tryd.prog) := by
  intro R f args K r h
  unfold O177 at h
  cases hb : Nat.beq f 177 with
  | false => rw [hb] at h; exact ok_O169 k R f args K r h
  | true =>
    rw [hb] at h
    rw [Nat.eq_of_beq_eq_true hb]
    simp only [cond_true] at h
    split at h
    · rename_i a b c s
      obtain ⟨y, hy, h⟩ := obind_some h
      unfold F177 at hy
      by_cases hl : s.length ≤ 9223372036854775807
      · rw [sel_pos hl] at hy
        obtain ⟨d, hd, hy⟩ := obind_some hy
        cases hy
        exact ⟨_, Signs.fn177 a b c s hl d.1 (fn169 k [.str s] ((s, ()) : List UInt8 × Unit) d rfl rfl hd), h⟩
      · rw [sel_neg hl] at hy; cases hy
    · cases h
noncomputable def c117 : Code := Tryd.f117.body.getD .skip
noncomputable def mi117 : Msk := ⟨[(.tmp 0, .val (.int .i64)), (.tmp 1, .val .str)], []⟩
noncomputable def mo117 : Msk := ⟨[(.tmp 4, .val .bool)], []⟩
noncomputable def L117 (k : Nat) : LOrc := fun _ _ _ _ => none
noncomputable def F117 (k : Nat) (v : mi117.den) : Option mo117.den := runF TI (O177 k) (L117 k) c117 mi117 mo117 v
theorem lk117 (k : Nat) : LinksOK Tryd.prog 25 (L117 k) c117 := (And.intro True.intro (And.intro True.intro (And.intro True.intro True.intro)))
theorem fn117 (k : Nat) (args : List AV) (x : mi117.den) (r : mo117.den) (h1 : args.length = mi117.items.length) (h2 : mi117.dec (Th.start args) = some x) (h3 : F117 k x = some r) : CallOK Tryd.prog 117 args (ansOf (outL mo117.items r)) :=
  call_of hm hT (ok_O177 k) (fn := Tryd.f117) (c := c117) Tryd.func117 rfl rfl rfl (lk117 k) rfl (by decide) rfl h1 h2 h3
noncomputable def O117 (k : Nat) : Orc := fun R f args K => bif Nat.beq f 117 then callF mi117 mo117 (F117 k) args K else O177 k R f args K
theorem ok_O117 (k : Nat) : OrcOK (O117 k) (CallOK Tryd.prog) := orc_add (fn117 k) (ok_O177 k)
noncomputable def c245 : Code := Tryd.f245.body.getD .skip
noncomputable def mi245 : Msk := ⟨[(.tmp 0, .val (.st (.cons (.int .i64) (.cons (.int .i64) .nil))))], []⟩
noncomputable def mo245 : Msk := ⟨[(.tmp 2, .val (.int .i64))], []⟩
noncomputable def L245 (k : Nat) : LOrc := fun _ _ _ _ => none
noncomputable def F245 (k : Nat) (v : mi245.den) : Option mo245.den := runF TI (O117 k) (L245 k) c245 mi245 mo245 v
theorem lk245 (k : Nat) : LinksOK Tryd.prog 5 (L245 k) c245 := (And.intro True.intro (And.intro True.intro True.intro))
theorem fn245 (k : Nat) (args : List AV) (x : mi245.den) (r : mo245.den) (h1 : args.length = mi245.items.length) (h2 : mi245.dec (Th.start args) = some x) (h3 : F245 k x = some r) : CallOK Tryd.prog 245 args (ansOf (outL mo245.items r)) :=
  call_of hm hT (ok_O117 k) (fn := Tryd.f245) (c := c245) Tryd.func245 rfl rfl rfl (lk245 k) rfl (by decide) rfl h1 h2 h3
noncomputable def O245 (k : Nat) : Orc := fun R f args K => bif Nat.beq f 245 then callF mi245 mo245 (F245 k) args K else O117 k R f args K
theorem ok_O245 (k : Nat) : OrcOK (O245 k) (CallOK Tryd.prog) := orc_add (fn245 k) (ok_O117 k)
noncomputable def c247 : Code := Tryd.f247.body.getD .skip
noncomputable def mi247 : Msk := ⟨[(.tmp 0, .val (.st (.cons (.int .i64) .nil)))], []⟩
noncomputable def mo247 : Msk := ⟨[(.tmp 2, .val (.int .i64))], []⟩
noncomputable def L247 (k : Nat) : LOrc := fun _ _ _ _ => none
noncomputable def F247 (k : Nat) (v : mi247.den) : Option mo247.den := runF TI (O245 k) (L247 k) c247 mi247 mo247 v
theorem lk247 (k : Nat) : LinksOK Tryd.prog 3 (L247 k) c247 := (And.intro True.intro (And.intro True.intro True.intro))
theorem fn247 (k : Nat) (args : List AV) (x : mi247.den) (r : mo247.den) (h1 : args.length = mi247.items.length) (h2 : mi247.dec (Th.start args) = some x) (h3 : F247 k x = some r) : CallOK Tryd.prog 247 args (ansOf (outL mo247.items r)) :=
  call_of hm hT (ok_O245 k) (fn := Tryd.f247) (c := c247) Tryd.func247 rfl rfl rfl (lk247 k) rfl (by decide) rfl h1 h2 h3
noncomputable def O247 (k : Nat) : Orc := fun R f args K => bif Nat.beq f 247 then callF mi247 mo247 (F247 k) args K else O245 k R f args K
theorem ok_O247 (k : Nat) : OrcOK (O247 k) (CallOK Tryd.prog) := orc_add (fn247 k) (ok_O245 k)
noncomputable def c105 : Code := Tryd.f105.body.getD .skip
noncomputable def mi105 : Msk := ⟨[(.tmp 0, .val (.int .u64)), (.tmp 1, .val (.int .i64))], []⟩
noncomputable def mo105 : Msk := ⟨[(.tmp 4, .val .str), (.tmp 5, .val (.int .i64))], []⟩
noncomputable def L105_5 (k : Nat) : LOrc := fun _ _ _ _ => none
noncomputable def b105_5 : Code := (findLoop 5 c105).getD .skip
noncomputable def m105_5 : Msk := ⟨[(.tmp 0, .val (.int .u64)), (.tmp 6, .row false (.int .u8)), (.tmp 7, .val (.int .i64))], []⟩
noncomputable def x105_5 : List (X × Msk) := [(.exit 0, ⟨[(.tmp 0, .val (.int .u64)), (.tmp 6, .row false (.int .u8))], []⟩)]
noncomputable def F105_5 (k : Nat) : Nat → m105_5.den → Option (denE x105_5)
  | 0, _ => none
  | j + 1, v => round TI (O247 k) (L105_5 k) b105_5 m105_5 x105_5 (F105_5 k j) v
theorem lk105_5_ (k : Nat) : LinksOK Tryd.prog 35 (L105_5 k) b105_5 := (And.intro (And.intro True.intro (And.intro True.intro True.intro)) (And.intro (And.intro True.intro True.intro) True.intro))
noncomputable def L105 (k : Nat) : LOrc := fun R lk s K => match lk with
  | .loop r => bif Nat.beq r 5 then link m105_5 x105_5 (F105_5 k k) s K else none
  | .label l => none
theorem lk_L105_5 (k : Nat) : LoopOK Tryd.prog 35 (L105 k) b105_5 := loopOK_of hm hT (ok_O247 k) (fun _ _ _ h => h) rfl (lk105_5_ k) rfl rfl (F := F105_5 k) (fun _ => rfl) (fun _ _ => rfl) (n := k) fun _ _ _ => rfl
noncomputable def F105 (k : Nat) (v : mi105.den) : Option mo105.den := runF TI (O247 k) (L105 k) c105 mi105 mo105 v
theorem lk105 (k : Nat) : LinksOK Tryd.prog 35 (L105 k) c105 := (And.intro True.intro (And.intro (And.intro True.intro (And.intro (And.intro True.intro True.intro) True.intro)) (And.intro True.intro (And.intro (And.intro True.intro (lk_L105_5 k)) (And.intro (And.intro True.intro (And.intro (And.intro True.intro True.intro) True.intro)) (And.intro True.intro True.intro))))))
theorem fn105 (k : Nat) (args : List AV) (x : mi105.den) (r : mo105.den) (h1 : args.length = mi105.items.length) (h2 : mi105.dec (Th.start args) = some x) (h3 : F105 k x = some r) : CallOK Tryd.prog 105 args (ansOf (outL mo105.items r)) :=
  call_of hm hT (ok_O247 k) (fn := Tryd.f105) (c := c105) Tryd.func105 rfl rfl rfl (lk105 k) rfl (by decide) rfl h1 h2 h3
noncomputable def O105 (k : Nat) : Orc := fun R f args K => bif Nat.beq f 105 then callF mi105 mo105 (F105 k) args K else O247 k R f args K
theorem ok_O105 (k : Nat) : OrcOK (O105 k) (CallOK Tryd.prog) := orc_add (fn105 k) (ok_O247 k)
noncomputable def c139 : Code := Tryd.f139.body.getD .skip
noncomputable def mi139 : Msk := ⟨[(.tmp 0, .val (.int .i64)), (.tmp 1, .val .str)], []⟩
noncomputable def mo139 : Msk := ⟨[(.tmp 4, .row false (.int .u8)), (.tmp 5, .val (.int .i64))], []⟩
noncomputable def L139 (k : Nat) : LOrc := fun _ _ _ _ => none
noncomputable def F139 (k : Nat) (v : mi139.den) : Option mo139.den := runF TI (O105 k) (L139 k) c139 mi139 mo139 v
theorem lk139 (k : Nat) : LinksOK Tryd.prog 42 (L139 k) c139 := (And.intro True.intro (And.intro True.intro (And.intro (And.intro True.intro (And.intro (And.intro True.intro True.intro) (And.intro True.intro (And.intro (And.intro True.intro True.intro) True.intro)))) (And.intro (And.intro True.intro (And.intro True.intro (And.intro (And.intro True.intro True.intro) True.intro))) (And.intro True.intro True.intro)))))
theorem fn139 (k : Nat) (args : List AV) (x : mi139.den) (r : mo139.den) (h1 : args.length = mi139.items.length) (h2 : mi139.dec (Th.start args) = some x) (h3 : F139 k x = some r) : CallOK Tryd.prog 139 args (ansOf (outL mo139.items r)) :=
  call_of hm hT (ok_O105 k) (fn := Tryd.f139) (c := c139) Tryd.func139 rfl rfl rfl (lk139 k) rfl (by decide) rfl h1 h2 h3
noncomputable def O139 (k : Nat) : Orc := fun R f args K => bif Nat.beq f 139 then callF mi139 mo139 (F139 k) args K else O105 k R f args K
theorem ok_O139 (k : Nat) : OrcOK (O139 k) (CallOK Tryd.prog) := orc_add (fn139 k) (ok_O105 k)
noncomputable def c172 : Code := Tryd.f172.body.getD .skip
noncomputable def mi172 : Msk := ⟨[(.tmp 0, .val .str)], []⟩
noncomputable def mo172 : Msk := ⟨[(.tmp 2, .val (.int .u64)), (.tmp 3, .val (.int .i64))], []⟩
noncomputable def L172_9 (k : Nat) : LOrc := fun _ _ _ _ => none
noncomputable def b172_9 : Code := (findLoop 9 c172).getD .skip
noncomputable def m172_9 : Msk := ⟨[(.tmp 4, .val (.int .u64)), (.tmp 19, .row false (.int .u8)), (.tmp 20, .val (.int .i64)), (.tmp 21, .val (.int .i64))], []⟩
noncomputable def x172_9 : List (X × Msk) := [(.exit 1, ⟨[(.tmp 4, .val (.int .u64))], []⟩)]
noncomputable def F172_9 (k : Nat) : Nat → m172_9.den → Option (denE x172_9)
  | 0, _ => none
  | j + 1, v => round TI (O139 k) (L172_9 k) b172_9 m172_9 x172_9 (F172_9 k j) v
theorem lk172_9_ (k : Nat) : LinksOK Tryd.prog 33 (L172_9 k) b172_9 := (And.intro True.intro (And.intro (And.intro True.intro True.intro) (And.intro (And.intro True.intro True.intro) True.intro)))
noncomputable def L172 (k : Nat) : LOrc := fun R lk s K => match lk with
  | .loop r => bif Nat.beq r 9 then link m172_9 x172_9 (F172_9 k k) s K else none
  | .label l => none
theorem lk_L172_9 (k : Nat) : LoopOK Tryd.prog 33 (L172 k) b172_9 := loopOK_of hm hT (ok_O139 k) (fun _ _ _ h => h) rfl (lk172_9_ k) rfl rfl (F := F172_9 k) (fun _ => rfl) (fun _ _ => rfl) (n := k) fun _ _ _ => rfl
noncomputable def F172 (k : Nat) (v : mi172.den) : Option mo172.den := runF TI (O139 k) (L172 k) c172 mi172 mo172 v
theorem lk172 (k : Nat) : LinksOK Tryd.prog 33 (L172 k) c172 := (And.intro True.intro (And.intro (And.intro True.intro (And.intro (And.intro True.intro True.intro) (And.intro True.intro (And.intro (And.intro True.intro True.intro) (And.intro True.intro (And.intro (And.intro True.intro True.intro) True.intro)))))) (And.intro True.intro (And.intro (And.intro True.intro (lk_L172_9 k)) (And.intro True.intro True.intro)))))
theorem fn172 (k : Nat) (args : List AV) (x : mi172.den) (r : mo172.den) (h1 : args.length = mi172.items.length) (h2 : mi172.dec (Th.start args) = some x) (h3 : F172 k x = some r) : CallOK Tryd.prog 172 args (ansOf (outL mo172.items r)) :=
  call_of hm hT (ok_O139 k) (fn := Tryd.f172) (c := c172) Tryd.func172 rfl rfl rfl (lk172 k) rfl (by decide) rfl h1 h2 h3
noncomputable def O172 (k : Nat) : Orc := fun R f args K => bif Nat.beq f 172 then callF mi172 mo172 (F172 k) args K else O139 k R f args K
theorem ok_O172 (k : Nat) : OrcOK (O172 k) (CallOK Tryd.prog) := orc_add (fn172 k) (ok_O139 k)
noncomputable def c195 : Code := Tryd.f195.body.getD .skip
noncomputable def mi195 : Msk := ⟨[(.tmp 0, .val (.st (.cons (.int .i64) (.cons (.int .i64) (.cons (.int .i64) .nil))))), (.tmp 1, .val (.slice (.int .u8)))], []⟩
noncomputable def mo195 : Msk := ⟨[(.tmp 4, .val (.int .i64)), (.tmp 5, .val (.int .i64))], []⟩
noncomputable def L195 (k : Nat) : LOrc := fun _ _ _ _ => none
noncomputable def F195 (k : Nat) (v : mi195.den) : Option mo195.den := runF TI (O172 k) (L195 k) c195 mi195 mo195 v
theorem lk195 (k : Nat) : LinksOK Tryd.prog 41 (L195 k) c195 := (And.intro True.intro (And.intro True.intro (And.intro (And.intro True.intro (And.intro (And.intro True.intro True.intro) True.intro)) (And.intro (And.intro True.intro (And.intro (And.intro True.intro True.intro) True.intro)) (And.intro True.intro (And.intro (And.intro (And.intro True.intro (And.intro True.intro True.intro)) (And.intro (And.intro True.intro True.intro) (And.intro True.intro (And.intro (And.intro True.intro True.intro) True.intro)))) (And.intro True.intro True.intro)))))))
theorem fn195 (k : Nat) (args : List AV) (x : mi195.den) (r : mo195.den) (h1 : args.length = mi195.items.length) (h2 : mi195.dec (Th.start args) = some x) (h3 : F195 k x = some r) : CallOK Tryd.prog 195 args (ansOf (outL mo195.items r)) :=
  call_of hm hT (ok_O172 k) (fn := Tryd.f195) (c := c195) Tryd.func195 rfl rfl rfl (lk195 k) rfl (by decide) rfl h1 h2 h3
noncomputable def O195 (k : Nat) : Orc := fun R f args K => bif Nat.beq f 195 then callF mi195 mo195 (F195 k) args K else O172 k R f args K
theorem ok_O195 (k : Nat) : OrcOK (O195 k) (CallOK Tryd.prog) := orc_add (fn195 k) (ok_O172 k)
noncomputable def c144 : Code := Tryd.f144.body.getD .skip
noncomputable def mi144 : Msk := ⟨[(.tmp 0, .val (.int .i64)), (.tmp 1, .val (.slice (.int .u8)))], []⟩
noncomputable def mo144 : Msk := ⟨[(.tmp 4, .val .str), (.tmp 5, .val (.int .i64)), (.tmp 6, .val (.int .i64))], []⟩
noncomputable def L144 (k : Nat) : LOrc := fun _ _ _ _ => none
noncomputable def F144 (k : Nat) (v : mi144.den) : Option mo144.den := runF TI (O195 k) (L144 k) c144 mi144 mo144 v
theorem lk144 (k : Nat) : LinksOK Tryd.prog 51 (L144 k) c144 := (And.intro True.intro (And.intro True.intro (And.intro (And.intro True.intro (And.intro (And.intro True.intro True.intro) True.intro)) (And.intro True.intro (And.intro (And.intro True.intro (And.intro (And.intro True.intro True.intro) True.intro)) (And.intro True.intro (And.intro True.intro (And.intro (And.intro True.intro (And.intro (And.intro True.intro True.intro) True.intro)) (And.intro True.intro (And.intro (And.intro True.intro (And.intro (And.intro True.intro True.intro) True.intro)) (And.intro True.intro True.intro)))))))))))
theorem fn144 (k : Nat) (args : List AV) (x : mi144.den) (r : mo144.den) (h1 : args.length = mi144.items.length) (h2 : mi144.dec (Th.start args) = some x) (h3 : F144 k x = some r) : CallOK Tryd.prog 144 args (ansOf (outL mo144.items r)) :=
  call_of hm hT (ok_O195 k) (fn := Tryd.f144) (c := c144) Tryd.func144 rfl rfl rfl (lk144 k) rfl (by decide) rfl h1 h2 h3
noncomputable def O144 (k : Nat) : Orc := fun R f args K => bif Nat.beq f 144 then callF mi144 mo144 (F144 k) args K else O195 k R f args K
theorem ok_O144 (k : Nat) : OrcOK (O144 k) (CallOK Tryd.prog) := orc_add (fn144 k) (ok_O195 k)
noncomputable def c42 : Code := Tryd.f42.body.getD .skip
noncomputable def mi42 : Msk := ⟨[(.tmp 0, .val (.int .i64))], []⟩
noncomputable def mo42 : Msk := ⟨[(.tmp 2, .val .bool)], []⟩
noncomputable def L42 (k : Nat) : LOrc := fun _ _ _ _ => none
noncomputable def F42 (k : Nat) (v : mi42.den) : Option mo42.den := runF TI (O144 k) (L42 k) c42 mi42 mo42 v
theorem lk42 (k : Nat) : LinksOK Tryd.prog 9 (L42 k) c42 := (And.intro True.intro (And.intro (And.intro True.intro (And.intro (And.intro True.intro (And.intro True.intro (And.intro True.intro (And.intro True.intro (And.intro True.intro (And.intro True.intro True.intro)))))) (And.intro (And.intro True.intro True.intro) True.intro))) (And.intro True.intro True.intro)))
theorem fn42 (k : Nat) (args : List AV) (x : mi42.den) (r : mo42.den) (h1 : args.length = mi42.items.length) (h2 : mi42.dec (Th.start args) = some x) (h3 : F42 k x = some r) : CallOK Tryd.prog 42 args (ansOf (outL mo42.items r)) :=
  call_of hm hT (ok_O144 k) (fn := Tryd.f42) (c := c42) Tryd.func42 rfl rfl rfl (lk42 k) rfl (by decide) rfl h1 h2 h3
noncomputable def O42 (k : Nat) : Orc := fun R f args K => bif Nat.beq f 42 then callF mi42 mo42 (F42 k) args K else O144 k R f args K
theorem ok_O42 (k : Nat) : OrcOK (O42 k) (CallOK Tryd.prog) := orc_add (fn42 k) (ok_O144 k)
noncomputable def F170 (k : Nat) (v : List UInt8 × Bool × Unit) : Option (Int × Unit) := sel (decide (v.1.length ≤ 9223372036854775807)) (some ((Sum.sumOf (Sum.backs (toBytes v.1)) v.2.1).1, ())) none
noncomputable def O170 (k : Nat) : Orc := fun R f args K => bif Nat.beq f 170 then (match args with | [.str b, .bool t] => ocall (F170 k (b, t, ())) fun r => K (.int .i64 r.1) | _ => none) else O42 k R f args K
theorem ok_O170 (k : Nat) : OrcOK (O170 k) (CallOK Tryd.prog) := by
  intro R f args K r h
  unfold O170 at h
  cases hb : Nat.beq f 170 with
  | false => rw [hb] at h; exact ok_O42 k R f args K r h
  | true =>
    rw [hb] at h
    rw [Nat.eq_of_beq_eq_true hb]
    simp only [cond_true] at h
    split at h
    · rename_i b t
      unfold F170 at h
      by_cases hl : b.length ≤ 9223372036854775807
      · rw [sel_pos hl] at h
        exact ⟨_, Sum.fn170 b hl t, h⟩
      · rw [sel_neg hl] at h; cases h
    · cases h
noncomputable def c107 : Code := Tryd.f107.body.getD .skip
noncomputable def mi107 : Msk := ⟨[(.tmp 0, .val .str)], []⟩
noncomputable def mo107 : Msk := ⟨[(.tmp 2, .val .bool)], []⟩
noncomputable def L107 (k : Nat) : LOrc := fun _ _ _ _ => none
noncomputable def F107 (k : Nat) (v : mi107.den) : Option mo107.den := runF TI (O170 k) (L107 k) c107 mi107 mo107 v
theorem lk107 (k : Nat) : LinksOK Tryd.prog 11 (L107 k) c107 := (And.intro True.intro (And.intro True.intro True.intro))
theorem fn107 (k : Nat) (args : List AV) (x : mi107.den) (r : mo107.den) (h1 : args.length = mi107.items.length) (h2 : mi107.dec (Th.start args) = some x) (h3 : F107 k x = some r) : CallOK Tryd.prog 107 args (ansOf (outL mo107.items r)) :=
  call_of hm hT (ok_O170 k) (fn := Tryd.f107) (c := c107) Tryd.func107 rfl rfl rfl (lk107 k) rfl (by decide) rfl h1 h2 h3
noncomputable def O107 (k : Nat) : Orc := fun R f args K => bif Nat.beq f 107 then callF mi107 mo107 (F107 k) args K else O170 k R f args K
theorem ok_O107 (k : Nat) : OrcOK (O107 k) (CallOK Tryd.prog) := orc_add (fn107 k) (ok_O170 k)
noncomputable def c108 : Code := Tryd.f108.body.getD .skip
noncomputable def mi108 : Msk := ⟨[(.tmp 0, .val (.int .i64))], []⟩
noncomputable def mo108 : Msk := ⟨[(.tmp 2, .val .str)], []⟩
noncomputable def L108 (k : Nat) : LOrc := fun _ _ _ _ => none
noncomputable def F108 (k : Nat) (v : mi108.den) : Option mo108.den := runF TI (O107 k) (L108 k) c108 mi108 mo108 v
theorem lk108 (k : Nat) : LinksOK Tryd.prog 12 (L108 k) c108 := (And.intro True.intro (And.intro (And.intro True.intro (And.intro (And.intro True.intro True.intro) True.intro)) (And.intro True.intro True.intro)))
theorem fn108 (k : Nat) (args : List AV) (x : mi108.den) (r : mo108.den) (h1 : args.length = mi108.items.length) (h2 : mi108.dec (Th.start args) = some x) (h3 : F108 k x = some r) : CallOK Tryd.prog 108 args (ansOf (outL mo108.items r)) :=
  call_of hm hT (ok_O107 k) (fn := Tryd.f108) (c := c108) Tryd.func108 rfl rfl rfl (lk108 k) rfl (by decide) rfl h1 h2 h3
noncomputable def O108 (k : Nat) : Orc := fun R f args K => bif Nat.beq f 108 then callF mi108 mo108 (F108 k) args K else O107 k R f args K
theorem ok_O108 (k : Nat) : OrcOK (O108 k) (CallOK Tryd.prog) := orc_add (fn108 k) (ok_O107 k)
noncomputable def c109 : Code := Tryd.f109.body.getD .skip
noncomputable def mi109 : Msk := ⟨[(.tmp 0, .val (.st (.cons (.int .i64) (.cons .str (.cons (.int .u64) (.cons (.int .u32) (.cons .str (.cons .str .nil))))))))], []⟩
noncomputable def mo109 : Msk := ⟨[(.tmp 2, .row false (.st (.cons (.int .i64) (.cons .str .nil))))], []⟩
noncomputable def L109 (k : Nat) : LOrc := fun _ _ _ _ => none
noncomputable def F109 (k : Nat) (v : mi109.den) : Option mo109.den := runF TI (O108 k) (L109 k) c109 mi109 mo109 v
theorem lk109 (k : Nat) : LinksOK Tryd.prog 57 (L109 k) c109 := (And.intro True.intro (And.intro True.intro (And.intro True.intro (And.intro (And.intro True.intro (And.intro (And.intro True.intro True.intro) True.intro)) (And.intro True.intro (And.intro True.intro (And.intro (And.intro True.intro (And.intro True.intro True.intro)) (And.intro True.intro True.intro))))))))
theorem fn109 (k : Nat) (args : List AV) (x : mi109.den) (r : mo109.den) (h1 : args.length = mi109.items.length) (h2 : mi109.dec (Th.start args) = some x) (h3 : F109 k x = some r) : CallOK Tryd.prog 109 args (ansOf (outL mo109.items r)) :=
  call_of hm hT (ok_O108 k) (fn := Tryd.f109) (c := c109) Tryd.func109 rfl rfl rfl (lk109 k) rfl (by decide) rfl h1 h2 h3
noncomputable def O109 (k : Nat) : Orc := fun R f args K => bif Nat.beq f 109 then callF mi109 mo109 (F109 k) args K else O108 k R f args K
theorem ok_O109 (k : Nat) : OrcOK (O109 k) (CallOK Tryd.prog) := orc_add (fn109 k) (ok_O108 k)
noncomputable def c121 : Code := Tryd.f121.body.getD .skip
noncomputable def mi121 : Msk := ⟨[(.tmp 0, .val .str)], []⟩
noncomputable def mo121 : Msk := ⟨[(.tmp 2, .val .bool)], []⟩
noncomputable def L121 (k : Nat) : LOrc := fun _ _ _ _ => none
noncomputable def F121 (k : Nat) (v : mi121.den) : Option mo121.den := runF TI (O109 k) (L121 k) c121 mi121 mo121 v
theorem lk121 (k : Nat) : LinksOK Tryd.prog 12 (L121 k) c121 := (And.intro True.intro (And.intro (And.intro True.intro (And.intro (And.intro True.intro (And.intro True.intro (And.intro True.intro (And.intro True.intro (And.intro True.intro (And.intro True.intro (And.intro True.intro (And.intro True.intro (And.intro True.intro (And.intro True.intro (And.intro True.intro (And.intro True.intro True.intro)))))))))))) (And.intro (And.intro True.intro True.intro) True.intro))) (And.intro True.intro True.intro)))
theorem fn121 (k : Nat) (args : List AV) (x : mi121.den) (r : mo121.den) (h1 : args.length = mi121.items.length) (h2 : mi121.dec (Th.start args) = some x) (h3 : F121 k x = some r) : CallOK Tryd.prog 121 args (ansOf (outL mo121.items r)) :=
  call_of hm hT (ok_O109 k) (fn := Tryd.f121) (c := c121) Tryd.func121 rfl rfl rfl (lk121 k) rfl (by decide) rfl h1 h2 h3
noncomputable def O121 (k : Nat) : Orc := fun R f args K => bif Nat.beq f 121 then callF mi121 mo121 (F121 k) args K else O109 k R f args K
theorem ok_O121 (k : Nat) : OrcOK (O121 k) (CallOK Tryd.prog) := orc_add (fn121 k) (ok_O109 k)
noncomputable def c44 : Code := Tryd.f44.body.getD .skip
noncomputable def mi44 : Msk := ⟨[(.tmp 0, .val (.st (.cons .str (.cons (.slice (.st (.cons (.int .i64) (.cons .str .nil)))) .nil))))], []⟩
noncomputable def mo44 : Msk := ⟨[(.tmp 2, .val .bool)], []⟩
noncomputable def L44_3 (k : Nat) : LOrc := fun _ _ _ _ => none
noncomputable def b44_3 : Code := (findLoop 3 c44).getD .skip
noncomputable def m44_3 : Msk := ⟨[(.tmp 1, .ptr 1 0), (.tmp 3, .val (.int .i64)), (.tmp 7, .val (.slice (.st (.cons (.int .i64) (.cons .str .nil))))), (.tmp 8, .val (.int .i64)), (.tmp 9, .val (.int .i64)), (.cell 1 0, .val .str), (.cell 1 1, .val (.slice (.st (.cons (.int .i64) (.cons .str .nil)))))], [(1, 2)]⟩
noncomputable def x44_3 : List (X × Msk) := [(.exit 0, ⟨[(.tmp 1, .ptr 1 0), (.cell 1 0, .val .str), (.cell 1 1, .val (.slice (.st (.cons (.int .i64) (.cons .str .nil)))))], [(1, 2)]⟩), (.ret, ⟨[(.tmp 2, .val .bool)], []⟩)]
noncomputable def F44_3 (k : Nat) : Nat → m44_3.den → Option (denE x44_3)
  | 0, _ => none
  | j + 1, v => round TI (O121 k) (L44_3 k) b44_3 m44_3 x44_3 (F44_3 k j) v
theorem lk44_3_ (k : Nat) : LinksOK Tryd.prog 37 (L44_3 k) b44_3 := (And.intro True.intro (And.intro (And.intro True.intro True.intro) (And.intro (And.intro True.intro (And.intro (And.intro True.intro (And.intro (And.intro True.intro True.intro) True.intro)) True.intro)) True.intro)))
noncomputable def L44 (k : Nat) : LOrc := fun R lk s K => match lk with
  | .loop r => bif Nat.beq r 3 then link m44_3 x44_3 (F44_3 k k) s K else none
  | .label l => none
theorem lk_L44_3 (k : Nat) : LoopOK Tryd.prog 37 (L44 k) b44_3 := loopOK_of hm hT (ok_O121 k) (fun _ _ _ h => h) rfl (lk44_3_ k) rfl rfl (F := F44_3 k) (fun _ => rfl) (fun _ _ => rfl) (n := k) fun _ _ _ => rfl
noncomputable def F44 (k : Nat) (v : mi44.den) : Option mo44.den := runF TI (O121 k) (L44 k) c44 mi44 mo44 v
theorem lk44 (k : Nat) : LinksOK Tryd.prog 37 (L44 k) c44 := (And.intro True.intro (And.intro True.intro (And.intro (And.intro True.intro (lk_L44_3 k)) (And.intro True.intro True.intro))))
theorem fn44 (k : Nat) (args : List AV) (x : mi44.den) (r : mo44.den) (h1 : args.length = mi44.items.length) (h2 : mi44.dec (Th.start args) = some x) (h3 : F44 k x = some r) : CallOK Tryd.prog 44 args (ansOf (outL mo44.items r)) :=
  call_of hm hT (ok_O121 k) (fn := Tryd.f44) (c := c44) Tryd.func44 rfl rfl rfl (lk44 k) rfl (by decide) rfl h1 h2 h3
noncomputable def O44 (k : Nat) : Orc := fun R f args K => bif Nat.beq f 44 then callF mi44 mo44 (F44 k) args K else O121 k R f args K
theorem ok_O44 (k : Nat) : OrcOK (O44 k) (CallOK Tryd.prog) := orc_add (fn44 k) (ok_O121 k)
noncomputable def c33 : Code := Tryd.f33.body.getD .skip
noncomputable def mi33 : Msk := ⟨[(.tmp 0, .val (.st (.cons (.int .i64) (.cons .str (.cons (.int .u64) (.cons (.int .u32) (.cons .str (.cons .str .nil))))))))], []⟩
noncomputable def mo33 : Msk := ⟨[(.tmp 2, .val .bool)], []⟩
noncomputable def L33 (k : Nat) : LOrc := fun _ _ _ _ => none
noncomputable def F33 (k : Nat) (v : mi33.den) : Option mo33.den := runF TI (O44 k) (L33 k) c33 mi33 mo33 v
theorem lk33 (k : Nat) : LinksOK Tryd.prog 30 (L33 k) c33 := (And.intro True.intro (And.intro (And.intro True.intro (And.intro (And.intro True.intro (And.intro (And.intro True.intro True.intro) True.intro)) (And.intro True.intro (And.intro (And.intro True.intro True.intro) True.intro)))) (And.intro True.intro True.intro)))
theorem fn33 (k : Nat) (args : List AV) (x : mi33.den) (r : mo33.den) (h1 : args.length = mi33.items.length) (h2 : mi33.dec (Th.start args) = some x) (h3 : F33 k x = some r) : CallOK Tryd.prog 33 args (ansOf (outL mo33.items r)) :=
  call_of hm hT (ok_O44 k) (fn := Tryd.f33) (c := c33) Tryd.func33 rfl rfl rfl (lk33 k) rfl (by decide) rfl h1 h2 h3
noncomputable def O33 (k : Nat) : Orc := fun R f args K => bif Nat.beq f 33 then callF mi33 mo33 (F33 k) args K else O44 k R f args K
theorem ok_O33 (k : Nat) : OrcOK (O33 k) (CallOK Tryd.prog) := orc_add (fn33 k) (ok_O44 k)
noncomputable def c24 : Code := Tryd.f24.body.getD .skip
noncomputable def mi24 : Msk := ⟨[(.tmp 0, .val (.st (.cons (.int .i64) (.cons .str (.cons (.int .u64) (.cons (.int .u32) (.cons .str (.cons .str .nil))))))))], []⟩
noncomputable def mo24 : Msk := ⟨[(.tmp 2, .val .bool)], []⟩
noncomputable def L24 (k : Nat) : LOrc := fun _ _ _ _ => none
noncomputable def F24 (k : Nat) (v : mi24.den) : Option mo24.den := runF TI (O33 k) (L24 k) c24 mi24 mo24 v
theorem lk24 (k : Nat) : LinksOK Tryd.prog 19 (L24 k) c24 := (And.intro True.intro (And.intro True.intro True.intro))
theorem fn24 (k : Nat) (args : List AV) (x : mi24.den) (r : mo24.den) (h1 : args.length = mi24.items.length) (h2 : mi24.dec (Th.start args) = some x) (h3 : F24 k x = some r) : CallOK Tryd.prog 24 args (ansOf (outL mo24.items r)) :=
  call_of hm hT (ok_O33 k) (fn := Tryd.f24) (c := c24) Tryd.func24 rfl rfl rfl (lk24 k) rfl (by decide) rfl h1 h2 h3
noncomputable def O24 (k : Nat) : Orc := fun R f args K => bif Nat.beq f 24 then callF mi24 mo24 (F24 k) args K else O33 k R f args K
theorem ok_O24 (k : Nat) : OrcOK (O24 k) (CallOK Tryd.prog) := orc_add (fn24 k) (ok_O33 k)
noncomputable def c3 : Code := Tryd.f3.body.getD .skip
noncomputable def mi3 : Msk := ⟨[(.tmp 0, .val (.st (.cons (.int .i64) (.cons .str (.cons (.int .u64) (.cons (.int .u32) (.cons .str (.cons .str .nil)))))))), (.tmp 1, .val (.st (.cons (.int .u32) (.cons .str .nil)))), (.tmp 2, .val (.st (.cons (.int .u32) (.cons .str .nil)))), (.tmp 3, .val (.int .i64))], []⟩
noncomputable def mo3 : Msk := ⟨[(.tmp 8, .val .bool)], []⟩
noncomputable def L3 (k : Nat) : LOrc := fun _ _ _ _ => none
noncomputable def F3 (k : Nat) (v : mi3.den) : Option mo3.den := runF TI (O24 k) (L3 k) c3 mi3 mo3 v
theorem lk3 (k : Nat) : LinksOK Tryd.prog 57 (L3 k) c3 := (And.intro True.intro (And.intro (And.intro True.intro (And.intro (And.intro True.intro True.intro) True.intro)) (And.intro (And.intro True.intro (And.intro (And.intro True.intro True.intro) True.intro)) (And.intro True.intro True.intro))))
theorem fn3 (k : Nat) (args : List AV) (x : mi3.den) (r : mo3.den) (h1 : args.length = mi3.items.length) (h2 : mi3.dec (Th.start args) = some x) (h3 : F3 k x = some r) : CallOK Tryd.prog 3 args (ansOf (outL mo3.items r)) :=
  call_of hm hT (ok_O24 k) (fn := Tryd.f3) (c := c3) Tryd.func3 rfl rfl rfl (lk3 k) rfl (by decide) rfl h1 h2 h3
noncomputable def O3 (k : Nat) : Orc := fun R f args K => bif Nat.beq f 3 then callF mi3 mo3 (F3 k) args K else O24 k R f args K
theorem ok_O3 (k : Nat) : OrcOK (O3 k) (CallOK Tryd.prog) := orc_add (fn3 k) (ok_O24 k)
noncomputable def c4 : Code := Tryd.f4.body.getD .skip
noncomputable def mi4 : Msk := ⟨[(.tmp 0, .val (.st (.cons (.int .u32) (.cons .str .nil)))), (.tmp 1, .val (.st (.cons (.int .u32) (.cons .str .nil)))), (.tmp 2, .val (.st (.cons (.int .u32) (.cons .str .nil))))], []⟩
noncomputable def mo4 : Msk := ⟨[(.tmp 6, .val .bool)], []⟩
noncomputable def L4 (k : Nat) : LOrc := fun _ _ _ _ => none
noncomputable def F4 (k : Nat) (v : mi4.den) : Option mo4.den := runF TI (O3 k) (L4 k) c4 mi4 mo4 v
theorem lk4 (k : Nat) : LinksOK Tryd.prog 72 (L4 k) c4 := (And.intro True.intro (And.intro (And.intro True.intro (And.intro (And.intro True.intro True.intro) True.intro)) (And.intro (And.intro True.intro (And.intro (And.intro True.intro True.intro) True.intro)) (And.intro True.intro (And.intro True.intro True.intro)))))
theorem fn4 (k : Nat) (args : List AV) (x : mi4.den) (r : mo4.den) (h1 : args.length = mi4.items.length) (h2 : mi4.dec (Th.start args) = some x) (h3 : F4 k x = some r) : CallOK Tryd.prog 4 args (ansOf (outL mo4.items r)) :=
  call_of hm hT (ok_O3 k) (fn := Tryd.f4) (c := c4) Tryd.func4 rfl rfl rfl (lk4 k) rfl (by decide) rfl h1 h2 h3
noncomputable def O4 (k : Nat) : Orc := fun R f args K => bif Nat.beq f 4 then callF mi4 mo4 (F4 k) args K else O3 k R f args K
theorem ok_O4 (k : Nat) : OrcOK (O4 k) (CallOK Tryd.prog) := orc_add (fn4 k) (ok_O3 k)
noncomputable def c5 : Code := Tryd.f5.body.getD .skip
noncomputable def mi5 : Msk := ⟨[(.tmp 0, .val (.st (.cons (.int .i64) (.cons .str (.cons (.int .u64) (.cons (.int .u32) (.cons .str (.cons .str .nil)))))))), (.tmp 1, .val (.int .u8)), (.tmp 2, .val (.int .u8))], []⟩
noncomputable def mo5 : Msk := ⟨[(.tmp 6, .val .bool)], []⟩
noncomputable def L5 (k : Nat) : LOrc := fun _ _ _ _ => none
noncomputable def F5 (k : Nat) (v : mi5.den) : Option mo5.den := runF TI (O4 k) (L5 k) c5 mi5 mo5 v
theorem lk5 (k : Nat) : LinksOK Tryd.prog 60 (L5 k) c5 := (And.intro True.intro (And.intro (And.intro True.intro (And.intro (And.intro True.intro True.intro) True.intro)) (And.intro (And.intro True.intro (And.intro (And.intro True.intro True.intro) True.intro)) (And.intro True.intro (And.intro True.intro (And.intro True.intro (And.intro True.intro (And.intro True.intro True.intro))))))))
theorem fn5 (k : Nat) (args : List AV) (x : mi5.den) (r : mo5.den) (h1 : args.length = mi5.items.length) (h2 : mi5.dec (Th.start args) = some x) (h3 : F5 k x = some r) : CallOK Tryd.prog 5 args (ansOf (outL mo5.items r)) :=
  call_of hm hT (ok_O4 k) (fn := Tryd.f5) (c := c5) Tryd.func5 rfl rfl rfl (lk5 k) rfl (by decide) rfl h1 h2 h3
noncomputable def O5 (k : Nat) : Orc := fun R f args K => bif Nat.beq f 5 then callF mi5 mo5 (F5 k) args K else O4 k R f args K
theorem ok_O5 (k : Nat) : OrcOK (O5 k) (CallOK Tryd.prog) := orc_add (fn5 k) (ok_O4 k)
noncomputable def c37 : Code := Tryd.f37.body.getD .skip
noncomputable def mi37 : Msk := ⟨[(.tmp 0, .val (.st (.cons (.int .i64) (.cons .str (.cons (.int .u64) (.cons (.int .u32) (.cons .str (.cons .str .nil))))))))], []⟩
noncomputable def mo37 : Msk := ⟨[(.res 2, .val (.st (.cons .str (.cons (.slice (.st (.cons (.int .i64) (.cons .str .nil)))) .nil)))), (.tmp 3, .val (.int .i64))], []⟩
noncomputable def L37 (k : Nat) : LOrc := fun _ _ _ _ => none
noncomputable def F37 (k : Nat) (v : mi37.den) : Option mo37.den := runF TI (O5 k) (L37 k) c37 mi37 mo37 v
theorem lk37 (k : Nat) : LinksOK Tryd.prog 14 (L37 k) c37 := (And.intro True.intro (And.intro (And.intro True.intro (And.intro (And.intro True.intro True.intro) True.intro)) (And.intro True.intro True.intro)))
theorem fn37 (k : Nat) (args : List AV) (x : mi37.den) (r : mo37.den) (h1 : args.length = mi37.items.length) (h2 : mi37.dec (Th.start args) = some x) (h3 : F37 k x = some r) : CallOK Tryd.prog 37 args (ansOf (outL mo37.items r)) :=
  call_of hm hT (ok_O5 k) (fn := Tryd.f37) (c := c37) Tryd.func37 rfl rfl rfl (lk37 k) rfl (by decide) rfl h1 h2 h3
noncomputable def O37 (k : Nat) : Orc := fun R f args K => bif Nat.beq f 37 then callF mi37 mo37 (F37 k) args K else O5 k R f args K
theorem ok_O37 (k : Nat) : OrcOK (O37 k) (CallOK Tryd.prog) := orc_add (fn37 k) (ok_O5 k)
noncomputable def c113 : Code := Tryd.f113.body.getD .skip
noncomputable def mi113 : Msk := ⟨[(.tmp 0, .val .str)], []⟩
noncomputable def mo113 : Msk := ⟨[(.tmp 2, .val (.int .i64))], []⟩
noncomputable def L113_2 (k : Nat) : LOrc := fun _ _ _ _ => none
noncomputable def b113_2 : Code := (findLoop 2 c113).getD .skip
noncomputable def m113_2 : Msk := ⟨[(.tmp 0, .val .str), (.tmp 3, .val (.int .i64))], []⟩
noncomputable def x113_2 : List (X × Msk) := [(.exit 0, ⟨[], []⟩), (.ret, ⟨[(.tmp 2, .val (.int .i64))], []⟩)]
noncomputable def F113_2 (k : Nat) : Nat → m113_2.den → Option (denE x113_2)
  | 0, _ => none
  | j + 1, v => round TI (O37 k) (L113_2 k) b113_2 m113_2 x113_2 (F113_2 k j) v
theorem lk113_2_ (k : Nat) : LinksOK Tryd.prog 13 (L113_2 k) b113_2 := (And.intro (And.intro True.intro (And.intro True.intro True.intro)) (And.intro (And.intro True.intro (And.intro (And.intro True.intro True.intro) True.intro)) True.intro))
noncomputable def L113 (k : Nat) : LOrc := fun R lk s K => match lk with
  | .loop r => bif Nat.beq r 2 then link m113_2 x113_2 (F113_2 k k) s K else none
  | .label l => none
theorem lk_L113_2 (k : Nat) : LoopOK Tryd.prog 13 (L113 k) b113_2 := loopOK_of hm hT (ok_O37 k) (fun _ _ _ h => h) rfl (lk113_2_ k) rfl rfl (F := F113_2 k) (fun _ => rfl) (fun _ _ => rfl) (n := k) fun _ _ _ => rfl
noncomputable def F113 (k : Nat) (v : mi113.den) : Option mo113.den := runF TI (O37 k) (L113 k) c113 mi113 mo113 v
theorem lk113 (k : Nat) : LinksOK Tryd.prog 13 (L113 k) c113 := (And.intro True.intro (And.intro (And.intro True.intro (lk_L113_2 k)) (And.intro True.intro True.intro)))
theorem fn113 (k : Nat) (args : List AV) (x : mi113.den) (r : mo113.den) (h1 : args.length = mi113.items.length) (h2 : mi113.dec (Th.start args) = some x) (h3 : F113 k x = some r) : CallOK Tryd.prog 113 args (ansOf (outL mo113.items r)) :=
  call_of hm hT (ok_O37 k) (fn := Tryd.f113) (c := c113) Tryd.func113 rfl rfl rfl (lk113 k) rfl (by decide) rfl h1 h2 h3
noncomputable def O113 (k : Nat) : Orc := fun R f args K => bif Nat.beq f 113 then callF mi113 mo113 (F113 k) args K else O37 k R f args K
theorem ok_O113 (k : Nat) : OrcOK (O113 k) (CallOK Tryd.prog) := orc_add (fn113 k) (ok_O37 k)
noncomputable def c174 : Code := Tryd.f174.body.getD .skip
noncomputable def mi174 : Msk := ⟨[(.tmp 0, .val (.st (.cons (.int .i64) (.cons .str .nil)))), (.tmp 1, .val (.ref (.cons (.int .i64) .nil)))], []⟩
noncomputable def mo174 : Msk := ⟨[(.tmp 3, .val .bool)], []⟩
noncomputable def L174 (k : Nat) : LOrc := fun _ _ _ _ => none
noncomputable def F174 (k : Nat) (v : mi174.den) : Option mo174.den := runF TI (O113 k) (L174 k) c174 mi174 mo174 v
theorem lk174 (k : Nat) : LinksOK Tryd.prog 8 (L174 k) c174 := (And.intro True.intro (And.intro True.intro True.intro))
theorem fn174 (k : Nat) (args : List AV) (x : mi174.den) (r : mo174.den) (h1 : args.length = mi174.items.length) (h2 : mi174.dec (Th.start args) = some x) (h3 : F174 k x = some r) : CallOK Tryd.prog 174 args (ansOf (outL mo174.items r)) :=
  call_of hm hT (ok_O113 k) (fn := Tryd.f174) (c := c174) Tryd.func174 rfl rfl rfl (lk174 k) rfl (by decide) rfl h1 h2 h3
noncomputable def O174 (k : Nat) : Orc := fun R f args K => bif Nat.beq f 174 then callF mi174 mo174 (F174 k) args K else O113 k R f args K
theorem ok_O174 (k : Nat) : OrcOK (O174 k) (CallOK Tryd.prog) := orc_add (fn174 k) (ok_O113 k)
noncomputable def c7000000 : Code := Tryd.f173.body.getD .skip
noncomputable def mi7000000 : Msk := ⟨[(.tmp 0, .val (.slice (.st (.cons (.int .i64) (.cons .str .nil))))), (.tmp 1, .val (.clo 174 (.cons (.ref (.cons (.int .i64) .nil)) .nil)))], []⟩
noncomputable def mo7000000 : Msk := ⟨[(.tmp 4, .val (.int .i64))], []⟩
noncomputable def L7000000_2 (k : Nat) : LOrc := fun _ _ _ _ => none
noncomputable def b7000000_2 : Code := (findLoop 2 c7000000).getD .skip
noncomputable def m7000000_2 : Msk := ⟨[(.tmp 0, .val (.slice (.st (.cons (.int .i64) (.cons .str .nil))))), (.tmp 1, .val (.clo 174 (.cons (.ref (.cons (.int .i64) .nil)) .nil))), (.tmp 7, .val (.int .i64)), (.tmp 8, .val (.int .i64))], []⟩
noncomputable def x7000000_2 : List (X × Msk) := [(.exit 0, ⟨[], []⟩), (.ret, ⟨[(.tmp 4, .val (.int .i64))], []⟩)]
noncomputable def F7000000_2 (k : Nat) : Nat → m7000000_2.den → Option (denE x7000000_2)
  | 0, _ => none
  | j + 1, v => round TI (O174 k) (L7000000_2 k) b7000000_2 m7000000_2 x7000000_2 (F7000000_2 k j) v
theorem lk7000000_2_ (k : Nat) : LinksOK Tryd.prog 19 (L7000000_2 k) b7000000_2 := (And.intro True.intro (And.intro (And.intro True.intro True.intro) (And.intro (And.intro True.intro (And.intro True.intro (And.intro (And.intro True.intro True.intro) True.intro))) True.intro)))
noncomputable def L7000000 (k : Nat) : LOrc := fun R lk s K => match lk with
  | .loop r => bif Nat.beq r 2 then link m7000000_2 x7000000_2 (F7000000_2 k k) s K else none
  | .label l => none
theorem lk_L7000000_2 (k : Nat) : LoopOK Tryd.prog 19 (L7000000 k) b7000000_2 := loopOK_of hm hT (ok_O174 k) (fun _ _ _ h => h) rfl (lk7000000_2_ k) rfl rfl (F := F7000000_2 k) (fun _ => rfl) (fun _ _ => rfl) (n := k) fun _ _ _ => rfl
noncomputable def F7000000 (k : Nat) (v : mi7000000.den) : Option mo7000000.den := runF TI (O174 k) (L7000000 k) c7000000 mi7000000 mo7000000 v
theorem lk7000000 (k : Nat) : LinksOK Tryd.prog 19 (L7000000 k) c7000000 := (And.intro True.intro (And.intro (And.intro True.intro (lk_L7000000_2 k)) (And.intro True.intro True.intro)))
theorem fn7000000 (k : Nat) (args : List AV) (x : mi7000000.den) (r : mo7000000.den) (h1 : args.length = mi7000000.items.length) (h2 : mi7000000.dec (Th.start args) = some x) (h3 : F7000000 k x = some r) : CallOK Tryd.prog 173 args (ansOf (outL mo7000000.items r)) :=
  call_of hm hT (ok_O174 k) (fn := Tryd.f173) (c := c7000000) Tryd.func173 rfl rfl rfl (lk7000000 k) rfl (by decide) rfl h1 h2 h3
noncomputable def O7000000 (k : Nat) : Orc := fun R f args K => bif (bif Nat.beq f 173 then isClo 1 174 args else false) then callF mi7000000 mo7000000 (F7000000 k) args K else O174 k R f args K
theorem ok_O7000000 (k : Nat) : OrcOK (O7000000 k) (CallOK Tryd.prog) := orc_addP (fn7000000 k) (ok_O174 k)
noncomputable def c115 : Code := Tryd.f115.body.getD .skip
noncomputable def mi115 : Msk := ⟨[(.tmp 0, .val (.st (.cons .str (.cons (.slice (.st (.cons (.int .i64) (.cons .str .nil)))) .nil)))), (.tmp 1, .val (.int .i64))], []⟩
noncomputable def mo115 : Msk := ⟨[(.tmp 4, .val .str), (.tmp 5, .val .bool)], []⟩
noncomputable def L115 (k : Nat) : LOrc := fun _ _ _ _ => none
noncomputable def F115 (k : Nat) (v : mi115.den) : Option mo115.den := runF TI (O7000000 k) (L115 k) c115 mi115 mo115 v
theorem lk115 (k : Nat) : LinksOK Tryd.prog 19 (L115 k) c115 := (And.intro True.intro (And.intro True.intro (And.intro (And.intro True.intro (And.intro (And.intro True.intro True.intro) True.intro)) (And.intro True.intro True.intro))))
theorem fn115 (k : Nat) (args : List AV) (x : mi115.den) (r : mo115.den) (h1 : args.length = mi115.items.length) (h2 : mi115.dec (Th.start args) = some x) (h3 : F115 k x = some r) : CallOK Tryd.prog 115 args (ansOf (outL mo115.items r)) :=
  call_of hm hT (ok_O7000000 k) (fn := Tryd.f115) (c := c115) Tryd.func115 rfl rfl rfl (lk115 k) rfl (by decide) rfl h1 h2 h3
noncomputable def O115 (k : Nat) : Orc := fun R f args K => bif Nat.beq f 115 then callF mi115 mo115 (F115 k) args K else O7000000 k R f args K
theorem ok_O115 (k : Nat) : OrcOK (O115 k) (CallOK Tryd.prog) := orc_add (fn115 k) (ok_O7000000 k)
noncomputable def c114 : Code := Tryd.f114.body.getD .skip
noncomputable def mi114 : Msk := ⟨[(.tmp 0, .val (.st (.cons .str (.cons (.slice (.st (.cons (.int .i64) (.cons .str .nil)))) .nil)))), (.tmp 1, .val (.int .i64))], []⟩
noncomputable def mo114 : Msk := ⟨[(.tmp 4, .val (.int .u64))], []⟩
noncomputable def L114 (k : Nat) : LOrc := fun _ _ _ _ => none
noncomputable def F114 (k : Nat) (v : mi114.den) : Option mo114.den := runF TI (O115 k) (L114 k) c114 mi114 mo114 v
theorem lk114 (k : Nat) : LinksOK Tryd.prog 21 (L114 k) c114 := (And.intro True.intro (And.intro True.intro (And.intro True.intro (And.intro True.intro True.intro))))
theorem fn114 (k : Nat) (args : List AV) (x : mi114.den) (r : mo114.den) (h1 : args.length = mi114.items.length) (h2 : mi114.dec (Th.start args) = some x) (h3 : F114 k x = some r) : CallOK Tryd.prog 114 args (ansOf (outL mo114.items r)) :=
  call_of hm hT (ok_O115 k) (fn := Tryd.f114) (c := c114) Tryd.func114 rfl rfl rfl (lk114 k) rfl (by decide) rfl h1 h2 h3
noncomputable def O114 (k : Nat) : Orc := fun R f args K => bif Nat.beq f 114 then callF mi114 mo114 (F114 k) args K else O115 k R f args K
theorem ok_O114 (k : Nat) : OrcOK (O114 k) (CallOK Tryd.prog) := orc_add (fn114 k) (ok_O115 k)
noncomputable def c116 : Code := Tryd.f116.body.getD .skip
noncomputable def mi116 : Msk := ⟨[(.tmp 0, .val (.st (.cons .str (.cons (.slice (.st (.cons (.int .i64) (.cons .str .nil)))) .nil)))), (.tmp 1, .val (.st (.cons (.int .i64) (.cons .str (.cons (.int .u64) (.cons (.int .u32) (.cons .str (.cons .str .nil))))))))], []⟩
noncomputable def mo116 : Msk := ⟨[(.tmp 4, .val .bool)], []⟩
noncomputable def L116_5 (k : Nat) : LOrc := fun _ _ _ _ => none
noncomputable def b116_5 : Code := (findLoop 5 c116).getD .skip
noncomputable def m116_5 : Msk := ⟨[(.tmp 2, .ptr 2 0), (.tmp 16, .row false (.st (.cons (.int .i64) (.cons .str .nil)))), (.tmp 17, .val (.int .i64)), (.tmp 18, .val (.int .i64)), (.cell 2 0, .val .str), (.cell 2 1, .val (.slice (.st (.cons (.int .i64) (.cons .str .nil)))))], [(2, 2)]⟩
noncomputable def x116_5 : List (X × Msk) := [(.exit 0, ⟨[], []⟩), (.ret, ⟨[(.tmp 4, .val .bool)], []⟩)]
noncomputable def F116_5 (k : Nat) : Nat → m116_5.den → Option (denE x116_5)
  | 0, _ => none
  | j + 1, v => round TI (O114 k) (L116_5 k) b116_5 m116_5 x116_5 (F116_5 k j) v
theorem lk116_5_ (k : Nat) : LinksOK Tryd.prog 33 (L116_5 k) b116_5 := (And.intro True.intro (And.intro (And.intro True.intro True.intro) (And.intro (And.intro True.intro (And.intro True.intro (And.intro (And.intro True.intro True.intro) True.intro))) True.intro)))
noncomputable def L116 (k : Nat) : LOrc := fun R lk s K => match lk with
  | .loop r => bif Nat.beq r 5 then link m116_5 x116_5 (F116_5 k k) s K else none
  | .label l => none
theorem lk_L116_5 (k : Nat) : LoopOK Tryd.prog 33 (L116 k) b116_5 := loopOK_of hm hT (ok_O114 k) (fun _ _ _ h => h) rfl (lk116_5_ k) rfl rfl (F := F116_5 k) (fun _ => rfl) (fun _ _ => rfl) (n := k) fun _ _ _ => rfl
noncomputable def F116 (k : Nat) (v : mi116.den) : Option mo116.den := runF TI (O114 k) (L116 k) c116 mi116 mo116 v
theorem lk116 (k : Nat) : LinksOK Tryd.prog 33 (L116 k) c116 := (And.intro True.intro (And.intro True.intro (And.intro (And.intro True.intro (And.intro (And.intro True.intro True.intro) True.intro)) (And.intro (And.intro True.intro (lk_L116_5 k)) (And.intro True.intro True.intro)))))
theorem fn116 (k : Nat) (args : List AV) (x : mi116.den) (r : mo116.den) (h1 : args.length = mi116.items.length) (h2 : mi116.dec (Th.start args) = some x) (h3 : F116 k x = some r) : CallOK Tryd.prog 116 args (ansOf (outL mo116.items r)) :=
  call_of hm hT (ok_O114 k) (fn := Tryd.f116) (c := c116) Tryd.func116 rfl rfl rfl (lk116 k) rfl (by decide) rfl h1 h2 h3
noncomputable def O116 (k : Nat) : Orc := fun R f args K => bif Nat.beq f 116 then callF mi116 mo116 (F116 k) args K else O114 k R f args K
theorem ok_O116 (k : Nat) : OrcOK (O116 k) (CallOK Tryd.prog) := orc_add (fn116 k) (ok_O114 k)
noncomputable def c40 : Code := Tryd.f40.body.getD .skip
noncomputable def mi40 : Msk := ⟨[(.tmp 0, .val (.st (.cons .str (.cons (.slice (.st (.cons (.int .i64) (.cons .str .nil)))) .nil))))], []⟩
noncomputable def mo40 : Msk := ⟨[(.res 2, .val (.st (.cons (.int .i64) (.cons .str (.cons (.int .u64) (.cons (.int .u32) (.cons .str (.cons .str .nil)))))))), (.tmp 3, .val (.int .i64))], []⟩
noncomputable def L40 (k : Nat) : LOrc := fun _ _ _ _ => none
noncomputable def F40 (k : Nat) (v : mi40.den) : Option mo40.den := runF TI (O116 k) (L40 k) c40 mi40 mo40 v
theorem lk40 (k : Nat) : LinksOK Tryd.prog 84 (L40 k) c40 := (And.intro True.intro (And.intro (And.intro True.intro (And.intro (And.intro True.intro True.intro) True.intro)) (And.intro True.intro (And.intro True.intro (And.intro True.intro (And.intro True.intro (And.intro True.intro (And.intro (And.intro (And.intro True.intro (And.intro True.intro True.intro)) (And.intro (And.intro True.intro True.intro) (And.intro True.intro (And.intro (And.intro True.intro True.intro) (And.intro True.intro (And.intro (And.intro True.intro True.intro) True.intro)))))) (And.intro True.intro True.intro)))))))))
theorem fn40 (k : Nat) (args : List AV) (x : mi40.den) (r : mo40.den) (h1 : args.length = mi40.items.length) (h2 : mi40.dec (Th.start args) = some x) (h3 : F40 k x = some r) : CallOK Tryd.prog 40 args (ansOf (outL mo40.items r)) :=
  call_of hm hT (ok_O116 k) (fn := Tryd.f40) (c := c40) Tryd.func40 rfl rfl rfl (lk40 k) rfl (by decide) rfl h1 h2 h3
noncomputable def O40 (k : Nat) : Orc := fun R f args K => bif Nat.beq f 40 then callF mi40 mo40 (F40 k) args K else O116 k R f args K
theorem ok_O40 (k : Nat) : OrcOK (O40 k) (CallOK Tryd.prog) := orc_add (fn40 k) (ok_O116 k)
noncomputable def c6 : Code := Tryd.f6.body.getD .skip
noncomputable def mi6 : Msk := ⟨[(.tmp 0, .val (.st (.cons (.int .i64) (.cons .str (.cons (.int .u64) (.cons (.int .u32) (.cons .str (.cons .str .nil)))))))), (.tmp 1, .val (.st (.cons .str (.cons (.slice (.st (.cons (.int .i64) (.cons .str .nil)))) .nil)))), (.tmp 2, .val (.int .i64))], []⟩
noncomputable def mo6 : Msk := ⟨[(.tmp 6, .val .bool)], []⟩
noncomputable def L6 (k : Nat) : LOrc := fun _ _ _ _ => none
noncomputable def F6 (k : Nat) (v : mi6.den) : Option mo6.den := runF TI (O40 k) (L6 k) c6 mi6 mo6 v
theorem lk6 (k : Nat) : LinksOK Tryd.prog 88 (L6 k) c6 := (And.intro True.intro (And.intro (And.intro True.intro (And.intro (And.intro True.intro True.intro) True.intro)) (And.intro (And.intro True.intro (And.intro (And.intro True.intro True.intro) True.intro)) (And.intro True.intro (And.intro True.intro (And.intro (And.intro True.intro (And.intro (And.intro True.intro True.intro) True.intro)) (And.intro True.intro (And.intro True.intro (And.intro True.intro True.intro)))))))))
theorem fn6 (k : Nat) (args : List AV) (x : mi6.den) (r : mo6.den) (h1 : args.length = mi6.items.length) (h2 : mi6.dec (Th.start args) = some x) (h3 : F6 k x = some r) : CallOK Tryd.prog 6 args (ansOf (outL mo6.items r)) :=
  call_of hm hT (ok_O40 k) (fn := Tryd.f6) (c := c6) Tryd.func6 rfl rfl rfl (lk6 k) rfl (by decide) rfl h1 h2 h3
noncomputable def O6 (k : Nat) : Orc := fun R f args K => bif Nat.beq f 6 then callF mi6 mo6 (F6 k) args K else O40 k R f args K
theorem ok_O6 (k : Nat) : OrcOK (O6 k) (CallOK Tryd.prog) := orc_add (fn6 k) (ok_O40 k)
noncomputable def c7 : Code := Tryd.f7.body.getD .skip
noncomputable def mi7 : Msk := ⟨[(.tmp 0, .val (.st (.cons (.int .i64) (.cons .str (.cons (.int .u64) (.cons (.int .u32) (.cons .str (.cons .str .nil)))))))), (.tmp 1, .val (.st (.cons (.int .i64) (.cons .str (.cons (.int .u64) (.cons (.int .u32) (.cons .str (.cons .str .nil)))))))), (.tmp 2, .val (.st (.cons .str (.cons (.slice (.st (.cons (.int .i64) (.cons .str .nil)))) .nil))))], []⟩
noncomputable def mo7 : Msk := ⟨[(.tmp 6, .val .bool)], []⟩
noncomputable def L7 (k : Nat) : LOrc := fun _ _ _ _ => none
noncomputable def F7 (k : Nat) (v : mi7.den) : Option mo7.den := runF TI (O6 k) (L7 k) c7 mi7 mo7 v
theorem lk7 (k : Nat) : LinksOK Tryd.prog 100 (L7 k) c7 := (And.intro True.intro (And.intro (And.intro True.intro (And.intro (And.intro True.intro True.intro) True.intro)) (And.intro (And.intro True.intro (And.intro (And.intro True.intro True.intro) True.intro)) (And.intro True.intro (And.intro True.intro (And.intro (And.intro True.intro (And.intro (And.intro True.intro (And.intro True.intro (And.intro (And.intro True.intro True.intro) True.intro))) True.intro)) (And.intro True.intro (And.intro (And.intro True.intro (And.intro (And.intro True.intro True.intro) True.intro)) (And.intro True.intro (And.intro True.intro True.intro))))))))))
theorem fn7 (k : Nat) (args : List AV) (x : mi7.den) (r : mo7.den) (h1 : args.length = mi7.items.length) (h2 : mi7.dec (Th.start args) = some x) (h3 : F7 k x = some r) : CallOK Tryd.prog 7 args (ansOf (outL mo7.items r)) :=
  call_of hm hT (ok_O6 k) (fn := Tryd.f7) (c := c7) Tryd.func7 rfl rfl rfl (lk7 k) rfl (by decide) rfl h1 h2 h3
noncomputable def O7 (k : Nat) : Orc := fun R f args K => bif Nat.beq f 7 then callF mi7 mo7 (F7 k) args K else O6 k R f args K
theorem ok_O7 (k : Nat) : OrcOK (O7 k) (CallOK Tryd.prog) := orc_add (fn7 k) (ok_O6 k)
noncomputable def c8 : Code := Tryd.f8.body.getD .skip
noncomputable def mi8 : Msk := ⟨[(.tmp 0, .val (.st (.cons (.st (.cons (.int .u32) (.cons .str .nil))) (.cons (.int .i64) (.cons .str (.cons (.int .u64) (.cons .str (.cons (.int .i64) (.cons (.int .i64) .nil))))))))), (.tmp 1, .val (.st (.cons (.int .i64) (.cons (.st (.cons (.int .i64) (.cons .str (.cons (.int .u64) (.cons (.int .u32) (.cons .str (.cons .str .nil))))))) .nil)))), (.tmp 2, .val (.int .i64)), (.tmp 3, .val (.int .i64))], []⟩
noncomputable def mo8 : Msk := ⟨[(.tmp 8, .val .bool)], []⟩
noncomputable def L8 (k : Nat) : LOrc := fun _ _ _ _ => none
noncomputable def F8 (k : Nat) (v : mi8.den) : Option mo8.den := runF TI (O7 k) (L8 k) c8 mi8 mo8 v
theorem lk8 (k : Nat) : LinksOK Tryd.prog 84 (L8 k) c8 := (And.intro True.intro (And.intro (And.intro True.intro (And.intro (And.intro True.intro True.intro) True.intro)) (And.intro (And.intro True.intro (And.intro (And.intro True.intro True.intro) True.intro)) (And.intro True.intro (And.intro True.intro (And.intro True.intro (And.intro True.intro True.intro)))))))
theorem fn8 (k : Nat) (args : List AV) (x : mi8.den) (r : mo8.den) (h1 : args.length = mi8.items.length) (h2 : mi8.dec (Th.start args) = some x) (h3 : F8 k x = some r) : CallOK Tryd.prog 8 args (ansOf (outL mo8.items r)) :=
  call_of hm hT (ok_O7 k) (fn := Tryd.f8) (c := c8) Tryd.func8 rfl rfl rfl (lk8 k) rfl (by decide) rfl h1 h2 h3
noncomputable def O8 (k : Nat) : Orc := fun R f args K => bif Nat.beq f 8 then callF mi8 mo8 (F8 k) args K else O7 k R f args K
theorem ok_O8 (k : Nat) : OrcOK (O8 k) (CallOK Tryd.prog) := orc_add (fn8 k) (ok_O7 k)
noncomputable def c9 : Code := Tryd.f9.body.getD .skip
noncomputable def mi9 : Msk := ⟨[(.tmp 0, .val (.st (.cons (.st (.cons (.int .u32) (.cons .str .nil))) (.cons (.int .i64) (.cons .str (.cons (.int .u64) (.cons .str (.cons (.int .i64) (.cons (.int .i64) .nil))))))))), (.tmp 1, .val (.st (.cons (.int .i64) (.cons (.st (.cons (.int .i64) (.cons .str (.cons (.int .u64) (.cons (.int .u32) (.cons .str (.cons .str .nil))))))) .nil)))), (.tmp 2, .val (.int .i64))], []⟩
noncomputable def mo9 : Msk := ⟨[(.tmp 6, .val .bool)], []⟩
noncomputable def L9_12 (k : Nat) : LOrc := fun _ _ _ _ => none
noncomputable def b9_12 : Code := (findLoop 12 c9).getD .skip
noncomputable def m9_12 : Msk := ⟨[(.tmp 3, .ptr 3 0), (.tmp 4, .ptr 4 0), (.tmp 7, .ptr 7 0), (.tmp 10, .val (.int .i64)), (.cell 3 0, .val (.int .u32)), (.cell 3 1, .val .str), (.cell 3 2, .val (.int .i64)), (.cell 3 3, .val .str), (.cell 3 4, .val (.int .u64)), (.cell 3 5, .val .str), (.cell 3 6, .val (.int .i64)), (.cell 3 7, .val (.int .i64)), (.cell 4 0, .val (.int .i64)), (.cell 4 1, .val (.int .i64)), (.cell 4 2, .val .str), (.cell 4 3, .val (.int .u64)), (.cell 4 4, .val (.int .u32)), (.cell 4 5, .val .str), (.cell 4 6, .val .str), (.cell 7 0, .val (.int .u32)), (.cell 7 1, .val .str), (.cell 7 2, .val (.int .i64)), (.cell 7 3, .val .str), (.cell 7 4, .val (.int .u64)), (.cell 7 5, .val .str), (.cell 7 6, .val (.int .i64)), (.cell 7 7, .val (.int .i64)), (.cell 7 8, .val (.slice (.st (.cons (.int .i64) (.cons .str (.cons (.int .u64) (.cons (.int .u32) (.cons .str (.cons .str .nil))))))))), (.cell 7 9, .val (.slice (.st (.cons (.int .i64) (.cons .str (.cons (.int .u64) (.cons (.int .u32) (.cons .str (.cons .str .nil))))))))), (.cell 7 10, .val (.int .i64)), (.cell 7 11, .val .bool)], [(3, 8), (4, 7), (7, 12)]⟩
noncomputable def x9_12 : List (X × Msk) := [(.exit 0, ⟨[(.tmp 3, .ptr 3 0), (.tmp 4, .ptr 4 0), (.tmp 7, .ptr 7 0), (.cell 3 0, .val (.int .u32)), (.cell 3 1, .val .str), (.cell 3 2, .val (.int .i64)), (.cell 3 3, .val .str), (.cell 3 4, .val (.int .u64)), (.cell 3 5, .val .str), (.cell 3 6, .val (.int .i64)), (.cell 3 7, .val (.int .i64)), (.cell 4 0, .val (.int .i64)), (.cell 4 1, .val (.int .i64)), (.cell 4 2, .val .str), (.cell 4 3, .val (.int .u64)), (.cell 4 4, .val (.int .u32)), (.cell 4 5, .val .str), (.cell 4 6, .val .str), (.cell 7 0, .val (.int .u32)), (.cell 7 1, .val .str), (.cell 7 2, .val (.int .i64)), (.cell 7 3, .val .str), (.cell 7 4, .val (.int .u64)), (.cell 7 5, .val .str), (.cell 7 6, .val (.int .i64)), (.cell 7 7, .val (.int .i64)), (.cell 7 8, .val (.slice (.st (.cons (.int .i64) (.cons .str (.cons (.int .u64) (.cons (.int .u32) (.cons .str (.cons .str .nil))))))))), (.cell 7 9, .val (.slice (.st (.cons (.int .i64) (.cons .str (.cons (.int .u64) (.cons (.int .u32) (.cons .str (.cons .str .nil))))))))), (.cell 7 10, .val (.int .i64)), (.cell 7 11, .val .bool)], [(3, 8), (4, 7), (7, 12)]⟩), (.ret, ⟨[(.tmp 6, .val .bool)], []⟩)]
noncomputable def F9_12 (k : Nat) : Nat → m9_12.den → Option (denE x9_12)
  | 0, _ => none
  | j + 1, v => round TI (O8 k) (L9_12 k) b9_12 m9_12 x9_12 (F9_12 k j) v
theorem lk9_12_ (k : Nat) : LinksOK Tryd.prog 222 (L9_12 k) b9_12 := (And.intro (And.intro True.intro (And.intro True.intro True.intro)) (And.intro (And.intro True.intro (And.intro True.intro (And.intro (And.intro True.intro True.intro) True.intro))) True.intro))
noncomputable def L9_18 (k : Nat) : LOrc := fun _ _ _ _ => none
noncomputable def b9_18 : Code := (findLoop 18 c9).getD .skip
noncomputable def m9_18 : Msk := ⟨[(.tmp 3, .ptr 3 0), (.tmp 4, .ptr 4 0), (.tmp 7, .ptr 7 0), (.tmp 12, .val (.int .i64)), (.cell 3 0, .val (.int .u32)), (.cell 3 1, .val .str), (.cell 3 2, .val (.int .i64)), (.cell 3 3, .val .str), (.cell 3 4, .val (.int .u64)), (.cell 3 5, .val .str), (.cell 3 6, .val (.int .i64)), (.cell 3 7, .val (.int .i64)), (.cell 4 0, .val (.int .i64)), (.cell 4 1, .val (.int .i64)), (.cell 4 2, .val .str), (.cell 4 3, .val (.int .u64)), (.cell 4 4, .val (.int .u32)), (.cell 4 5, .val .str), (.cell 4 6, .val .str), (.cell 7 0, .val (.int .u32)), (.cell 7 1, .val .str), (.cell 7 2, .val (.int .i64)), (.cell 7 3, .val .str), (.cell 7 4, .val (.int .u64)), (.cell 7 5, .val .str), (.cell 7 6, .val (.int .i64)), (.cell 7 7, .val (.int .i64)), (.cell 7 8, .val (.slice (.st (.cons (.int .i64) (.cons .str (.cons (.int .u64) (.cons (.int .u32) (.cons .str (.cons .str .nil))))))))), (.cell 7 9, .val (.slice (.st (.cons (.int .i64) (.cons .str (.cons (.int .u64) (.cons (.int .u32) (.cons .str (.cons .str .nil))))))))), (.cell 7 10, .val (.int .i64)), (.cell 7 11, .val .bool)], [(3, 8), (4, 7), (7, 12)]⟩
noncomputable def x9_18 : List (X × Msk) := [(.exit 2, ⟨[(.tmp 3, .ptr 3 0), (.tmp 7, .ptr 7 0), (.cell 3 0, .val (.int .u32)), (.cell 3 1, .val .str), (.cell 3 2, .val (.int .i64)), (.cell 3 3, .val .str), (.cell 3 4, .val (.int .u64)), (.cell 3 5, .val .str), (.cell 3 6, .val (.int .i64)), (.cell 3 7, .val (.int .i64)), (.cell 7 0, .val (.int .u32)), (.cell 7 1, .val .str), (.cell 7 2, .val (.int .i64)), (.cell 7 3, .val .str), (.cell 7 4, .val (.int .u64)), (.cell 7 5, .val .str), (.cell 7 6, .val (.int .i64)), (.cell 7 7, .val (.int .i64)), (.cell 7 8, .val (.slice (.st (.cons (.int .i64) (.cons .str (.cons (.int .u64) (.cons (.int .u32) (.cons .str (.cons .str .nil))))))))), (.cell 7 9, .val (.slice (.st (.cons (.int .i64) (.cons .str (.cons (.int .u64) (.cons (.int .u32) (.cons .str (.cons .str .nil))))))))), (.cell 7 10, .val (.int .i64)), (.cell 7 11, .val .bool)], [(3, 8), (7, 12)]⟩), (.ret, ⟨[(.tmp 6, .val .bool)], []⟩)]
noncomputable def F9_18 (k : Nat) : Nat → m9_18.den → Option (denE x9_18)
  | 0, _ => none
  | j + 1, v => round TI (O8 k) (L9_18 k) b9_18 m9_18 x9_18 (F9_18 k j) v
theorem lk9_18_ (k : Nat) : LinksOK Tryd.prog 222 (L9_18 k) b9_18 := (And.intro (And.intro True.intro (And.intro True.intro True.intro)) (And.intro (And.intro True.intro (And.intro True.intro (And.intro (And.intro True.intro True.intro) True.intro))) True.intro))
noncomputable def L9 (k : Nat) : LOrc := fun R lk s K => match lk with
  | .loop r => bif Nat.beq r 12 then link m9_12 x9_12 (F9_12 k k) s K else bif Nat.beq r 18 then link m9_18 x9_18 (F9_18 k k) s K else none
  | .label l => none
theorem lk_L9_12 (k : Nat) : LoopOK Tryd.prog 222 (L9 k) b9_12 := loopOK_of hm hT (ok_O8 k) (fun _ _ _ h => h) rfl (lk9_12_ k) rfl rfl (F := F9_12 k) (fun _ => rfl) (fun _ _ => rfl) (n := k) fun _ _ _ => rfl
theorem lk_L9_18 (k : Nat) : LoopOK Tryd.prog 222 (L9 k) b9_18 := loopOK_of hm hT (ok_O8 k) (fun _ _ _ h => h) rfl (lk9_18_ k) rfl rfl (F := F9_18 k) (fun _ => rfl) (fun _ _ => rfl) (n := k) fun _ _ _ => rfl
noncomputable def F9 (k : Nat) (v : mi9.den) : Option mo9.den := runF TI (O8 k) (L9 k) c9 mi9 mo9 v
theorem lk9 (k : Nat) : LinksOK Tryd.prog 222 (L9 k) c9 := (And.intro True.intro (And.intro (And.intro True.intro (And.intro (And.intro True.intro True.intro) True.intro)) (And.intro (And.intro True.intro (And.intro (And.intro True.intro True.intro) True.intro)) (And.intro True.intro (And.intro (And.intro True.intro (And.intro (And.intro True.intro True.intro) True.intro)) (And.intro True.intro (And.intro (And.intro True.intro (And.intro (And.intro True.intro True.intro) True.intro)) (And.intro (And.intro True.intro (lk_L9_12 k)) (And.intro (And.intro True.intro (lk_L9_18 k)) (And.intro True.intro True.intro))))))))))
theorem fn9 (k : Nat) (args : List AV) (x : mi9.den) (r : mo9.den) (h1 : args.length = mi9.items.length) (h2 : mi9.dec (Th.start args) = some x) (h3 : F9 k x = some r) : CallOK Tryd.prog 9 args (ansOf (outL mo9.items r)) :=
  call_of hm hT (ok_O8 k) (fn := Tryd.f9) (c := c9) Tryd.func9 rfl rfl rfl (lk9 k) rfl (by decide) rfl h1 h2 h3
noncomputable def O9 (k : Nat) : Orc := fun R f args K => bif Nat.beq f 9 then callF mi9 mo9 (F9 k) args K else O8 k R f args K
theorem ok_O9 (k : Nat) : OrcOK (O9 k) (CallOK Tryd.prog) := orc_add (fn9 k) (ok_O8 k)
noncomputable def c213 : Code := Tryd.f213.body.getD .skip
noncomputable def mi213 : Msk := ⟨[(.tmp 0, .ptr 900 0), (.tmp 1, .val (.int .i64)), (.cell 900 0, .val (.int .u64)), (.cell 900 1, .val (.int .u64))], [(900, 2)]⟩
noncomputable def mo213 : List Msk := [⟨[(.tmp 4, .ptr 900 0), (.tmp 5, .val (.int .u64)), (.cell 900 0, .val (.int .u64)), (.cell 900 1, .val (.int .u64))], [(900, 2)]⟩, ⟨[(.tmp 4, .ptr 900 1), (.tmp 5, .val (.int .u64)), (.cell 900 0, .val (.int .u64)), (.cell 900 1, .val (.int .u64))], [(900, 2)]⟩]
noncomputable def L213 (k : Nat) : LOrc := fun _ _ _ _ => none
noncomputable def F213 (k : Nat) (v : mi213.den) : Option (denA mo213) := runA TI (O9 k) (L213 k) c213 mi213 mo213 v
theorem lk213 (k : Nat) : LinksOK Tryd.prog 21 (L213 k) c213 := (And.intro True.intro (And.intro (And.intro True.intro (And.intro (And.intro True.intro True.intro) True.intro)) (And.intro True.intro True.intro)))
theorem fn213 (k : Nat) (vs cs : List AV) (x : mi213.den) (r : denA mo213) (h1 : vs.length = 2) (h2 : mi213.dec (startL vs cs) = some x) (h3 : F213 k x = some r) : CallOK Tryd.prog 213 (vs ++ [.lent cs]) (valB 2 mo213 r) :=
  call_ofL hm hT (ok_O9 k) (fn := Tryd.f213) (c := c213) Tryd.func213 rfl rfl rfl (lk213 k) rfl (by decide) (by decide) rfl h1 h2 h3
noncomputable def O213 (k : Nat) : Orc := fun R f args K => bif Nat.beq f 213 then callB mi213 2 2 mo213 (F213 k) args K else O9 k R f args K
theorem ok_O213 (k : Nat) : OrcOK (O213 k) (CallOK Tryd.prog) := orc_addL (fn213 k) (ok_O9 k)
noncomputable def c214 : Code := Tryd.f214.body.getD .skip
noncomputable def mi214 : Msk := ⟨[(.tmp 0, .val (.st (.cons (.int .u64) (.cons (.int .u64) .nil)))), (.tmp 1, .val (.int .i64))], []⟩
noncomputable def mo214 : Msk := ⟨[(.tmp 4, .val .bool)], []⟩
noncomputable def L214 (k : Nat) : LOrc := fun _ _ _ _ => none
noncomputable def F214 (k : Nat) (v : mi214.den) : Option mo214.den := runF TI (O213 k) (L214 k) c214 mi214 mo214 v
theorem lk214 (k : Nat) : LinksOK Tryd.prog 18 (L214 k) c214 := (And.intro True.intro (And.intro True.intro (And.intro True.intro True.intro)))
theorem fn214 (k : Nat) (args : List AV) (x : mi214.den) (r : mo214.den) (h1 : args.length = mi214.items.length) (h2 : mi214.dec (Th.start args) = some x) (h3 : F214 k x = some r) : CallOK Tryd.prog 214 args (ansOf (outL mo214.items r)) :=
  call_of hm hT (ok_O213 k) (fn := Tryd.f214) (c := c214) Tryd.func214 rfl rfl rfl (lk214 k) rfl (by decide) rfl h1 h2 h3
noncomputable def O214 (k : Nat) : Orc := fun R f args K => bif Nat.beq f 214 then callF mi214 mo214 (F214 k) args K else O213 k R f args K
theorem ok_O214 (k : Nat) : OrcOK (O214 k) (CallOK Tryd.prog) := orc_add (fn214 k) (ok_O213 k)
noncomputable def c190 : Code := Tryd.f190.body.getD .skip
noncomputable def mi190 : Msk := ⟨[(.tmp 0, .val (.st (.cons (.int .u64) (.cons (.int .u64) .nil))))], []⟩
noncomputable def mo190 : Msk := ⟨[(.tmp 2, .val .bool)], []⟩
noncomputable def L190 (k : Nat) : LOrc := fun _ _ _ _ => none
noncomputable def F190 (k : Nat) (v : mi190.den) : Option mo190.den := runF TI (O214 k) (L190 k) c190 mi190 mo190 v
theorem lk190 (k : Nat) : LinksOK Tryd.prog 14 (L190 k) c190 := (And.intro True.intro (And.intro True.intro True.intro))
theorem fn190 (k : Nat) (args : List AV) (x : mi190.den) (r : mo190.den) (h1 : args.length = mi190.items.length) (h2 : mi190.dec (Th.start args) = some x) (h3 : F190 k x = some r) : CallOK Tryd.prog 190 args (ansOf (outL mo190.items r)) :=
  call_of hm hT (ok_O214 k) (fn := Tryd.f190) (c := c190) Tryd.func190 rfl rfl rfl (lk190 k) rfl (by decide) rfl h1 h2 h3
noncomputable def O190 (k : Nat) : Orc := fun R f args K => bif Nat.beq f 190 then callF mi190 mo190 (F190 k) args K else O214 k R f args K
theorem ok_O190 (k : Nat) : OrcOK (O190 k) (CallOK Tryd.prog) := orc_add (fn190 k) (ok_O214 k)
noncomputable def c212 : Code := Tryd.f212.body.getD .skip
noncomputable def mi212 : Msk := ⟨[(.tmp 0, .val (.int .i64))], []⟩
noncomputable def mo212 : Msk := ⟨[(.tmp 2, .val .bool)], []⟩
noncomputable def L212 (k : Nat) : LOrc := fun _ _ _ _ => none
noncomputable def F212 (k : Nat) (v : mi212.den) : Option mo212.den := runF TI (O190 k) (L212 k) c212 mi212 mo212 v
theorem lk212 (k : Nat) : LinksOK Tryd.prog 13 (L212 k) c212 := (And.intro True.intro (And.intro True.intro True.intro))
theorem fn212 (k : Nat) (args : List AV) (x : mi212.den) (r : mo212.den) (h1 : args.length = mi212.items.length) (h2 : mi212.dec (Th.start args) = some x) (h3 : F212 k x = some r) : CallOK Tryd.prog 212 args (ansOf (outL mo212.items r)) :=
  call_of hm hT (ok_O190 k) (fn := Tryd.f212) (c := c212) Tryd.func212 rfl rfl rfl (lk212 k) rfl (by decide) rfl h1 h2 h3
noncomputable def O212 (k : Nat) : Orc := fun R f args K => bif Nat.beq f 212 then callF mi212 mo212 (F212 k) args K else O190 k R f args K
theorem ok_O212 (k : Nat) : OrcOK (O212 k) (CallOK Tryd.prog) := orc_add (fn212 k) (ok_O190 k)
noncomputable def c189 : Code := Tryd.f189.body.getD .skip
noncomputable def mi189 : Msk := ⟨[(.tmp 0, .val (.st (.cons (.int .u64) (.cons (.int .u64) .nil)))), (.tmp 1, .val (.int .i64))], []⟩
noncomputable def mo189 : Msk := ⟨[(.res 4, .val (.st (.cons (.int .u64) (.cons (.int .u64) .nil)))), (.tmp 5, .val (.int .i64))], []⟩
noncomputable def L189 (k : Nat) : LOrc := fun _ _ _ _ => none
noncomputable def F189 (k : Nat) (v : mi189.den) : Option mo189.den := runF TI (O212 k) (L189 k) c189 mi189 mo189 v
theorem lk189 (k : Nat) : LinksOK Tryd.prog 36 (L189 k) c189 := (And.intro True.intro (And.intro (And.intro True.intro (And.intro (And.intro True.intro True.intro) True.intro)) (And.intro True.intro (And.intro True.intro (And.intro (And.intro True.intro (And.intro True.intro True.intro)) (And.intro True.intro True.intro))))))
theorem fn189 (k : Nat) (args : List AV) (x : mi189.den) (r : mo189.den) (h1 : args.length = mi189.items.length) (h2 : mi189.dec (Th.start args) = some x) (h3 : F189 k x = some r) : CallOK Tryd.prog 189 args (ansOf (outL mo189.items r)) :=
  call_of hm hT (ok_O212 k) (fn := Tryd.f189) (c := c189) Tryd.func189 rfl rfl rfl (lk189 k) rfl (by decide) rfl h1 h2 h3
noncomputable def O189 (k : Nat) : Orc := fun R f args K => bif Nat.beq f 189 then callF mi189 mo189 (F189 k) args K else O212 k R f args K
theorem ok_O189 (k : Nat) : OrcOK (O189 k) (CallOK Tryd.prog) := orc_add (fn189 k) (ok_O212 k)
noncomputable def c140 : Code := Tryd.f140.body.getD .skip
noncomputable def mi140 : Msk := ⟨[(.tmp 0, .val (.slice (.int .i64)))], []⟩
noncomputable def mo140 : Msk := ⟨[(.res 2, .val (.st (.cons (.int .u64) (.cons (.int .u64) .nil)))), (.tmp 3, .val (.int .i64))], []⟩
noncomputable def L140_3 (k : Nat) : LOrc := fun _ _ _ _ => none
noncomputable def b140_3 : Code := (findLoop 3 c140).getD .skip
noncomputable def m140_3 : Msk := ⟨[(.tmp 2, .ptr 2 0), (.tmp 4, .ptr 4 0), (.tmp 9, .val (.slice (.int .i64))), (.tmp 10, .val (.int .i64)), (.tmp 11, .val (.int .i64)), (.cell 2 0, .val (.int .u64)), (.cell 2 1, .val (.int .u64)), (.cell 4 0, .val (.int .u64)), (.cell 4 1, .val (.int .u64))], [(2, 2), (4, 2)]⟩
noncomputable def x140_3 : List (X × Msk) := [(.exit 0, ⟨[(.tmp 2, .ptr 2 0), (.tmp 4, .ptr 4 0), (.cell 2 0, .val (.int .u64)), (.cell 2 1, .val (.int .u64)), (.cell 4 0, .val (.int .u64)), (.cell 4 1, .val (.int .u64))], [(2, 2), (4, 2)]⟩), (.ret, ⟨[(.tmp 2, .ptr 2 0), (.tmp 3, .val (.int .i64)), (.cell 2 0, .val (.int .u64)), (.cell 2 1, .val (.int .u64))], [(2, 2)]⟩)]
noncomputable def F140_3 (k : Nat) : Nat → m140_3.den → Option (denE x140_3)
  | 0, _ => none
  | j + 1, v => round TI (O189 k) (L140_3 k) b140_3 m140_3 x140_3 (F140_3 k j) v
theorem lk140_3_ (k : Nat) : LinksOK Tryd.prog 28 (L140_3 k) b140_3 := (And.intro True.intro (And.intro (And.intro True.intro True.intro) (And.intro (And.intro True.intro (And.intro True.intro (And.intro (And.intro True.intro (And.intro (And.intro True.intro True.intro) True.intro)) True.intro))) True.intro)))
noncomputable def L140 (k : Nat) : LOrc := fun R lk s K => match lk with
  | .loop r => bif Nat.beq r 3 then link m140_3 x140_3 (F140_3 k k) s K else none
  | .label l => none
theorem lk_L140_3 (k : Nat) : LoopOK Tryd.prog 28 (L140 k) b140_3 := loopOK_of hm hT (ok_O189 k) (fun _ _ _ h => h) rfl (lk140_3_ k) rfl rfl (F := F140_3 k) (fun _ => rfl) (fun _ _ => rfl) (n := k) fun _ _ _ => rfl
noncomputable def F140 (k : Nat) (v : mi140.den) : Option mo140.den := runF TI (O189 k) (L140 k) c140 mi140 mo140 v
theorem lk140 (k : Nat) : LinksOK Tryd.prog 28 (L140 k) c140 := (And.intro True.intro (And.intro True.intro (And.intro (And.intro True.intro (lk_L140_3 k)) (And.intro True.intro True.intro))))
theorem fn140 (k : Nat) (args : List AV) (x : mi140.den) (r : mo140.den) (h1 : args.length = mi140.items.length) (h2 : mi140.dec (Th.start args) = some x) (h3 : F140 k x = some r) : CallOK Tryd.prog 140 args (ansOf (outL mo140.items r)) :=
  call_of hm hT (ok_O189 k) (fn := Tryd.f140) (c := c140) Tryd.func140 rfl rfl rfl (lk140 k) rfl (by decide) rfl h1 h2 h3
noncomputable def O140 (k : Nat) : Orc := fun R f args K => bif Nat.beq f 140 then callF mi140 mo140 (F140 k) args K else O189 k R f args K
theorem ok_O140 (k : Nat) : OrcOK (O140 k) (CallOK Tryd.prog) := orc_add (fn140 k) (ok_O189 k)
noncomputable def c191 : Code := Tryd.f191.body.getD .skip
noncomputable def mi191 : Msk := ⟨[(.tmp 0, .row false (.int .u8)), (.tmp 1, .val (.int .u64))], []⟩
noncomputable def mo191 : Msk := ⟨[(.tmp 4, .row false (.int .u8))], []⟩
noncomputable def L191_2 (k : Nat) : LOrc := fun _ _ _ _ => none
noncomputable def b191_2 : Code := (findLoop 2 c191).getD .skip
noncomputable def m191_2 : Msk := ⟨[(.tmp 0, .row false (.int .u8)), (.tmp 1, .val (.int .u64)), (.tmp 6, .val (.int .i64))], []⟩
noncomputable def x191_2 : List (X × Msk) := [(.exit 0, ⟨[(.tmp 0, .row false (.int .u8))], []⟩)]
noncomputable def F191_2 (k : Nat) : Nat → m191_2.den → Option (denE x191_2)
  | 0, _ => none
  | j + 1, v => round TI (O140 k) (L191_2 k) b191_2 m191_2 x191_2 (F191_2 k j) v
theorem lk191_2_ (k : Nat) : LinksOK Tryd.prog 21 (L191_2 k) b191_2 := (And.intro True.intro (And.intro (And.intro True.intro True.intro) (And.intro (And.intro True.intro True.intro) True.intro)))
noncomputable def L191 (k : Nat) : LOrc := fun R lk s K => match lk with
  | .loop r => bif Nat.beq r 2 then link m191_2 x191_2 (F191_2 k k) s K else none
  | .label l => none
theorem lk_L191_2 (k : Nat) : LoopOK Tryd.prog 21 (L191 k) b191_2 := loopOK_of hm hT (ok_O140 k) (fun _ _ _ h => h) rfl (lk191_2_ k) rfl rfl (F := F191_2 k) (fun _ => rfl) (fun _ _ => rfl) (n := k) fun _ _ _ => rfl
noncomputable def F191 (k : Nat) (v : mi191.den) : Option mo191.den := runF TI (O140 k) (L191 k) c191 mi191 mo191 v
theorem lk191 (k : Nat) : LinksOK Tryd.prog 21 (L191 k) c191 := (And.intro True.intro (And.intro (And.intro True.intro (lk_L191_2 k)) (And.intro True.intro True.intro)))
theorem fn191 (k : Nat) (a0 : AV) (rest : List AV) (x : mi191.den) (r : mo191.den) (h1 : (a0 :: rest).length = mi191.items.length) (h2 : mi191.dec (startE a0 rest) = some x) (h3 : F191 k x = some r) : CallOK Tryd.prog 191 (a0 :: rest) (.back (ansOf (outL mo191.items r)) [.lent []]) :=
  call_ofE hm hT (ok_O140 k) (fn := Tryd.f191) (c := c191) Tryd.func191 rfl rfl rfl (lk191 k) rfl (by decide) rfl h1 h2 h3
noncomputable def O191 (k : Nat) : Orc := fun R f args K => bif Nat.beq f 191 then callE mi191 mo191 (F191 k) args K else O140 k R f args K
theorem ok_O191 (k : Nat) : OrcOK (O191 k) (CallOK Tryd.prog) := orc_addE (fn191 k) (ok_O140 k)
noncomputable def c141 : Code := Tryd.f141.body.getD .skip
noncomputable def mi141 : Msk := ⟨[(.tmp 0, .val (.st (.cons (.int .u64) (.cons (.int .u64) .nil))))], []⟩
noncomputable def mo141 : Msk := ⟨[(.tmp 2, .row false (.int .u8)), (.tmp 3, .val (.int .i64))], []⟩
noncomputable def L141 (k : Nat) : LOrc := fun _ _ _ _ => none
noncomputable def F141 (k : Nat) (v : mi141.den) : Option mo141.den := runF TI (O191 k) (L141 k) c141 mi141 mo141 v
theorem lk141 (k : Nat) : LinksOK Tryd.prog 19 (L141 k) c141 := (And.intro True.intro (And.intro (And.intro True.intro (And.intro (And.intro True.intro True.intro) True.intro)) (And.intro True.intro (And.intro (And.intro True.intro (And.intro True.intro True.intro)) (And.intro True.intro True.intro)))))
theorem fn141 (k : Nat) (args : List AV) (x : mi141.den) (r : mo141.den) (h1 : args.length = mi141.items.length) (h2 : mi141.dec (Th.start args) = some x) (h3 : F141 k x = some r) : CallOK Tryd.prog 141 args (ansOf (outL mo141.items r)) :=
  call_of hm hT (ok_O191 k) (fn := Tryd.f141) (c := c141) Tryd.func141 rfl rfl rfl (lk141 k) rfl (by decide) rfl h1 h2 h3
noncomputable def O141 (k : Nat) : Orc := fun R f args K => bif Nat.beq f 141 then callF mi141 mo141 (F141 k) args K else O191 k R f args K
theorem ok_O141 (k : Nat) : OrcOK (O141 k) (CallOK Tryd.prog) := orc_add (fn141 k) (ok_O191 k)
noncomputable def F192 (k : Nat) (v : Int × Unit) : Option (List (Ty.den (.int .u8)) × Unit) := sel (decide (0 ≤ v.1)) (sel (decide (v.1 * 1 ≤ 140737488355328)) (some ([], ())) none) none
noncomputable def O192 (k : Nat) : Orc := fun R f args K => bif Nat.beq f 192 then (match args with | [.nilsl, .int .i64 n] => ocall (F192 k (n, ())) fun r => K (.own (.int .u8) r.1) | _ => none) else O141 k R f args K
theorem ok_O192 (k : Nat) : OrcOK (O192 k) (CallOK Tryd.prog) := by
  intro R f args K r h
  unfold O192 at h
  cases hb : Nat.beq f 192 with
  | false => rw [hb] at h; exact ok_O141 k R f args K r h
  | true =>
    rw [hb] at h
    rw [Nat.eq_of_beq_eq_true hb]
    simp only [cond_true] at h
    split at h
    · rename_i m
      unfold F192 at h
      by_cases h0 : 0 ≤ m
      · rw [sel_pos h0] at h
        by_cases h1 : m * 1 ≤ 140737488355328
        · rw [sel_pos h1] at h
          obtain ⟨ti, d, z, E⟩ := hT.get (t := 5) (i := ⟨.int .u8, 1, 1, (.int .u8), [.int .u8 0], [], [], true, false, [], []⟩) rfl
          exact ⟨_, Grow192.calls E (by decide) m h0 h1 (by omega), h⟩
        · rw [sel_neg h1] at h; cases h
      · rw [sel_neg h0] at h; cases h
    · cases h
noncomputable def c142 : Code := Tryd.f142.body.getD .skip
noncomputable def mi142 : Msk := ⟨[(.tmp 0, .val (.slice (.slice (.int .u8))))], []⟩
noncomputable def mo142 : Msk := ⟨[(.tmp 2, .row false (.int .u8))], []⟩
noncomputable def L142_3 (k : Nat) : LOrc := fun _ _ _ _ => none
noncomputable def b142_3 : Code := (findLoop 3 c142).getD .skip
noncomputable def m142_3 : Msk := ⟨[(.tmp 0, .val (.slice (.slice (.int .u8)))), (.tmp 3, .val (.int .i64)), (.tmp 9, .val (.slice (.slice (.int .u8)))), (.tmp 10, .val (.int .i64)), (.tmp 11, .val (.int .i64))], []⟩
noncomputable def x142_3 : List (X × Msk) := [(.exit 0, ⟨[(.tmp 0, .val (.slice (.slice (.int .u8)))), (.tmp 3, .val (.int .i64))], []⟩)]
noncomputable def F142_3 (k : Nat) : Nat → m142_3.den → Option (denE x142_3)
  | 0, _ => none
  | j + 1, v => round TI (O192 k) (L142_3 k) b142_3 m142_3 x142_3 (F142_3 k j) v
theorem lk142_3_ (k : Nat) : LinksOK Tryd.prog 36 (L142_3 k) b142_3 := (And.intro True.intro (And.intro (And.intro True.intro True.intro) (And.intro (And.intro True.intro (And.intro True.intro (And.intro True.intro (And.intro True.intro True.intro)))) True.intro)))
noncomputable def L142_11 (k : Nat) : LOrc := fun _ _ _ _ => none
noncomputable def b142_11 : Code := (findLoop 11 c142).getD .skip
noncomputable def m142_11 : Msk := ⟨[(.tmp 6, .row false (.int .u8)), (.tmp 25, .val (.slice (.slice (.int .u8)))), (.tmp 26, .val (.int .i64)), (.tmp 27, .val (.int .i64))], []⟩
noncomputable def x142_11 : List (X × Msk) := [(.exit 2, ⟨[(.tmp 6, .row false (.int .u8))], []⟩)]
noncomputable def F142_11 (k : Nat) : Nat → m142_11.den → Option (denE x142_11)
  | 0, _ => none
  | j + 1, v => round TI (O192 k) (L142_11 k) b142_11 m142_11 x142_11 (F142_11 k j) v
theorem lk142_11_ (k : Nat) : LinksOK Tryd.prog 36 (L142_11 k) b142_11 := (And.intro True.intro (And.intro (And.intro True.intro True.intro) (And.intro (And.intro True.intro True.intro) True.intro)))
noncomputable def L142 (k : Nat) : LOrc := fun R lk s K => match lk with
  | .loop r => bif Nat.beq r 3 then link m142_3 x142_3 (F142_3 k k) s K else bif Nat.beq r 11 then link m142_11 x142_11 (F142_11 k k) s K else none
  | .label l => none
theorem lk_L142_3 (k : Nat) : LoopOK Tryd.prog 36 (L142 k) b142_3 := loopOK_of hm hT (ok_O192 k) (fun _ _ _ h => h) rfl (lk142_3_ k) rfl rfl (F := F142_3 k) (fun _ => rfl) (fun _ _ => rfl) (n := k) fun _ _ _ => rfl
theorem lk_L142_11 (k : Nat) : LoopOK Tryd.prog 36 (L142 k) b142_11 := loopOK_of hm hT (ok_O192 k) (fun _ _ _ h => h) rfl (lk142_11_ k) rfl rfl (F := F142_11 k) (fun _ => rfl) (fun _ _ => rfl) (n := k) fun _ _ _ => rfl
noncomputable def F142 (k : Nat) (v : mi142.den) : Option mo142.den := runF TI (O192 k) (L142 k) c142 mi142 mo142 v
theorem lk142 (k : Nat) : LinksOK Tryd.prog 36 (L142 k) c142 := (And.intro True.intro (And.intro True.intro (And.intro (And.intro True.intro (lk_L142_3 k)) (And.intro True.intro (And.intro (And.intro True.intro (lk_L142_11 k)) (And.intro True.intro True.intro))))))
theorem fn142 (k : Nat) (args : List AV) (x : mi142.den) (r : mo142.den) (h1 : args.length = mi142.items.length) (h2 : mi142.dec (Th.start args) = some x) (h3 : F142 k x = some r) : CallOK Tryd.prog 142 args (ansOf (outL mo142.items r)) :=
  call_of hm hT (ok_O192 k) (fn := Tryd.f142) (c := c142) Tryd.func142 rfl rfl rfl (lk142 k) rfl (by decide) rfl h1 h2 h3
noncomputable def O142 (k : Nat) : Orc := fun R f args K => bif Nat.beq f 142 then callF mi142 mo142 (F142 k) args K else O192 k R f args K
theorem ok_O142 (k : Nat) : OrcOK (O142 k) (CallOK Tryd.prog) := orc_add (fn142 k) (ok_O192 k)
noncomputable def c79 : Code := Tryd.f79.body.getD .skip
noncomputable def mi79 : Msk := ⟨[(.tmp 0, .val (.st (.cons .str (.cons (.slice (.st (.cons (.int .i64) (.cons .str .nil)))) .nil))))], []⟩
noncomputable def mo79 : Msk := ⟨[(.tmp 2, .row false (.int .u8)), (.tmp 3, .val (.int .i64))], []⟩
noncomputable def L79_6 (k : Nat) : LOrc := fun _ _ _ _ => none
noncomputable def b79_6 : Code := (findLoop 6 c79).getD .skip
noncomputable def m79_6 : Msk := ⟨[(.tmp 1, .ptr 1 0), (.tmp 4, .row false (.int .i64)), (.tmp 5, .row false (.int .u8)), (.tmp 18, .val (.slice (.st (.cons (.int .i64) (.cons .str .nil))))), (.tmp 19, .val (.int .i64)), (.tmp 20, .val (.int .i64)), (.cell 1 0, .val .str), (.cell 1 1, .val (.slice (.st (.cons (.int .i64) (.cons .str .nil)))))], [(1, 2)]⟩
noncomputable def x79_6 : List (X × Msk) := [(.exit 0, ⟨[(.tmp 1, .ptr 1 0), (.tmp 4, .row false (.int .i64)), (.tmp 5, .row false (.int .u8)), (.cell 1 0, .val .str), (.cell 1 1, .val (.slice (.st (.cons (.int .i64) (.cons .str .nil)))))], [(1, 2)]⟩)]
noncomputable def F79_6 (k : Nat) : Nat → m79_6.den → Option (denE x79_6)
  | 0, _ => none
  | j + 1, v => round TI (O142 k) (L79_6 k) b79_6 m79_6 x79_6 (F79_6 k j) v
theorem lk79_6_ (k : Nat) : LinksOK Tryd.prog 58 (L79_6 k) b79_6 := (And.intro True.intro (And.intro (And.intro True.intro True.intro) (And.intro (And.intro True.intro (And.intro True.intro True.intro)) True.intro)))
noncomputable def L79 (k : Nat) : LOrc := fun R lk s K => match lk with
  | .loop r => bif Nat.beq r 6 then link m79_6 x79_6 (F79_6 k k) s K else none
  | .label l => none
theorem lk_L79_6 (k : Nat) : LoopOK Tryd.prog 58 (L79 k) b79_6 := loopOK_of hm hT (ok_O142 k) (fun _ _ _ h => h) rfl (lk79_6_ k) rfl rfl (F := F79_6 k) (fun _ => rfl) (fun _ _ => rfl) (n := k) fun _ _ _ => rfl
noncomputable def F79 (k : Nat) (v : mi79.den) : Option mo79.den := runF TI (O142 k) (L79 k) c79 mi79 mo79 v
theorem lk79 (k : Nat) : LinksOK Tryd.prog 58 (L79 k) c79 := (And.intro True.intro (And.intro (And.intro True.intro (And.intro (And.intro True.intro True.intro) True.intro)) (And.intro True.intro (And.intro True.intro (And.intro (And.intro True.intro (lk_L79_6 k)) (And.intro True.intro (And.intro True.intro (And.intro True.intro True.intro))))))))
theorem fn79 (k : Nat) (args : List AV) (x : mi79.den) (r : mo79.den) (h1 : args.length = mi79.items.length) (h2 : mi79.dec (Th.start args) = some x) (h3 : F79 k x = some r) : CallOK Tryd.prog 79 args (ansOf (outL mo79.items r)) :=
  call_of hm hT (ok_O142 k) (fn := Tryd.f79) (c := c79) Tryd.func79 rfl rfl rfl (lk79 k) rfl (by decide) rfl h1 h2 h3
noncomputable def O79 (k : Nat) : Orc := fun R f args K => bif Nat.beq f 79 then callF mi79 mo79 (F79 k) args K else O142 k R f args K
theorem ok_O79 (k : Nat) : OrcOK (O79 k) (CallOK Tryd.prog) := orc_add (fn79 k) (ok_O142 k)
noncomputable def c215 : Code := Tryd.f215.body.getD .skip
noncomputable def mi215 : Msk := ⟨[(.tmp 0, .val (.slice (.int .u8)))], []⟩
noncomputable def mo215 : Msk := ⟨[(.tmp 2, .val (.int .u64))], []⟩
noncomputable def L215_3 (k : Nat) : LOrc := fun _ _ _ _ => none
noncomputable def b215_3 : Code := (findLoop 3 c215).getD .skip
noncomputable def m215_3 : Msk := ⟨[(.tmp 3, .val (.int .u64)), (.tmp 7, .val (.slice (.int .u8))), (.tmp 8, .val (.int .i64)), (.tmp 9, .val (.int .i64))], []⟩
noncomputable def x215_3 : List (X × Msk) := [(.exit 0, ⟨[(.tmp 3, .val (.int .u64))], []⟩)]
noncomputable def F215_3 (k : Nat) : Nat → m215_3.den → Option (denE x215_3)
  | 0, _ => none
  | j + 1, v => round TI (O79 k) (L215_3 k) b215_3 m215_3 x215_3 (F215_3 k j) v
theorem lk215_3_ (k : Nat) : LinksOK Tryd.prog 20 (L215_3 k) b215_3 := (And.intro True.intro (And.intro (And.intro True.intro True.intro) (And.intro (And.intro True.intro True.intro) True.intro)))
noncomputable def L215 (k : Nat) : LOrc := fun R lk s K => match lk with
  | .loop r => bif Nat.beq r 3 then link m215_3 x215_3 (F215_3 k k) s K else none
  | .label l => none
theorem lk_L215_3 (k : Nat) : LoopOK Tryd.prog 20 (L215 k) b215_3 := loopOK_of hm hT (ok_O79 k) (fun _ _ _ h => h) rfl (lk215_3_ k) rfl rfl (F := F215_3 k) (fun _ => rfl) (fun _ _ => rfl) (n := k) fun _ _ _ => rfl
noncomputable def F215 (k : Nat) (v : mi215.den) : Option mo215.den := runF TI (O79 k) (L215 k) c215 mi215 mo215 v
theorem lk215 (k : Nat) : LinksOK Tryd.prog 20 (L215 k) c215 := (And.intro True.intro (And.intro True.intro (And.intro (And.intro True.intro (lk_L215_3 k)) (And.intro True.intro True.intro))))
theorem fn215 (k : Nat) (args : List AV) (x : mi215.den) (r : mo215.den) (h1 : args.length = mi215.items.length) (h2 : mi215.dec (Th.start args) = some x) (h3 : F215 k x = some r) : CallOK Tryd.prog 215 args (ansOf (outL mo215.items r)) :=
  call_of hm hT (ok_O79 k) (fn := Tryd.f215) (c := c215) Tryd.func215 rfl rfl rfl (lk215 k) rfl (by decide) rfl h1 h2 h3
noncomputable def O215 (k : Nat) : Orc := fun R f args K => bif Nat.beq f 215 then callF mi215 mo215 (F215 k) args K else O79 k R f args K
theorem ok_O215 (k : Nat) : OrcOK (O215 k) (CallOK Tryd.prog) := orc_add (fn215 k) (ok_O79 k)
noncomputable def c193 : Code := Tryd.f193.body.getD .skip
noncomputable def mi193 : Msk := ⟨[(.tmp 0, .val (.slice (.int .u8)))], []⟩
noncomputable def mo193 : Msk := ⟨[(.res 2, .val (.st (.cons (.int .u64) (.cons (.int .u64) .nil)))), (.tmp 3, .val (.int .i64)), (.tmp 4, .val (.int .i64))], []⟩
noncomputable def L193 (k : Nat) : LOrc := fun _ _ _ _ => none
noncomputable def F193 (k : Nat) (v : mi193.den) : Option mo193.den := runF TI (O215 k) (L193 k) c193 mi193 mo193 v
theorem lk193 (k : Nat) : LinksOK Tryd.prog 30 (L193 k) c193 := (And.intro True.intro (And.intro (And.intro True.intro (And.intro (And.intro True.intro True.intro) True.intro)) (And.intro True.intro (And.intro True.intro (And.intro (And.intro True.intro (And.intro (And.intro (And.intro True.intro (And.intro (And.intro True.intro True.intro) True.intro)) (And.intro True.intro True.intro)) True.intro)) (And.intro (And.intro True.intro (And.intro (And.intro True.intro True.intro) True.intro)) (And.intro True.intro True.intro)))))))
theorem fn193 (k : Nat) (args : List AV) (x : mi193.den) (r : mo193.den) (h1 : args.length = mi193.items.length) (h2 : mi193.dec (Th.start args) = some x) (h3 : F193 k x = some r) : CallOK Tryd.prog 193 args (ansOf (outL mo193.items r)) :=
  call_of hm hT (ok_O215 k) (fn := Tryd.f193) (c := c193) Tryd.func193 rfl rfl rfl (lk193 k) rfl (by decide) rfl h1 h2 h3
noncomputable def O193 (k : Nat) : Orc := fun R f args K => bif Nat.beq f 193 then callF mi193 mo193 (F193 k) args K else O215 k R f args K
theorem ok_O193 (k : Nat) : OrcOK (O193 k) (CallOK Tryd.prog) := orc_add (fn193 k) (ok_O215 k)
noncomputable def c216 : Code := Tryd.f216.body.getD .skip
noncomputable def mi216 : Msk := ⟨[(.tmp 0, .val (.st (.cons (.int .u64) (.cons (.int .u64) .nil)))), (.tmp 1, .val (.int .i64))], []⟩
noncomputable def mo216 : Msk := ⟨[(.tmp 4, .val .bool)], []⟩
noncomputable def L216 (k : Nat) : LOrc := fun _ _ _ _ => none
noncomputable def F216 (k : Nat) (v : mi216.den) : Option mo216.den := runF TI (O193 k) (L216 k) c216 mi216 mo216 v
theorem lk216 (k : Nat) : LinksOK Tryd.prog 12 (L216 k) c216 := (And.intro True.intro (And.intro True.intro True.intro))
theorem fn216 (k : Nat) (args : List AV) (x : mi216.den) (r : mo216.den) (h1 : args.length = mi216.items.length) (h2 : mi216.dec (Th.start args) = some x) (h3 : F216 k x = some r) : CallOK Tryd.prog 216 args (ansOf (outL mo216.items r)) :=
  call_of hm hT (ok_O193 k) (fn := Tryd.f216) (c := c216) Tryd.func216 rfl rfl rfl (lk216 k) rfl (by decide) rfl h1 h2 h3
noncomputable def O216 (k : Nat) : Orc := fun R f args K => bif Nat.beq f 216 then callF mi216 mo216 (F216 k) args K else O193 k R f args K
theorem ok_O216 (k : Nat) : OrcOK (O216 k) (CallOK Tryd.prog) := orc_add (fn216 k) (ok_O193 k)
noncomputable def c194 : Code := Tryd.f194.body.getD .skip
noncomputable def mi194 : Msk := ⟨[(.tmp 0, .val (.st (.cons (.int .u64) (.cons (.int .u64) .nil))))], []⟩
noncomputable def mo194 : Msk := ⟨[(.tmp 2, .row false (.int .i64))], []⟩
noncomputable def L194_g0 (k : Nat) : LOrc := fun _ _ _ _ => none
noncomputable def b194_g0 : Code := (findScope 0 c194).getD .skip
noncomputable def l194_g0 : List (X × Msk) := [(.goto 0, ⟨[(.tmp 1, .ptr 1 0), (.tmp 3, .row false (.int .i64)), (.tmp 4, .val (.int .i64)), (.cell 1 0, .val (.int .u64)), (.cell 1 1, .val (.int .u64))], [(1, 2)]⟩)]
noncomputable def x194_g0 : List (X × Msk) := [(.ret, ⟨[(.tmp 2, .row false (.int .i64))], []⟩)]
noncomputable def F194_g0 (k : Nat) : Nat → denE l194_g0 → Option (denE x194_g0)
  | 0, _ => none
  | j + 1, v => pass TI (O216 k) (L194_g0 k) b194_g0 l194_g0 x194_g0 (F194_g0 k j) v
theorem lk194_g0_ (k : Nat) : LinksOK Tryd.prog 17 (L194_g0 k) b194_g0 := (And.intro True.intro (And.intro True.intro (And.intro True.intro (And.intro (And.intro True.intro (And.intro True.intro True.intro)) (And.intro True.intro (And.intro (And.intro True.intro (And.intro True.intro True.intro)) (And.intro True.intro True.intro)))))))
noncomputable def L194 (k : Nat) : LOrc := fun R lk s K => match lk with
  | .loop r => none
  | .label l => (match findLabel b194_g0 l with | some _ => linkJ l194_g0 x194_g0 (F194_g0 k k) l s K | none => none)
theorem lk_L194_g0 (k : Nat) : JumpsOK Tryd.prog 17 (L194 k) b194_g0 := jumpsOK_of hm hT (ok_O216 k) (fun _ _ _ h => h) rfl (lk194_g0_ k) rfl rfl (F := F194_g0 k) (fun _ => rfl) (fun _ _ => rfl) (n := k) fun R l s K rest hf => by
  show (match findLabel b194_g0 l with | some _ => linkJ l194_g0 x194_g0 (F194_g0 k k) l s K | none => none) = _
  rw [hf]
noncomputable def F194 (k : Nat) (v : mi194.den) : Option mo194.den := runF TI (O216 k) (L194 k) c194 mi194 mo194 v
theorem lk194 (k : Nat) : LinksOK Tryd.prog 17 (L194 k) c194 := (And.intro True.intro (And.intro (lk_L194_g0 k) (And.intro True.intro (And.intro True.intro (And.intro True.intro (And.intro (And.intro True.intro (And.intro True.intro True.intro)) (And.intro True.intro (And.intro (And.intro True.intro (And.intro True.intro True.intro)) (And.intro True.intro True.intro)))))))))
theorem fn194 (k : Nat) (args : List AV) (x : mi194.den) (r : mo194.den) (h1 : args.length = mi194.items.length) (h2 : mi194.dec (Th.start args) = some x) (h3 : F194 k x = some r) : CallOK Tryd.prog 194 args (ansOf (outL mo194.items r)) :=
  call_of hm hT (ok_O216 k) (fn := Tryd.f194) (c := c194) Tryd.func194 rfl rfl rfl (lk194 k) rfl (by decide) rfl h1 h2 h3
noncomputable def O194 (k : Nat) : Orc := fun R f args K => bif Nat.beq f 194 then callF mi194 mo194 (F194 k) args K else O216 k R f args K
theorem ok_O194 (k : Nat) : OrcOK (O194 k) (CallOK Tryd.prog) := orc_add (fn194 k) (ok_O216 k)
noncomputable def c143 : Code := Tryd.f143.body.getD .skip
noncomputable def mi143 : Msk := ⟨[(.tmp 0, .val (.slice (.int .u8)))], []⟩
noncomputable def mo143 : Msk := ⟨[(.tmp 2, .val .str), (.tmp 3, .row false (.int .i64)), (.tmp 4, .val (.slice (.int .u8))), (.tmp 5, .val (.int .i64))], []⟩
noncomputable def L143 (k : Nat) : LOrc := fun _ _ _ _ => none
noncomputable def F143 (k : Nat) (v : mi143.den) : Option mo143.den := runF TI (O194 k) (L143 k) c143 mi143 mo143 v
theorem lk143 (k : Nat) : LinksOK Tryd.prog 36 (L143 k) c143 := (And.intro True.intro (And.intro (And.intro True.intro (And.intro (And.intro True.intro True.intro) (And.intro True.intro (And.intro (And.intro True.intro True.intro) True.intro)))) (And.intro True.intro (And.intro True.intro True.intro))))
theorem fn143 (k : Nat) (args : List AV) (x : mi143.den) (r : mo143.den) (h1 : args.length = mi143.items.length) (h2 : mi143.dec (Th.start args) = some x) (h3 : F143 k x = some r) : CallOK Tryd.prog 143 args (ansOf (outL mo143.items r)) :=
  call_of hm hT (ok_O194 k) (fn := Tryd.f143) (c := c143) Tryd.func143 rfl rfl rfl (lk143 k) rfl (by decide) rfl h1 h2 h3
noncomputable def O143 (k : Nat) : Orc := fun R f args K => bif Nat.beq f 143 then callF mi143 mo143 (F143 k) args K else O194 k R f args K
theorem ok_O143 (k : Nat) : OrcOK (O143 k) (CallOK Tryd.prog) := orc_add (fn143 k) (ok_O194 k)
noncomputable def c80 : Code := Tryd.f80.body.getD .skip
noncomputable def mi80 : Msk := ⟨[(.tmp 0, .val (.slice (.int .u8)))], []⟩
noncomputable def mo80 : Msk := ⟨[(.res 2, .val (.st (.cons .str (.cons (.slice (.st (.cons (.int .i64) (.cons .str .nil)))) .nil)))), (.tmp 3, .val (.int .i64))], []⟩
noncomputable def L80_8 (k : Nat) : LOrc := fun _ _ _ _ => none
noncomputable def b80_8 : Code := (findLoop 8 c80).getD .skip
noncomputable def m80_8 : Msk := ⟨[(.tmp 2, .ptr 2 0), (.tmp 6, .val (.slice (.int .u8))), (.tmp 8, .ptr 8 0), (.tmp 33, .row false (.int .i64)), (.tmp 34, .val (.int .i64)), (.tmp 35, .val (.int .i64)), (.cell 2 0, .val .str), (.cell 2 1, .row false (.st (.cons (.int .i64) (.cons .str .nil)))), (.cell 8 0, .val .str), (.cell 8 1, .row false (.st (.cons (.int .i64) (.cons .str .nil))))], [(2, 2), (8, 2)]⟩
noncomputable def x80_8 : List (X × Msk) := [(.exit 1, ⟨[(.tmp 2, .ptr 2 0), (.tmp 6, .val (.slice (.int .u8))), (.tmp 8, .ptr 8 0), (.cell 2 0, .val .str), (.cell 2 1, .row false (.st (.cons (.int .i64) (.cons .str .nil)))), (.cell 8 0, .val .str), (.cell 8 1, .row false (.st (.cons (.int .i64) (.cons .str .nil))))], [(2, 2), (8, 2)]⟩), (.ret, ⟨[(.tmp 2, .ptr 2 0), (.tmp 3, .val (.int .i64)), (.cell 2 0, .val .str), (.cell 2 1, .row false (.st (.cons (.int .i64) (.cons .str .nil))))], [(2, 2)]⟩)]
noncomputable def F80_8 (k : Nat) : Nat → m80_8.den → Option (denE x80_8)
  | 0, _ => none
  | j + 1, v => round TI (O143 k) (L80_8 k) b80_8 m80_8 x80_8 (F80_8 k j) v
theorem lk80_8_ (k : Nat) : LinksOK Tryd.prog 67 (L80_8 k) b80_8 := (And.intro True.intro (And.intro (And.intro True.intro True.intro) (And.intro (And.intro True.intro (And.intro True.intro (And.intro (And.intro True.intro (And.intro (And.intro True.intro True.intro) True.intro)) True.intro))) True.intro)))
noncomputable def L80 (k : Nat) : LOrc := fun R lk s K => match lk with
  | .loop r => bif Nat.beq r 8 then link m80_8 x80_8 (F80_8 k k) s K else none
  | .label l => none
theorem lk_L80_8 (k : Nat) : LoopOK Tryd.prog 67 (L80 k) b80_8 := loopOK_of hm hT (ok_O143 k) (fun _ _ _ h => h) rfl (lk80_8_ k) rfl rfl (F := F80_8 k) (fun _ => rfl) (fun _ _ => rfl) (n := k) fun _ _ _ => rfl
noncomputable def F80 (k : Nat) (v : mi80.den) : Option mo80.den := runF TI (O143 k) (L80 k) c80 mi80 mo80 v
theorem lk80 (k : Nat) : LinksOK Tryd.prog 67 (L80 k) c80 := (And.intro True.intro (And.intro True.intro (And.intro (And.intro True.intro (And.intro (And.intro True.intro True.intro) (And.intro True.intro (And.intro (And.intro True.intro True.intro) True.intro)))) (And.intro True.intro (And.intro (And.intro True.intro (lk_L80_8 k)) (And.intro (And.intro True.intro (And.intro (And.intro True.intro True.intro) True.intro)) (And.intro True.intro True.intro)))))))
theorem fn80 (k : Nat) (args : List AV) (x : mi80.den) (r : mo80.den) (h1 : args.length = mi80.items.length) (h2 : mi80.dec (Th.start args) = some x) (h3 : F80 k x = some r) : CallOK Tryd.prog 80 args (ansOf (outL mo80.items r)) :=
  call_of hm hT (ok_O143 k) (fn := Tryd.f80) (c := c80) Tryd.func80 rfl rfl rfl (lk80 k) rfl (by decide) rfl h1 h2 h3
noncomputable def O80 (k : Nat) : Orc := fun R f args K => bif Nat.beq f 80 then callF mi80 mo80 (F80 k) args K else O143 k R f args K
theorem ok_O80 (k : Nat) : OrcOK (O80 k) (CallOK Tryd.prog) := orc_add (fn80 k) (ok_O143 k)
noncomputable def c150 : Code := Tryd.f150.body.getD .skip
noncomputable def mi150 : Msk := ⟨[(.tmp 0, .val (.slice (.int .u8)))], []⟩
noncomputable def mo150 : Msk := ⟨[(.tmp 2, .val (.int .i64))], []⟩
noncomputable def L150 (k : Nat) : LOrc := fun _ _ _ _ => none
noncomputable def F150 (k : Nat) (v : mi150.den) : Option mo150.den := runF TI (O80 k) (L150 k) c150 mi150 mo150 v
theorem lk150 (k : Nat) : LinksOK Tryd.prog 30 (L150 k) c150 := (And.intro True.intro (And.intro (And.intro True.intro (And.intro (And.intro True.intro True.intro) True.intro)) (And.intro True.intro (And.intro (And.intro (And.intro True.intro (And.intro True.intro True.intro)) (And.intro (And.intro True.intro True.intro) (And.intro True.intro (And.intro (And.intro True.intro True.intro) True.intro)))) (And.intro True.intro True.intro)))))
theorem fn150 (k : Nat) (args : List AV) (x : mi150.den) (r : mo150.den) (h1 : args.length = mi150.items.length) (h2 : mi150.dec (Th.start args) = some x) (h3 : F150 k x = some r) : CallOK Tryd.prog 150 args (ansOf (outL mo150.items r)) :=
  call_of hm hT (ok_O80 k) (fn := Tryd.f150) (c := c150) Tryd.func150 rfl rfl rfl (lk150 k) rfl (by decide) rfl h1 h2 h3
noncomputable def O150 (k : Nat) : Orc := fun R f args K => bif Nat.beq f 150 then callF mi150 mo150 (F150 k) args K else O80 k R f args K
theorem ok_O150 (k : Nat) : OrcOK (O150 k) (CallOK Tryd.prog) := orc_add (fn150 k) (ok_O80 k)
noncomputable def c87 : Code := Tryd.f87.body.getD .skip
noncomputable def mi87 : Msk := ⟨[(.tmp 0, .val (.st (.cons (.slice (.int .u8)) (.cons .bool .nil))))], []⟩
noncomputable def mo87 : Msk := ⟨[(.tmp 2, .val .bool)], []⟩
noncomputable def L87 (k : Nat) : LOrc := fun _ _ _ _ => none
noncomputable def F87 (k : Nat) (v : mi87.den) : Option mo87.den := runF TI (O150 k) (L87 k) c87 mi87 mo87 v
theorem lk87 (k : Nat) : LinksOK Tryd.prog 13 (L87 k) c87 := (And.intro True.intro (And.intro (And.intro True.intro (And.intro (And.intro True.intro True.intro) True.intro)) (And.intro True.intro True.intro)))
theorem fn87 (k : Nat) (args : List AV) (x : mi87.den) (r : mo87.den) (h1 : args.length = mi87.items.length) (h2 : mi87.dec (Th.start args) = some x) (h3 : F87 k x = some r) : CallOK Tryd.prog 87 args (ansOf (outL mo87.items r)) :=
  call_of hm hT (ok_O150 k) (fn := Tryd.f87) (c := c87) Tryd.func87 rfl rfl rfl (lk87 k) rfl (by decide) rfl h1 h2 h3
noncomputable def O87 (k : Nat) : Orc := fun R f args K => bif Nat.beq f 87 then callF mi87 mo87 (F87 k) args K else O150 k R f args K
theorem ok_O87 (k : Nat) : OrcOK (O87 k) (CallOK Tryd.prog) := orc_add (fn87 k) (ok_O150 k)
noncomputable def c147 : Code := Tryd.f147.body.getD .skip
noncomputable def mo147 : Msk := ⟨[(.tmp 2, .row false (.int .u8))], []⟩
noncomputable def L147 : LOrc := fun _ _ _ _ => none
noncomputable def F147 (k : Nat) (l : List (Ty.den (.int .u8))) : Option mo147.den := run TI (O87 k) L147 c147 (Th.start [.nsl (.int .u8) l]) (endF mo147)
theorem fn147 (k : Nat) (l : List (Ty.den (.int .u8))) (r : mo147.den) (h : F147 k l = some r) : CallOK Tryd.prog 147 [.sl (.int .u8) l] (ansOf (outL mo147.items r)) :=
  call_nil hm hT (ok_O87 k) (fn := Tryd.f147) (c := c147) Tryd.func147 rfl rfl rfl ((And.intro True.intro (And.intro (And.intro True.intro (And.intro (And.intro True.intro True.intro) True.intro)) (And.intro True.intro True.intro))) : LinksOK Tryd.prog 8 L147 c147) (by decide) rfl (fun e => by subst e; exact h) h
noncomputable def O147 (k : Nat) : Orc := fun R f args K => bif Nat.beq f 147 then callN (.int .u8) mo147 (F147 k) args K else O87 k R f args K
theorem ok_O147 (k : Nat) : OrcOK (O147 k) (CallOK Tryd.prog) := orc_addN (fn147 k) (ok_O87 k)
noncomputable def c88 : Code := Tryd.f88.body.getD .skip
noncomputable def mi88 : Msk := ⟨[(.tmp 0, .val (.st (.cons (.slice (.int .u8)) (.cons .bool .nil)))), (.tmp 1, .val (.slice (.int .u8)))], []⟩
noncomputable def mo88 : Msk := ⟨[(.res 4, .val (.st (.cons (.slice (.int .u8)) (.cons .bool .nil)))), (.tmp 5, .row false (.slice (.int .u8))), (.tmp 6, .val (.int .i64))], []⟩
noncomputable def L88_g0 (k : Nat) : LOrc := fun _ _ _ _ => none
noncomputable def b88_g0 : Code := (findScope 0 c88).getD .skip
noncomputable def l88_g0 : List (X × Msk) := [(.goto 0, ⟨[(.tmp 4, .ptr 4 0), (.tmp 7, .val (.slice (.int .u8))), (.tmp 8, .row false (.slice (.int .u8))), (.cell 4 0, .row false (.int .u8)), (.cell 4 1, .val .bool)], [(4, 2)]⟩)]
noncomputable def x88_g0 : List (X × Msk) := [(.ret, ⟨[(.tmp 4, .ptr 4 0), (.tmp 5, .row false (.slice (.int .u8))), (.tmp 6, .val (.int .i64)), (.cell 4 0, .val (.slice (.int .u8))), (.cell 4 1, .val .bool)], [(4, 2)]⟩)]
noncomputable def F88_g0 (k : Nat) : Nat → denE l88_g0 → Option (denE x88_g0)
  | 0, _ => none
  | j + 1, v => pass TI (O147 k) (L88_g0 k) b88_g0 l88_g0 x88_g0 (F88_g0 k j) v
theorem lk88_g0_ (k : Nat) : LinksOK Tryd.prog 46 (L88_g0 k) b88_g0 := (And.intro (And.intro True.intro (And.intro (And.intro True.intro True.intro) (And.intro True.intro (And.intro (And.intro True.intro True.intro) True.intro)))) (And.intro True.intro (And.intro True.intro (And.intro True.intro (And.intro True.intro (And.intro (And.intro True.intro (And.intro (And.intro True.intro (And.intro True.intro True.intro)) True.intro)) (And.intro (And.intro True.intro (And.intro (And.intro True.intro True.intro) True.intro)) (And.intro True.intro True.intro))))))))
noncomputable def L88 (k : Nat) : LOrc := fun R lk s K => match lk with
  | .loop r => none
  | .label l => (match findLabel b88_g0 l with | some _ => linkJ l88_g0 x88_g0 (F88_g0 k k) l s K | none => none)
theorem lk_L88_g0 (k : Nat) : JumpsOK Tryd.prog 46 (L88 k) b88_g0 := jumpsOK_of hm hT (ok_O147 k) (fun _ _ _ h => h) rfl (lk88_g0_ k) rfl rfl (F := F88_g0 k) (fun _ => rfl) (fun _ _ => rfl) (n := k) fun R l s K rest hf => by
  show (match findLabel b88_g0 l with | some _ => linkJ l88_g0 x88_g0 (F88_g0 k k) l s K | none => none) = _
  rw [hf]
noncomputable def F88 (k : Nat) (v : mi88.den) : Option mo88.den := runF TI (O147 k) (L88 k) c88 mi88 mo88 v
theorem lk88 (k : Nat) : LinksOK Tryd.prog 46 (L88 k) c88 := (And.intro True.intro (And.intro (lk_L88_g0 k) (And.intro (And.intro True.intro (And.intro (And.intro True.intro True.intro) (And.intro True.intro (And.intro (And.intro True.intro True.intro) True.intro)))) (And.intro True.intro (And.intro True.intro (And.intro True.intro (And.intro True.intro (And.intro (And.intro True.intro (And.intro (And.intro True.intro (And.intro True.intro True.intro)) True.intro)) (And.intro (And.intro True.intro (And.intro (And.intro True.intro True.intro) True.intro)) (And.intro True.intro True.intro))))))))))
theorem fn88 (k : Nat) (args : List AV) (x : mi88.den) (r : mo88.den) (h1 : args.length = mi88.items.length) (h2 : mi88.dec (Th.start args) = some x) (h3 : F88 k x = some r) : CallOK Tryd.prog 88 args (ansOf (outL mo88.items r)) :=
  call_of hm hT (ok_O147 k) (fn := Tryd.f88) (c := c88) Tryd.func88 rfl rfl rfl (lk88 k) rfl (by decide) rfl h1 h2 h3
noncomputable def O88 (k : Nat) : Orc := fun R f args K => bif Nat.beq f 88 then callF mi88 mo88 (F88 k) args K else O147 k R f args K
theorem ok_O88 (k : Nat) : OrcOK (O88 k) (CallOK Tryd.prog) := orc_add (fn88 k) (ok_O147 k)
noncomputable def F151 (k : Nat) (v : List Int × Unit) : Option (List Int × Int × Unit) := FrameP.putS v.1
noncomputable def O151 (k : Nat) : Orc := fun R f args K => bif Nat.beq f 151 then (match args with | [.sl (.int .u8) b] => ocall (F151 k (b, ())) fun r => K (.tup [.sl (.int .u8) r.1, .int .i64 r.2.1]) | [.nilsl] => ocall (F151 k ([], ())) fun r => K (.tup [.sl (.int .u8) r.1, .int .i64 r.2.1]) | _ => none) else O88 k R f args K
theorem ok_O151 (k : Nat) : OrcOK (O151 k) (CallOK Tryd.prog) := by
  intro R f args K r h
  unfold O151 at h
  cases hb : Nat.beq f 151 with
  | false => rw [hb] at h; exact ok_O88 k R f args K r h
  | true =>
    rw [hb] at h
    rw [Nat.eq_of_beq_eq_true hb]
    simp only [cond_true] at h
    split at h
    · rename_i b
      unfold F151 at h
      rw [FrameP.putS_eq] at h
      exact ⟨_, FrameP.calls b _ (.inl rfl), h⟩
    · unfold F151 at h
      rw [FrameP.putS_eq] at h
      exact ⟨_, FrameP.calls [] _ (.inr ⟨rfl, rfl⟩), h⟩
    · cases h
noncomputable def c92 : Code := Tryd.f92.body.getD .skip
noncomputable def mi92 : Msk := ⟨[(.tmp 0, .val (.st (.cons (.int .i64) (.cons .str (.cons (.int .u64) (.cons (.int .u32) (.cons .str (.cons .str .nil))))))))], []⟩
noncomputable def mo92 : Msk := ⟨[(.tmp 2, .val (.slice (.int .u8))), (.tmp 3, .val (.int .i64))], []⟩
noncomputable def L92 (k : Nat) : LOrc := fun _ _ _ _ => none
noncomputable def F92 (k : Nat) (v : mi92.den) : Option mo92.den := runF TI (O151 k) (L92 k) c92 mi92 mo92 v
theorem lk92 (k : Nat) : LinksOK Tryd.prog 25 (L92 k) c92 := (And.intro True.intro (And.intro True.intro (And.intro (And.intro True.intro (And.intro (And.intro True.intro True.intro) True.intro)) (And.intro True.intro (And.intro True.intro True.intro)))))
theorem fn92 (k : Nat) (args : List AV) (x : mi92.den) (r : mo92.den) (h1 : args.length = mi92.items.length) (h2 : mi92.dec (Th.start args) = some x) (h3 : F92 k x = some r) : CallOK Tryd.prog 92 args (ansOf (outL mo92.items r)) :=
  call_of hm hT (ok_O151 k) (fn := Tryd.f92) (c := c92) Tryd.func92 rfl rfl rfl (lk92 k) rfl (by decide) rfl h1 h2 h3
noncomputable def O92 (k : Nat) : Orc := fun R f args K => bif Nat.beq f 92 then callF mi92 mo92 (F92 k) args K else O151 k R f args K
theorem ok_O92 (k : Nat) : OrcOK (O92 k) (CallOK Tryd.prog) := orc_add (fn92 k) (ok_O151 k)
noncomputable def c93 : Code := Tryd.f93.body.getD .skip
noncomputable def mi93 : Msk := ⟨[(.tmp 0, .val (.slice (.int .u8)))], []⟩
noncomputable def mo93 : Msk := ⟨[(.res 2, .val (.st (.cons (.int .i64) (.cons .str (.cons (.int .u64) (.cons (.int .u32) (.cons .str (.cons .str .nil)))))))), (.tmp 3, .val (.int .i64))], []⟩
noncomputable def L93 (k : Nat) : LOrc := fun _ _ _ _ => none
noncomputable def F93 (k : Nat) (v : mi93.den) : Option mo93.den := runF TI (O92 k) (L93 k) c93 mi93 mo93 v
theorem lk93 (k : Nat) : LinksOK Tryd.prog 44 (L93 k) c93 := (And.intro True.intro (And.intro True.intro (And.intro (And.intro True.intro (And.intro (And.intro True.intro True.intro) True.intro)) (And.intro True.intro (And.intro (And.intro True.intro (And.intro (And.intro True.intro True.intro) True.intro)) (And.intro True.intro True.intro))))))
theorem fn93 (k : Nat) (args : List AV) (x : mi93.den) (r : mo93.den) (h1 : args.length = mi93.items.length) (h2 : mi93.dec (Th.start args) = some x) (h3 : F93 k x = some r) : CallOK Tryd.prog 93 args (ansOf (outL mo93.items r)) :=
  call_of hm hT (ok_O92 k) (fn := Tryd.f93) (c := c93) Tryd.func93 rfl rfl rfl (lk93 k) rfl (by decide) rfl h1 h2 h3
noncomputable def O93 (k : Nat) : Orc := fun R f args K => bif Nat.beq f 93 then callF mi93 mo93 (F93 k) args K else O92 k R f args K
theorem ok_O93 (k : Nat) : OrcOK (O93 k) (CallOK Tryd.prog) := orc_add (fn93 k) (ok_O92 k)
noncomputable def c153 : Code := Tryd.f153.body.getD .skip
noncomputable def mi153 : Msk := ⟨[(.tmp 0, .val (.st (.cons (.int .i64) (.cons (.slice (.slice (.int .u8))) .nil))))], []⟩
noncomputable def mo153 : Msk := ⟨[(.tmp 2, .val .bool)], []⟩
noncomputable def L153 (k : Nat) : LOrc := fun _ _ _ _ => none
noncomputable def F153 (k : Nat) (v : mi153.den) : Option mo153.den := runF TI (O93 k) (L153 k) c153 mi153 mo153 v
theorem lk153 (k : Nat) : LinksOK Tryd.prog 19 (L153 k) c153 := (And.intro True.intro (And.intro True.intro True.intro))
theorem fn153 (k : Nat) (args : List AV) (x : mi153.den) (r : mo153.den) (h1 : args.length = mi153.items.length) (h2 : mi153.dec (Th.start args) = some x) (h3 : F153 k x = some r) : CallOK Tryd.prog 153 args (ansOf (outL mo153.items r)) :=
  call_of hm hT (ok_O93 k) (fn := Tryd.f153) (c := c153) Tryd.func153 rfl rfl rfl (lk153 k) rfl (by decide) rfl h1 h2 h3
noncomputable def O153 (k : Nat) : Orc := fun R f args K => bif Nat.beq f 153 then callF mi153 mo153 (F153 k) args K else O93 k R f args K
theorem ok_O153 (k : Nat) : OrcOK (O153 k) (CallOK Tryd.prog) := orc_add (fn153 k) (ok_O93 k)
noncomputable def c200 : Code := Tryd.f200.body.getD .skip
noncomputable def mi200 : Msk := ⟨[(.tmp 0, .val (.st (.cons (.int .i64) (.cons (.slice (.slice (.int .u8))) .nil))))], []⟩
noncomputable def mo200 : Msk := ⟨[(.tmp 2, .val (.int .i64))], []⟩
noncomputable def L200 (k : Nat) : LOrc := fun _ _ _ _ => none
noncomputable def F200 (k : Nat) (v : mi200.den) : Option mo200.den := runF TI (O153 k) (L200 k) c200 mi200 mo200 v
theorem lk200 (k : Nat) : LinksOK Tryd.prog 12 (L200 k) c200 := (And.intro True.intro (And.intro (And.intro True.intro (And.intro (And.intro True.intro True.intro) True.intro)) (And.intro True.intro True.intro)))
theorem fn200 (k : Nat) (args : List AV) (x : mi200.den) (r : mo200.den) (h1 : args.length = mi200.items.length) (h2 : mi200.dec (Th.start args) = some x) (h3 : F200 k x = some r) : CallOK Tryd.prog 200 args (ansOf (outL mo200.items r)) :=
  call_of hm hT (ok_O153 k) (fn := Tryd.f200) (c := c200) Tryd.func200 rfl rfl rfl (lk200 k) rfl (by decide) rfl h1 h2 h3
noncomputable def O200 (k : Nat) : Orc := fun R f args K => bif Nat.beq f 200 then callF mi200 mo200 (F200 k) args K else O153 k R f args K
theorem ok_O200 (k : Nat) : OrcOK (O200 k) (CallOK Tryd.prog) := orc_add (fn200 k) (ok_O153 k)
noncomputable def c154 : Code := Tryd.f154.body.getD .skip
noncomputable def mo154 : Msk := ⟨[(.tmp 2, .row false (.slice (.int .u8)))], []⟩
noncomputable def L154 : LOrc := fun _ _ _ _ => none
noncomputable def F154 (k : Nat) (l : List (Ty.den (.slice (.int .u8)))) : Option mo154.den := run TI (O200 k) L154 c154 (Th.start [.nsl (.slice (.int .u8)) l]) (endF mo154)
theorem fn154 (k : Nat) (l : List (Ty.den (.slice (.int .u8)))) (r : mo154.den) (h : F154 k l = some r) : CallOK Tryd.prog 154 [.sl (.slice (.int .u8)) l] (ansOf (outL mo154.items r)) :=
  call_nil hm hT (ok_O200 k) (fn := Tryd.f154) (c := c154) Tryd.func154 rfl rfl rfl ((And.intro True.intro (And.intro (And.intro True.intro (And.intro (And.intro True.intro True.intro) True.intro)) (And.intro True.intro True.intro))) : LinksOK Tryd.prog 8 L154 c154) (by decide) rfl (fun e => by subst e; exact h) h
noncomputable def O154 (k : Nat) : Orc := fun R f args K => bif Nat.beq f 154 then callN (.slice (.int .u8)) mo154 (F154 k) args K else O200 k R f args K
theorem ok_O154 (k : Nat) : OrcOK (O154 k) (CallOK Tryd.prog) := orc_addN (fn154 k) (ok_O200 k)
noncomputable def c152 : Code := Tryd.f152.body.getD .skip
noncomputable def mi152 : Msk := ⟨[(.tmp 0, .val (.st (.cons (.int .i64) (.cons (.slice (.slice (.int .u8))) .nil)))), (.tmp 1, .val (.slice (.slice (.int .u8))))], []⟩
noncomputable def mo152 : Msk := ⟨[(.res 4, .val (.st (.cons (.int .i64) (.cons (.slice (.slice (.int .u8))) .nil)))), (.tmp 5, .val (.int .i64))], []⟩
noncomputable def L152_7 (k : Nat) : LOrc := fun _ _ _ _ => none
noncomputable def b152_7 : Code := (findLoop 7 c152).getD .skip
noncomputable def m152_7 : Msk := ⟨[(.tmp 2, .ptr 2 0), (.tmp 4, .ptr 4 0), (.tmp 24, .val (.slice (.slice (.int .u8)))), (.tmp 25, .val (.int .i64)), (.tmp 26, .val (.int .i64)), (.cell 2 0, .val (.int .i64)), (.cell 2 1, .row false (.slice (.int .u8))), (.cell 4 0, .val (.int .i64)), (.cell 4 1, .row false (.slice (.int .u8)))], [(2, 2), (4, 2)]⟩
noncomputable def x152_7 : List (X × Msk) := [(.exit 1, ⟨[(.tmp 2, .ptr 2 0), (.tmp 4, .ptr 4 0), (.cell 2 0, .val (.int .i64)), (.cell 2 1, .row false (.slice (.int .u8))), (.cell 4 0, .val (.int .i64)), (.cell 4 1, .row false (.slice (.int .u8)))], [(2, 2), (4, 2)]⟩)]
noncomputable def F152_7 (k : Nat) : Nat → m152_7.den → Option (denE x152_7)
  | 0, _ => none
  | j + 1, v => round TI (O154 k) (L152_7 k) b152_7 m152_7 x152_7 (F152_7 k j) v
theorem lk152_7_ (k : Nat) : LinksOK Tryd.prog 39 (L152_7 k) b152_7 := (And.intro True.intro (And.intro (And.intro True.intro True.intro) (And.intro (And.intro True.intro True.intro) True.intro)))
noncomputable def L152 (k : Nat) : LOrc := fun R lk s K => match lk with
  | .loop r => bif Nat.beq r 7 then link m152_7 x152_7 (F152_7 k k) s K else none
  | .label l => none
theorem lk_L152_7 (k : Nat) : LoopOK Tryd.prog 39 (L152 k) b152_7 := loopOK_of hm hT (ok_O154 k) (fun _ _ _ h => h) rfl (lk152_7_ k) rfl rfl (F := F152_7 k) (fun _ => rfl) (fun _ _ => rfl) (n := k) fun _ _ _ => rfl
noncomputable def F152 (k : Nat) (v : mi152.den) : Option mo152.den := runF TI (O154 k) (L152 k) c152 mi152 mo152 v
theorem lk152 (k : Nat) : LinksOK Tryd.prog 39 (L152 k) c152 := (And.intro True.intro (And.intro (And.intro True.intro (And.intro (And.intro True.intro True.intro) (And.intro True.intro (And.intro (And.intro True.intro True.intro) True.intro)))) (And.intro True.intro (And.intro (And.intro True.intro (lk_L152_7 k)) (And.intro True.intro True.intro)))))
theorem fn152 (k : Nat) (args : List AV) (x : mi152.den) (r : mo152.den) (h1 : args.length = mi152.items.length) (h2 : mi152.dec (Th.start args) = some x) (h3 : F152 k x = some r) : CallOK Tryd.prog 152 args (ansOf (outL mo152.items r)) :=
  call_of hm hT (ok_O154 k) (fn := Tryd.f152) (c := c152) Tryd.func152 rfl rfl rfl (lk152 k) rfl (by decide) rfl h1 h2 h3
noncomputable def O152 (k : Nat) : Orc := fun R f args K => bif Nat.beq f 152 then callF mi152 mo152 (F152 k) args K else O154 k R f args K
theorem ok_O152 (k : Nat) : OrcOK (O152 k) (CallOK Tryd.prog) := orc_add (fn152 k) (ok_O154 k)
noncomputable def c94 : Code := Tryd.f94.body.getD .skip
noncomputable def mi94 : Msk := ⟨[(.tmp 0, .val (.st (.cons (.int .i64) (.cons (.slice (.slice (.int .u8))) .nil)))), (.tmp 1, .val (.slice (.st (.cons (.int .i64) (.cons .str (.cons (.int .u64) (.cons (.int .u32) (.cons .str (.cons .str .nil)))))))))], []⟩
noncomputable def mo94 : Msk := ⟨[(.res 4, .val (.st (.cons (.int .i64) (.cons (.slice (.slice (.int .u8))) .nil)))), (.tmp 5, .val (.int .i64))], []⟩
noncomputable def L94_g0 (k : Nat) : LOrc := fun _ _ _ _ => none
noncomputable def b94_g0 : Code := (findScope 0 c94).getD .skip
noncomputable def l94_g0 : List (X × Msk) := [(.goto 0, ⟨[(.tmp 1, .val (.slice (.st (.cons (.int .i64) (.cons .str (.cons (.int .u64) (.cons (.int .u32) (.cons .str (.cons .str .nil))))))))), (.tmp 2, .ptr 2 0), (.tmp 4, .ptr 4 0), (.tmp 6, .row false (.slice (.int .u8))), (.tmp 7, .val (.int .i64)), (.cell 2 0, .val (.int .i64)), (.cell 2 1, .val (.slice (.slice (.int .u8)))), (.cell 4 0, .val (.int .i64)), (.cell 4 1, .row false (.slice (.int .u8)))], [(2, 2), (4, 2)]⟩)]
noncomputable def x94_g0 : List (X × Msk) := [(.ret, ⟨[(.tmp 4, .ptr 4 0), (.tmp 5, .val (.int .i64)), (.cell 4 0, .val (.int .i64)), (.cell 4 1, .val (.slice (.slice (.int .u8))))], [(4, 2)]⟩)]
noncomputable def F94_g0 (k : Nat) : Nat → denE l94_g0 → Option (denE x94_g0)
  | 0, _ => none
  | j + 1, v => pass TI (O152 k) (L94_g0 k) b94_g0 l94_g0 x94_g0 (F94_g0 k j) v
theorem lk94_g0_ (k : Nat) : LinksOK Tryd.prog 37 (L94_g0 k) b94_g0 := (And.intro True.intro (And.intro True.intro (And.intro True.intro (And.intro (And.intro True.intro (And.intro (And.intro True.intro (And.intro (And.intro True.intro (And.intro (And.intro True.intro True.intro) True.intro)) (And.intro True.intro (And.intro True.intro True.intro)))) True.intro)) (And.intro True.intro True.intro)))))
noncomputable def L94 (k : Nat) : LOrc := fun R lk s K => match lk with
  | .loop r => none
  | .label l => (match findLabel b94_g0 l with | some _ => linkJ l94_g0 x94_g0 (F94_g0 k k) l s K | none => none)
theorem lk_L94_g0 (k : Nat) : JumpsOK Tryd.prog 37 (L94 k) b94_g0 := jumpsOK_of hm hT (ok_O152 k) (fun _ _ _ h => h) rfl (lk94_g0_ k) rfl rfl (F := F94_g0 k) (fun _ => rfl) (fun _ _ => rfl) (n := k) fun R l s K rest hf => by
  show (match findLabel b94_g0 l with | some _ => linkJ l94_g0 x94_g0 (F94_g0 k k) l s K | none => none) = _
  rw [hf]
noncomputable def F94 (k : Nat) (v : mi94.den) : Option mo94.den := runF TI (O152 k) (L94 k) c94 mi94 mo94 v
theorem lk94 (k : Nat) : LinksOK Tryd.prog 37 (L94 k) c94 := (And.intro True.intro (And.intro (lk_L94_g0 k) (And.intro True.intro (And.intro True.intro (And.intro True.intro (And.intro (And.intro True.intro (And.intro (And.intro True.intro (And.intro (And.intro True.intro (And.intro (And.intro True.intro True.intro) True.intro)) (And.intro True.intro (And.intro True.intro True.intro)))) True.intro)) (And.intro True.intro True.intro)))))))
theorem fn94 (k : Nat) (args : List AV) (x : mi94.den) (r : mo94.den) (h1 : args.length = mi94.items.length) (h2 : mi94.dec (Th.start args) = some x) (h3 : F94 k x = some r) : CallOK Tryd.prog 94 args (ansOf (outL mo94.items r)) :=
  call_of hm hT (ok_O152 k) (fn := Tryd.f94) (c := c94) Tryd.func94 rfl rfl rfl (lk94 k) rfl (by decide) rfl h1 h2 h3
noncomputable def O94 (k : Nat) : Orc := fun R f args K => bif Nat.beq f 94 then callF mi94 mo94 (F94 k) args K else O152 k R f args K
theorem ok_O94 (k : Nat) : OrcOK (O94 k) (CallOK Tryd.prog) := orc_add (fn94 k) (ok_O152 k)
noncomputable def c90 : Code := Tryd.f90.body.getD .skip
noncomputable def mi90 : Msk := ⟨[], []⟩
noncomputable def mo90 : Msk := ⟨[(.tmp 0, .val .bool)], []⟩
noncomputable def L90 (k : Nat) : LOrc := fun _ _ _ _ => none
noncomputable def F90 (k : Nat) (v : mi90.den) : Option mo90.den := runF TI (O94 k) (L90 k) c90 mi90 mo90 v
theorem lk90 (k : Nat) : LinksOK Tryd.prog 92 (L90 k) c90 := (And.intro True.intro (And.intro True.intro (And.intro True.intro (And.intro True.intro (And.intro True.intro (And.intro True.intro (And.intro True.intro (And.intro True.intro True.intro))))))))
theorem fn90 (k : Nat) (args : List AV) (x : mi90.den) (r : mo90.den) (h1 : args.length = mi90.items.length) (h2 : mi90.dec (Th.start args) = some x) (h3 : F90 k x = some r) : CallOK Tryd.prog 90 args (ansOf (outL mo90.items r)) :=
  call_of hm hT (ok_O94 k) (fn := Tryd.f90) (c := c90) Tryd.func90 rfl rfl rfl (lk90 k) rfl (by decide) rfl h1 h2 h3
noncomputable def O90 (k : Nat) : Orc := fun R f args K => bif Nat.beq f 90 then callF mi90 mo90 (F90 k) args K else O94 k R f args K
theorem ok_O90 (k : Nat) : OrcOK (O90 k) (CallOK Tryd.prog) := orc_add (fn90 k) (ok_O94 k)
noncomputable def c91 : Code := Tryd.f91.body.getD .skip
noncomputable def mi91 : Msk := ⟨[(.tmp 0, .val (.slice (.st (.cons (.int .i64) (.cons .str (.cons (.int .u64) (.cons (.int .u32) (.cons .str (.cons .str .nil))))))))), (.tmp 1, .val (.int .i64))], []⟩
noncomputable def mo91 : Msk := ⟨[(.tmp 4, .val .bool)], []⟩
noncomputable def L91_2 (k : Nat) : LOrc := fun _ _ _ _ => none
noncomputable def b91_2 : Code := (findLoop 2 c91).getD .skip
noncomputable def m91_2 : Msk := ⟨[(.tmp 0, .val (.slice (.st (.cons (.int .i64) (.cons .str (.cons (.int .u64) (.cons (.int .u32) (.cons .str (.cons .str .nil))))))))), (.tmp 1, .val (.int .i64)), (.tmp 5, .val (.int .i64))], []⟩
noncomputable def x91_2 : List (X × Msk) := [(.exit 0, ⟨[(.tmp 0, .val (.slice (.st (.cons (.int .i64) (.cons .str (.cons (.int .u64) (.cons (.int .u32) (.cons .str (.cons .str .nil))))))))), (.tmp 1, .val (.int .i64))], []⟩), (.ret, ⟨[(.tmp 4, .val .bool)], []⟩)]
noncomputable def F91_2 (k : Nat) : Nat → m91_2.den → Option (denE x91_2)
  | 0, _ => none
  | j + 1, v => round TI (O90 k) (L91_2 k) b91_2 m91_2 x91_2 (F91_2 k j) v
theorem lk91_2_ (k : Nat) : LinksOK Tryd.prog 27 (L91_2 k) b91_2 := (And.intro (And.intro True.intro (And.intro True.intro True.intro)) (And.intro (And.intro True.intro (And.intro (And.intro True.intro True.intro) True.intro)) True.intro))
noncomputable def L91 (k : Nat) : LOrc := fun R lk s K => match lk with
  | .loop r => bif Nat.beq r 2 then link m91_2 x91_2 (F91_2 k k) s K else none
  | .label l => none
theorem lk_L91_2 (k : Nat) : LoopOK Tryd.prog 27 (L91 k) b91_2 := loopOK_of hm hT (ok_O90 k) (fun _ _ _ h => h) rfl (lk91_2_ k) rfl rfl (F := F91_2 k) (fun _ => rfl) (fun _ _ => rfl) (n := k) fun _ _ _ => rfl
noncomputable def F91 (k : Nat) (v : mi91.den) : Option mo91.den := runF TI (O90 k) (L91 k) c91 mi91 mo91 v
theorem lk91 (k : Nat) : LinksOK Tryd.prog 27 (L91 k) c91 := (And.intro True.intro (And.intro (And.intro True.intro (lk_L91_2 k)) (And.intro True.intro True.intro)))
theorem fn91 (k : Nat) (args : List AV) (x : mi91.den) (r : mo91.den) (h1 : args.length = mi91.items.length) (h2 : mi91.dec (Th.start args) = some x) (h3 : F91 k x = some r) : CallOK Tryd.prog 91 args (ansOf (outL mo91.items r)) :=
  call_of hm hT (ok_O90 k) (fn := Tryd.f91) (c := c91) Tryd.func91 rfl rfl rfl (lk91 k) rfl (by decide) rfl h1 h2 h3
noncomputable def O91 (k : Nat) : Orc := fun R f args K => bif Nat.beq f 91 then callF mi91 mo91 (F91 k) args K else O90 k R f args K
theorem ok_O91 (k : Nat) : OrcOK (O91 k) (CallOK Tryd.prog) := orc_add (fn91 k) (ok_O90 k)
noncomputable def c95 : Code := Tryd.f95.body.getD .skip
noncomputable def mi95 : Msk := ⟨[(.tmp 0, .val (.st (.cons (.int .i64) (.cons (.slice (.slice (.int .u8))) .nil))))], []⟩
noncomputable def mo95 : Msk := ⟨[(.res 2, .val (.st (.cons (.int .i64) (.cons (.slice (.slice (.int .u8))) .nil)))), (.tmp 3, .row false (.int .u8)), (.tmp 4, .val (.int .i64))], []⟩
noncomputable def L95 (k : Nat) : LOrc := fun _ _ _ _ => none
noncomputable def F95 (k : Nat) (v : mi95.den) : Option mo95.den := runF TI (O91 k) (L95 k) c95 mi95 mo95 v
theorem lk95 (k : Nat) : LinksOK Tryd.prog 29 (L95 k) c95 := (And.intro True.intro (And.intro (And.intro True.intro (And.intro (And.intro True.intro True.intro) (And.intro True.intro (And.intro (And.intro True.intro True.intro) True.intro)))) (And.intro True.intro (And.intro True.intro (And.intro True.intro True.intro)))))
theorem fn95 (k : Nat) (args : List AV) (x : mi95.den) (r : mo95.den) (h1 : args.length = mi95.items.length) (h2 : mi95.dec (Th.start args) = some x) (h3 : F95 k x = some r) : CallOK Tryd.prog 95 args (ansOf (outL mo95.items r)) :=
  call_of hm hT (ok_O91 k) (fn := Tryd.f95) (c := c95) Tryd.func95 rfl rfl rfl (lk95 k) rfl (by decide) rfl h1 h2 h3
noncomputable def O95 (k : Nat) : Orc := fun R f args K => bif Nat.beq f 95 then callF mi95 mo95 (F95 k) args K else O91 k R f args K
theorem ok_O95 (k : Nat) : OrcOK (O95 k) (CallOK Tryd.prog) := orc_add (fn95 k) (ok_O91 k)
noncomputable def c21 : Code := Tryd.f21.body.getD .skip
noncomputable def mi21 : Msk := ⟨[(.tmp 0, .val (.st (.cons (.int .i64) (.cons .str (.cons (.int .u64) (.cons (.int .u32) (.cons .str (.cons .str .nil)))))))), (.tmp 1, .val (.st (.cons (.int .i64) (.cons .str (.cons (.int .u64) (.cons (.int .u32) (.cons .str (.cons .str .nil)))))))), (.tmp 2, .val (.slice (.int .u8))), (.tmp 3, .val (.slice (.st (.cons (.int .i64) (.cons .str (.cons (.int .u64) (.cons (.int .u32) (.cons .str (.cons .str .nil)))))))))], []⟩
noncomputable def mo21 : Msk := ⟨[(.tmp 8, .val .bool)], []⟩
noncomputable def L21_22 (k : Nat) : LOrc := fun _ _ _ _ => none
noncomputable def b21_22 : Code := (findLoop 22 c21).getD .skip
noncomputable def m21_22 : Msk := ⟨[(.tmp 3, .val (.slice (.st (.cons (.int .i64) (.cons .str (.cons (.int .u64) (.cons (.int .u32) (.cons .str (.cons .str .nil))))))))), (.tmp 19, .ptr 19 0), (.tmp 21, .val (.int .i64)), (.cell 19 0, .val (.int .i64)), (.cell 19 1, .val (.slice (.slice (.int .u8))))], [(19, 2)]⟩
noncomputable def x21_22 : List (X × Msk) := [(.exit 0, ⟨[(.tmp 19, .ptr 19 0), (.cell 19 0, .val (.int .i64)), (.cell 19 1, .val (.slice (.slice (.int .u8))))], [(19, 2)]⟩), (.ret, ⟨[(.tmp 8, .val .bool)], []⟩)]
noncomputable def F21_22 (k : Nat) : Nat → m21_22.den → Option (denE x21_22)
  | 0, _ => none
  | j + 1, v => round TI (O95 k) (L21_22 k) b21_22 m21_22 x21_22 (F21_22 k j) v
theorem lk21_22_ (k : Nat) : LinksOK Tryd.prog 167 (L21_22 k) b21_22 := (And.intro (And.intro True.intro (And.intro True.intro True.intro)) (And.intro (And.intro True.intro (And.intro True.intro (And.intro (And.intro True.intro (And.intro (And.intro True.intro True.intro) True.intro)) True.intro))) True.intro))
noncomputable def L21 (k : Nat) : LOrc := fun R lk s K => match lk with
  | .loop r => bif Nat.beq r 22 then link m21_22 x21_22 (F21_22 k k) s K else none
  | .label l => none
theorem lk_L21_22 (k : Nat) : LoopOK Tryd.prog 167 (L21 k) b21_22 := loopOK_of hm hT (ok_O95 k) (fun _ _ _ h => h) rfl (lk21_22_ k) rfl rfl (F := F21_22 k) (fun _ => rfl) (fun _ _ => rfl) (n := k) fun _ _ _ => rfl
noncomputable def F21 (k : Nat) (v : mi21.den) : Option mo21.den := runF TI (O95 k) (L21 k) c21 mi21 mo21 v
theorem lk21 (k : Nat) : LinksOK Tryd.prog 167 (L21 k) c21 := (And.intro True.intro (And.intro (And.intro True.intro (And.intro (And.intro True.intro True.intro) True.intro)) (And.intro (And.intro True.intro (And.intro (And.intro True.intro True.intro) True.intro)) (And.intro True.intro (And.intro True.intro (And.intro (And.intro True.intro (And.intro (And.intro True.intro (And.intro True.intro (And.intro (And.intro True.intro True.intro) True.intro))) True.intro)) (And.intro True.intro (And.intro (And.intro True.intro (And.intro (And.intro True.intro (And.intro True.intro (And.intro (And.intro True.intro True.intro) True.intro))) (And.intro True.intro (And.intro (And.intro True.intro True.intro) True.intro)))) (And.intro True.intro (And.intro (And.intro True.intro (And.intro (And.intro True.intro True.intro) True.intro)) (And.intro (And.intro True.intro (lk_L21_22 k)) (And.intro True.intro True.intro))))))))))))
theorem fn21 (k : Nat) (args : List AV) (x : mi21.den) (r : mo21.den) (h1 : args.length = mi21.items.length) (h2 : mi21.dec (Th.start args) = some x) (h3 : F21 k x = some r) : CallOK Tryd.prog 21 args (ansOf (outL mo21.items r)) :=
  call_of hm hT (ok_O95 k) (fn := Tryd.f21) (c := c21) Tryd.func21 rfl rfl rfl (lk21 k) rfl (by decide) rfl h1 h2 h3
noncomputable def O21 (k : Nat) : Orc := fun R f args K => bif Nat.beq f 21 then callF mi21 mo21 (F21 k) args K else O95 k R f args K
theorem ok_O21 (k : Nat) : OrcOK (O21 k) (CallOK Tryd.prog) := orc_add (fn21 k) (ok_O95 k)
end Go.Proofs.YtjgnpmdbkgeakaaDoor.G
end
section
set_option maxRecDepth 1000000
set_option linter.unusedVariables false
set_option linter.unusedSimpArgs false
namespace Go.Proofs.YtjgnpmdbkgeakaaDoor.G
open Go Go.Proofs.YtjgnpmdbkgeakaaDoor Th
noncomputable def G175_2 (k : Nat) (j : Nat) (v : Int × List (Int × Int × Int × Unit) × Int × Int × Int × Int × Int × Unit) : Option (Int × Int × Int × Unit ⊕ Bool × Int × Int × Int × Unit) := F175_2 k j v
theorem G175_2_eq (k : Nat) (j : Nat) (v0 : Int) (v1 : List (Int × Int × Int × Unit)) (v2 v3 v4 v5 v6 : Int) : G175_2 k (j + 1) (v0, v1, v2, v3, v4, v5, v6, ()) = sel (decide (v3 < v2)) (sel (decide (0 ≤ v3)) (sel (decide (v3 < Int.ofNat v1.length)) (sel (decide (v3.toNat < v1.length)) (sel
 (decide ((v1.getD v3.toNat (0, 0, 0, ())).1 = v0)) (some (Sum.inr (true, (v1.getD v3.toNat (0, 0, 0, ())).1, (v1.getD v3.toNat (0, 0, 0, ())).2.1, (v1.getD v3.toNat (0, 0, 0, ())).2.2.1, ()))) (G175_2 k j (v0, v1, v2, IntKind.i64.wrap (v3 + 1), v4, v5, v6,
 ()))) none) none) none) (some (Sum.inl (v4, v5, v6, ()))) := by kernel_rfl
noncomputable def G175 (k : Nat) (v : Int × Unit) : Option ((Int × Int × Int × Unit) × Bool × Unit) := F175 k v
theorem G175_eq (k : Nat) (v0 : Int) : G175 k (v0, ()) = ocall (G175_2 k k (v0, [(2, 3, 19, ()), (3, 1, 6, ()), (4, 1, 12, ()), (7, 1, 10, ()), (11, 1, 6, ()), (12, 1, 6, ()), (37, 2, 12, ()), (38, 2, 6, ()), (39, 2, 2,
 ()), (41, 2, 8, ()), (44, 4, 25, ()), (48, 5, 999, ()), (49, 1, 3, ()), (90, 1, 42, ()), (120, 5, 999, ())], Int.ofNat 15, 0, 0, 0, 0, ())) fun e => esel e (fun v => some ((0, 0, 0, ()), false, ())) fun e => some
 ((e.2.1, e.2.2.1, e.2.2.2.1, ()), e.1, ()) := by kernel_rfl
noncomputable def G176 (k : Nat) (v : (Int × Int × Int × Unit) × Unit) : Option ((Int × Int × Unit) × Unit ⊕ (Int × Unit) × Unit) := F176 k v
theorem G176_eq (k : Nat) (v0 v1 v2 : Int) : G176 k ((v0, v1, v2, ()), ()) = sel (decide (v1 = 3)) (sel (decide (v1 = 3)) (some (Sum.inl ((2, v2, ()), ()))) (sel (decide (v1 = 5)) (some (Sum.inl ((3, v2, ()), ()))) (some (Sum.inr ((v2, ()),
 ()))))) (sel (decide (v1 = 4)) (some (Sum.inl ((2, v2, ()), ()))) (sel (decide (v1 = 5)) (some (Sum.inl ((3, v2, ()), ()))) (some (Sum.inr ((v2, ()), ()))))) := by kernel_rfl
noncomputable def G246 (k : Nat) (v : (Int × Int × Unit) × Int × Unit) : Option (Bool × Unit) := F246 k v
theorem G246_eq (k : Nat) (v0 v1 v2 : Int) : G246 k ((v0, v1, ()), v2, ()) = sel (decide (1 ≤ v2)) (some (decide (v2 ≤ v1), ())) (some (false, ())) := by kernel_rfl
noncomputable def G248 (k : Nat) (v : (Int × Unit) × Int × Unit) : Option (Bool × Unit) := F248 k v
theorem G248_eq (k : Nat) (v0 v1 : Int) : G248 k ((v0, ()), v1, ()) = some (decide (v1 = v0), ()) := by kernel_rfl
noncomputable def G169_g0 (k : Nat) (j : Nat) (v : List UInt8 × Int × Unit) : Option (Bool × Unit) := F169_g0 k j v
theorem G169_g0_eq (k : Nat) (j : Nat) (v0 : List UInt8) (v1 : Int) : G169_g0 k (j + 1) (v0, v1, ()) = sel (decide (v1 = Int.ofNat v0.length)) (some (decide (0 < v1), ())) (sel (decide (0 ≤ v1)) (sel (decide (v1 < Int.ofNat v0.length)) (sel (decide (Int.ofNat (v0.getD v1.toNat
 0).toNat < 48)) (some (false, ())) (sel (decide (0 ≤ v1)) (sel (decide (v1 < Int.ofNat v0.length)) (sel (decide (57 < Int.ofNat (v0.getD v1.toNat 0).toNat)) (some (false, ())) (G169_g0 k j (v0, IntKind.i64.wrap (v1 + 1), ()))) none) none)) none) none) := by kernel_rfl
noncomputable def G169 (k : Nat) (v : List UInt8 × Unit) : Option (Bool × Unit) := F169 k v
theorem G169_eq (k : Nat) (v0 : List UInt8) : G169 k (v0, ()) = sel (decide (0 = Int.ofNat v0.length)) (some (false, ())) (sel (decide (0 < Int.ofNat v0.length)) (sel (decide (Int.ofNat (v0.getD (Int.toNat 0) 0).toNat < 48)) (some (false, ())) (sel (decide (0 < Int.ofNat
 v0.length)) (sel (decide (57 < Int.ofNat (v0.getD (Int.toNat 0) 0).toNat)) (some (false, ())) (ocall (G169_g0 k k (v0, IntKind.i64.wrap (0 + 1), ())) fun e => some (e.1, ()))) none)) none) := by kernel_rfl
noncomputable def G177 (k : Nat) (v : (Int × Int × Int × Unit) × List UInt8 × Unit) : Option (Bool × Unit) := F177 k v
theorem G177_eq (k : Nat) (v0 v1 v2 : Int) (v3 : List UInt8) : G177 k ((v0, v1, v2, ()), v3, ()) = sel (decide (v3.length ≤ 9223372036854775807)) (ocall (G169 k (v3, ())) fun r => some (Signs.signsOf v1 r.1 v3, ())) none := by kernel_rfl
noncomputable def G117 (k : Nat) (v : Int × List UInt8 × Unit) : Option (Bool × Unit) := F117 k v
theorem G117_eq (k : Nat) (v0 : Int) (v1 : List UInt8) : G117 k (v0, v1, ()) = ocall (G175 k (v0, ())) fun r => sel r.2.1 (ocall (G176 k ((r.1.1, r.1.2.1, r.1.2.2.1, ()), ())) fun r_1 => esel r_1 (fun v => ocall (G246 k ((v.1.1, v.1.2.1, ()), Int.ofNat
 v1.length, ())) fun r_2 => sel r_2.1 (ocall (G177 k ((r.1.1, r.1.2.1, r.1.2.2.1, ()), v1, ())) fun r => some (r.1, ())) (some (false, ()))) fun e => ocall (G248 k ((e.1.1, ()), Int.ofNat v1.length, ())) fun r_2 => sel r_2.1 (ocall (G177 k
 ((r.1.1, r.1.2.1, r.1.2.2.1, ()), v1, ())) fun r => some (r.1, ())) (some (false, ()))) (some (false, ())) := by kernel_rfl
noncomputable def G245 (k : Nat) (v : (Int × Int × Unit) × Unit) : Option (Int × Unit) := F245 k v
theorem G245_eq (k : Nat) (v0 v1 : Int) : G245 k ((v0, v1, ()), ()) = some (v0, ()) := by kernel_rfl
noncomputable def G247 (k : Nat) (v : (Int × Unit) × Unit) : Option (Int × Unit) := F247 k v
theorem G247_eq (k : Nat) (v0 : Int) : G247 k ((v0, ()), ()) = some (0, ()) := by kernel_rfl
noncomputable def G105_5 (k : Nat) (j : Nat) (v : Int × List Int × Int × Unit) : Option (Int × List Int × Unit) := F105_5 k j v
theorem G105_5_eq (k : Nat) (j : Nat) (v0 : Int) (v1 : List Int) (v2 : Int) : G105_5 k (j + 1) (v0, v1, v2, ()) = sel (decide (0 ≤ v2)) (sel (decide (0 ≤ v2)) (sel (decide (v2 < Int.ofNat v1.length)) (sel (decide (v2.toNat < v1.length)) (G105_5 k j (IntKind.u64.wrap (v0.tdiv 10), v1.set
 v2.toNat (IntKind.u8.wrap (48 + IntKind.u8.wrap (v0.tmod 10))), IntKind.i64.wrap (v2 - 1), ())) none) none) none) (some (v0, v1, ())) := by kernel_rfl
noncomputable def G105 (k : Nat) (v : Int × Int × Unit) : Option (List UInt8 × Int × Unit) := F105 k v
theorem G105_eq (k : Nat) (v0 v1 : Int) : G105 k (v0, v1, ()) = sel (decide (v1 < 1)) (some ([], 1, ())) (sel (decide (19 < v1)) (some ([], 1, ())) (sel (decide (0 ≤ v1)) (sel (decide (v1 ≤ v1)) (sel (decide (v1 ≤ 140737488355328)) (sel (decide (v1 * Int.ofNat 1 ≤
 140737488355328)) (ocall (G105_5 k k (v0, List.replicate v1.toNat 0, IntKind.i64.wrap (v1 - 1), ())) fun e => sel (decide (0 < e.1)) (some ([], 10, ())) (some (ofBytes e.2.1, 0, ()))) none) none) none) none)) := by kernel_rfl
noncomputable def G139 (k : Nat) (v : Int × List UInt8 × Unit) : Option (List Int × Int × Unit) := F139 k v
theorem G139_eq (k : Nat) (v0 : Int) (v1 : List UInt8) : G139 k (v0, v1, ()) = ocall (G175 k (v0, ())) fun r => sel (!r.2.1) (some ([], 5, ())) (ocall (G117 k (v0, v1, ())) fun r_1 => sel (!r_1.1) (some ([], 1, ())) (ocall (G176 k ((r.1.1, r.1.2.1, r.1.2.2.1,
 ()), ())) fun r => esel r (fun v => ocall (G245 k ((v.1.1, v.1.2.1, ()), ())) fun r => sel (decide (0 < r.1)) (ocall (G105 k (IntKind.u64.wrap (Int.ofNat v1.length), r.1, ())) fun r => sel (decide (r.1.length + v1.length ≤ 140737488355328)) (some (toBytes (r.1
 ++ v1), 0, ())) none) (some (toBytes v1, 0, ()))) fun e => ocall (G247 k ((e.1.1, ()), ())) fun r => sel (decide (0 < r.1)) (ocall (G105 k (IntKind.u64.wrap (Int.ofNat v1.length), r.1, ())) fun r => sel (decide (r.1.length + v1.length ≤ 140737488355328)) (some
 (toBytes (r.1 ++ v1), 0, ())) none) (some (toBytes v1, 0, ())))) := by kernel_rfl
noncomputable def G172_9 (k : Nat) (j : Nat) (v : Int × List Int × Int × Int × Unit) : Option (Int × Unit) := F172_9 k j v
theorem G172_9_eq (k : Nat) (j : Nat) (v0 : Int) (v1 : List Int) (v2 v3 : Int) : G172_9 k (j + 1) (v0, v1, v2, v3, ()) = sel (decide (v3 < v2)) (sel (decide (0 ≤ v3)) (sel (decide (v3 < Int.ofNat v1.length)) (sel (decide (v3.toNat < v1.length)) (G172_9 k j (IntKind.u64.wrap (IntKind.u64.wrap
 (10 * v0) + IntKind.u64.wrap (IntKind.u8.wrap (v1.getD v3.toNat 0 - 48))), v1, v2, IntKind.i64.wrap (v3 + 1), ())) none) none) none) (some (v0, ())) := by kernel_rfl
noncomputable def G172 (k : Nat) (v : List UInt8 × Unit) : Option (Int × Int × Unit) := F172 k v
theorem G172_eq (k : Nat) (v0 : List UInt8) : G172 k (v0, ()) = sel (decide (v0 = [])) (some (0, 2, ())) (sel (decide (19 < Int.ofNat v0.length)) (some (0, 4, ())) (ocall (G169 k (v0, ())) fun r => sel (!r.1) (some (0, 3, ())) (ocall (G172_9 k k (0, toBytes
 v0, Int.ofNat (toBytes v0).length, 0, ())) fun e => some (e.1, 0, ())))) := by kernel_rfl
noncomputable def G195 (k : Nat) (v : (Int × Int × Int × Unit) × List Int × Unit) : Option (Int × Int × Unit) := F195 k v
theorem G195_eq (k : Nat) (v0 v1 v2 : Int) (v3 : List Int) : G195 k ((v0, v1, v2, ()), v3, ()) = ocall (G176 k ((v0, v1, v2, ()), ())) fun r => esel r (fun v => ocall (G245 k ((v.1.1, v.1.2.1, ()), ())) fun r => sel (decide (r.1 = 0)) (some (v2, 0,
 ())) (sel (decide (Int.ofNat v3.length < r.1)) (some (0, 2, ())) (sel (decide (Int.ofNat 0 ≤ r.1)) (sel (decide (r.1 ≤ Int.ofNat v3.length)) (sel (decide (Int.ofNat v3.length ≤ Int.ofNat v3.length)) (ocall (G172 k (ofBytes (List.drop (Int.ofNat 0).toNat (List.take r.1.toNat v3)),
 ())) fun r => sel (!decide (r.2.1 = 0)) (sel (!decide (r.2.1 = 0)) (some (0, 3, ())) (sel (decide (IntKind.u64.wrap v2 < r.1)) (some (0, 4, ())) (some (IntKind.i64.wrap r.1, 0, ())))) (sel (decide (r.1 = 0)) (some (0, 3, ())) (sel (decide (IntKind.u64.wrap v2
 < r.1)) (some (0, 4, ())) (some (IntKind.i64.wrap r.1, 0, ()))))) none) none) none))) fun e => ocall (G247 k ((e.1.1, ()), ())) fun r => sel (decide (r.1 = 0)) (some (v2, 0, ())) (sel (decide (Int.ofNat v3.length < r.1)) (some (0, 2, ())) (sel (decide
 (Int.ofNat 0 ≤ r.1)) (sel (decide (r.1 ≤ Int.ofNat v3.length)) (sel (decide (Int.ofNat v3.length ≤ Int.ofNat v3.length)) (ocall (G172 k (ofBytes (List.drop (Int.ofNat 0).toNat (List.take r.1.toNat v3)), ())) fun r => sel (!decide (r.2.1 = 0)) (sel (!decide (r.2.1 = 0)) (some (0, 3,
 ())) (sel (decide (IntKind.u64.wrap v2 < r.1)) (some (0, 4, ())) (some (IntKind.i64.wrap r.1, 0, ())))) (sel (decide (r.1 = 0)) (some (0, 3, ())) (sel (decide (IntKind.u64.wrap v2 < r.1)) (some (0, 4, ())) (some (IntKind.i64.wrap r.1, 0, ()))))) none)
 none) none)) := by kernel_rfl
noncomputable def G144 (k : Nat) (v : Int × List Int × Unit) : Option (List UInt8 × Int × Int × Unit) := F144 k v
theorem G144_eq (k : Nat) (v0 : Int) (v1 : List Int) : G144 k (v0, v1, ()) = ocall (G175 k (v0, ())) fun r => sel (!r.2.1) (some ([], 0, 5, ())) (ocall (G195 k ((r.1.1, r.1.2.1, r.1.2.2.1, ()), v1, ())) fun r_1 => sel (!decide (r_1.2.1 = 0)) (some ([], 0,
 r_1.2.1, ())) (ocall (G176 k ((r.1.1, r.1.2.1, r.1.2.2.1, ()), ())) fun r_2 => esel r_2 (fun v => ocall (G245 k ((v.1.1, v.1.2.1, ()), ())) fun r_3 => sel (decide (Int.ofNat v1.length < IntKind.i64.wrap (r_3.1 + r_1.1))) (some ([], 0, 2, ())) (sel
 (decide (0 ≤ r_3.1)) (sel (decide (r_3.1 ≤ IntKind.i64.wrap (r_3.1 + r_1.1))) (sel (decide (IntKind.i64.wrap (r_3.1 + r_1.1) ≤ Int.ofNat v1.length)) (sel (decide (Int.ofNat v1.length ≤ Int.ofNat v1.length)) (ocall (G177 k ((r.1.1, r.1.2.1, r.1.2.2.1, ()), ofBytes (List.drop r_3.1.toNat
 (List.take (IntKind.i64.wrap (r_3.1 + r_1.1)).toNat v1)), ())) fun r => sel (!r.1) (some ([], 0, 3, ())) (some (ofBytes (List.drop r_3.1.toNat (List.take (IntKind.i64.wrap (r_3.1 + r_1.1)).toNat v1)), IntKind.i64.wrap (r_3.1 + r_1.1), 0, ()))) none) none) none) none)) fun e
 => ocall (G247 k ((e.1.1, ()), ())) fun r_3 => sel (decide (Int.ofNat v1.length < IntKind.i64.wrap (r_3.1 + r_1.1))) (some ([], 0, 2, ())) (sel (decide (0 ≤ r_3.1)) (sel (decide (r_3.1 ≤ IntKind.i64.wrap (r_3.1 + r_1.1))) (sel (decide (IntKind.i64.wrap (r_3.1 + r_1.1) ≤
 Int.ofNat v1.length)) (sel (decide (Int.ofNat v1.length ≤ Int.ofNat v1.length)) (ocall (G177 k ((r.1.1, r.1.2.1, r.1.2.2.1, ()), ofBytes (List.drop r_3.1.toNat (List.take (IntKind.i64.wrap (r_3.1 + r_1.1)).toNat v1)), ())) fun r => sel (!r.1) (some ([], 0, 3, ())) (some
 (ofBytes (List.drop r_3.1.toNat (List.take (IntKind.i64.wrap (r_3.1 + r_1.1)).toNat v1)), IntKind.i64.wrap (r_3.1 + r_1.1), 0, ()))) none) none) none) none))) := by kernel_rfl
noncomputable def G42 (k : Nat) (v : Int × Unit) : Option (Bool × Unit) := F42 k v
theorem G42_eq (k : Nat) (v0 : Int) : G42 k (v0, ()) = sel (decide (v0 = 1)) (sel (decide (v0 = 1)) (some (true, ())) (some (false, ()))) (sel (decide (v0 = 3)) (sel (decide (v0 = 3)) (some (true, ())) (some (false, ()))) (sel (decide (v0 = 5)) (sel (decide
 (v0 = 5)) (some (true, ())) (some (false, ()))) (sel (decide (v0 = 6)) (some (true, ())) (some (false, ()))))) := by kernel_rfl
noncomputable def G170 (k : Nat) (v : List UInt8 × Bool × Unit) : Option (Int × Unit) := F170 k v
theorem G170_eq (k : Nat) (v0 : List UInt8) (v1 : Bool) : G170 k (v0, v1, ()) = sel (decide (v0.length ≤ 9223372036854775807)) (some ((Sum.sumOf (Sum.backs (toBytes v0)) v1).1, ())) none := by kernel_rfl
noncomputable def G107 (k : Nat) (v : List UInt8 × Unit) : Option (Bool × Unit) := F107 k v
theorem G107_eq (k : Nat) (v0 : List UInt8) : G107 k (v0, ()) = ocall (G169 k (v0, ())) fun r => sel r.1 (ocall (G170 k (v0, false, ())) fun r => some (decide (r.1.tmod 10 = 0), ())) (some (false, ())) := by kernel_rfl
noncomputable def G108 (k : Nat) (v : Int × Unit) : Option (List UInt8 × Unit) := F108 k v
theorem G108_eq (k : Nat) (v0 : Int) : G108 k (v0, ()) = sel (decide (v0 < 0)) (some ([], ())) (sel (decide (8 ≤ v0)) (some ([], ())) (sel (decide (0 ≤ v0)) (sel (decide (v0 < Int.ofNat 8)) (some ([[], [48, 49, 48, 48], [48, 49, 49, 48], [48, 52, 48, 48], [48, 52, 49, 48],
 [48, 52, 50, 48], [48, 52, 50, 49], [48, 52, 51, 48]].getD v0.toNat [], ())) none) none)) := by kernel_rfl
noncomputable def G109 (k : Nat) (v : (Int × List UInt8 × Int × Int × List UInt8 × List UInt8 × Unit) × Unit) : Option (List (Int × List UInt8 × Unit) × Unit) := F109 k v
theorem G109_eq (k : Nat) (v0 : Int) (v1 : List UInt8) (v2 v3 : Int) (v4 v5 : List UInt8) : G109 k ((v0, v1, v2, v3, v4, v5, ()), ()) = ocall (G105 k (IntKind.u64.wrap v3, 6, ())) fun r => ocall (G42 k (v0, ())) fun r_1 => sel (!r_1.1) (some ([(11, r.1, ()),
 (37, v4, ()), (39, v5, ())], ())) (ocall (G105 k (v2, 12, ())) fun r_2 => sel (decide (5 ≤ v0)) (ocall (G108 k (1, ())) fun r_3 => sel (decide (r_3.1.length + r.1.length ≤ 140737488355328)) (sel (decide ((r_3.1 ++ r.1).length + 32 ≤ 140737488355328)) (some
 ([(2, v1, ()), (4, r_2.1, ()), (11, r.1, ()), (37, v4, ()), (90, r_3.1 ++ r.1 ++ [48, 48, 48, 48, 48, 48, 48, 48, 48, 48, 48, 48, 48, 48, 48, 48, 48, 48, 48, 48, 48, 48, 48, 48, 48, 48, 48, 48, 48, 48, 48, 48], ())], ())) none) none) (some ([(2, v1,
 ()), (4, r_2.1, ()), (11, r.1, ()), (37, v4, ())], ()))) := by kernel_rfl
noncomputable def G121 (k : Nat) (v : List UInt8 × Unit) : Option (Bool × Unit) := F121 k v
theorem G121_eq (k : Nat) (v0 : List UInt8) : G121 k (v0, ()) = sel (decide (v0 = [48, 49, 48, 48])) (sel (decide (v0 = [48, 49, 48, 48])) (some (true, ())) (some (false, ()))) (sel (decide (v0 = [48, 49, 49, 48])) (sel (decide (v0 = [48, 49, 49, 48])) (some (true,
 ())) (some (false, ()))) (sel (decide (v0 = [48, 52, 48, 48])) (sel (decide (v0 = [48, 52, 48, 48])) (some (true, ())) (some (false, ()))) (sel (decide (v0 = [48, 52, 49, 48])) (sel (decide (v0 = [48, 52, 49, 48])) (some (true, ())) (some (false, ())))
 (sel (decide (v0 = [48, 52, 50, 48])) (sel (decide (v0 = [48, 52, 50, 48])) (some (true, ())) (some (false, ()))) (sel (decide (v0 = [48, 52, 50, 49])) (sel (decide (v0 = [48, 52, 50, 49])) (some (true, ())) (some (false, ()))) (sel (decide (v0 = [48, 52, 51, 48]))
 (some (true, ())) (some (false, ())))))))) := by kernel_rfl
noncomputable def G44_3 (k : Nat) (j : Nat) (v : Int × List (Int × List UInt8 × Unit) × Int × Int × List UInt8 × List (Int × List UInt8 × Unit) × Unit) : Option (List UInt8 × List (Int × List UInt8 × Unit) × Unit ⊕ Bool × Unit) := F44_3 k j v
theorem G44_3_eq (k : Nat) (j : Nat) (v0 : Int) (v1 : List (Int × List UInt8 × Unit)) (v2 v3 : Int) (v4 : List UInt8) (v5 : List (Int × List UInt8 × Unit)) : G44_3 k (j + 1) (v0, v1, v2, v3, v4, v5, ()) = sel (decide (v3 < v2)) (sel (decide (0 ≤ v3)) (sel (decide (v3 < Int.ofNat
 v1.length)) (sel (decide ((v1.getD v3.toNat (0, [], ())).1 ≤ v0)) (some (Sum.inr (false, ()))) (ocall (G117 k ((v1.getD v3.toNat (0, [], ())).1, (v1.getD v3.toNat (0, [], ())).2.1, ())) fun r => sel (!r.1) (some (Sum.inr (false, ()))) (G44_3 k j
 ((v1.getD v3.toNat (0, [], ())).1, v1, v2, IntKind.i64.wrap (v3 + 1), v4, v5, ())))) none) none) (some (Sum.inl (v4, v5, ()))) := by kernel_rfl
noncomputable def G44 (k : Nat) (v : (List UInt8 × List (Int × List UInt8 × Unit) × Unit) × Unit) : Option (Bool × Unit) := F44 k v
theorem G44_eq (k : Nat) (v0 : List UInt8) (v1 : List (Int × List UInt8 × Unit)) : G44 k ((v0, v1, ()), ()) = ocall (G44_3 k k (0, v1, Int.ofNat v1.length, 0, v0, v1, ())) fun e => esel e (fun v => ocall (G121 k (v.1, ())) fun r => sel r.1 (some (decide (0 <
 Int.ofNat v.2.1.length), ())) (some (false, ()))) fun e => some (e.1, ()) := by kernel_rfl
noncomputable def G33 (k : Nat) (v : (Int × List UInt8 × Int × Int × List UInt8 × List UInt8 × Unit) × Unit) : Option (Bool × Unit) := F33 k v
theorem G33_eq (k : Nat) (v0 : Int) (v1 : List UInt8) (v2 v3 : Int) (v4 v5 : List UInt8) : G33 k ((v0, v1, v2, v3, v4, v5, ()), ()) = ocall (G42 k (v0, ())) fun r => sel r.1 (sel (!decide (v5 = [])) (some (false, ())) (ocall (G107 k (v1, ())) fun r => sel
 (!r.1) (some (false, ())) (ocall (G108 k (v0, ())) fun r => ocall (G109 k ((v0, v1, v2, v3, v4, v5, ()), ())) fun r_1 => ocall (G44 k ((r.1, r_1.1, ()), ())) fun r => some (r.1, ())))) (sel (!decide (v1 = [])) (some (false, ())) (sel
 (!decide (v2 = 0)) (some (false, ())) (ocall (G108 k (v0, ())) fun r => ocall (G109 k ((v0, v1, v2, v3, v4, v5, ()), ())) fun r_1 => ocall (G44 k ((r.1, r_1.1, ()), ())) fun r => some (r.1, ())))) := by kernel_rfl
noncomputable def G24 (k : Nat) (v : (Int × List UInt8 × Int × Int × List UInt8 × List UInt8 × Unit) × Unit) : Option (Bool × Unit) := F24 k v
theorem G24_eq (k : Nat) (v0 : Int) (v1 : List UInt8) (v2 v3 : Int) (v4 v5 : List UInt8) : G24 k ((v0, v1, v2, v3, v4, v5, ()), ()) = sel (decide (Int.ofNat v1.length ≤ 300)) (sel (decide (Int.ofNat v4.length ≤ 300)) (some (decide (Int.ofNat v5.length ≤ 300), ())) (some
 (false, ()))) (some (false, ())) := by kernel_rfl
end Go.Proofs.YtjgnpmdbkgeakaaDoor.G
end
section
set_option maxRecDepth 1000000
set_option linter.unusedVariables false
set_option linter.unusedSimpArgs false
namespace Go.Proofs.YtjgnpmdbkgeakaaDoor.G
open Go Go.Proofs.YtjgnpmdbkgeakaaDoor Th
noncomputable def G37 (k : Nat) (v : (Int × List UInt8 × Int × Int × List UInt8 × List UInt8 × Unit) × Unit) : Option ((List UInt8 × List (Int × List UInt8 × Unit) × Unit) × Int × Unit) := F37 k v
theorem G37_eq (k : Nat) (v0 : Int) (v1 : List UInt8) (v2 v3 : Int) (v4 v5 : List UInt8) : G37 k ((v0, v1, v2, v3, v4, v5, ()), ()) = ocall (G33 k ((v0, v1, v2, v3, v4, v5, ()), ())) fun r => sel (!r.1) (some (([], [], ()), 1, ())) (ocall (G108 k (v0,
 ())) fun r => ocall (G109 k ((v0, v1, v2, v3, v4, v5, ()), ())) fun r_1 => some ((r.1, r_1.1, ()), 0, ())) := by kernel_rfl
noncomputable def G113_2 (k : Nat) (j : Nat) (v : List UInt8 × Int × Unit) : Option (Unit ⊕ Int × Unit) := F113_2 k j v
theorem G113_2_eq (k : Nat) (j : Nat) (v0 : List UInt8) (v1 : Int) : G113_2 k (j + 1) (v0, v1, ()) = sel (decide (v1 ≤ 7)) (ocall (G108 k (v1, ())) fun r => sel (decide (r.1 = v0)) (some (Sum.inr (v1, ()))) (G113_2 k j (v0, IntKind.i64.wrap (v1 + 1), ()))) (some
 (Sum.inl ())) := by kernel_rfl
noncomputable def G113 (k : Nat) (v : List UInt8 × Unit) : Option (Int × Unit) := F113 k v
theorem G113_eq (k : Nat) (v0 : List UInt8) : G113 k (v0, ()) = ocall (G113_2 k k (v0, 1, ())) fun e => esel e (fun v => some (0, ())) fun e => some (e.1, ()) := by kernel_rfl
noncomputable def G174 (k : Nat) (v : (Int × List UInt8 × Unit) × (Int × Unit) × Unit) : Option (Bool × Unit) := F174 k v
theorem G174_eq (k : Nat) (v0 : Int) (v1 : List UInt8) (v2 : Int) : G174 k ((v0, v1, ()), (v2, ()), ()) = some (decide (v0 = v2), ()) := by kernel_rfl
noncomputable def G7000000_2 (k : Nat) (j : Nat) (v : List (Int × List UInt8 × Unit) × ((Int × Unit) × Unit) × Int × Int × Unit) : Option (Unit ⊕ Int × Unit) := F7000000_2 k j v
theorem G7000000_2_eq (k : Nat) (j : Nat) (v0 : List (Int × List UInt8 × Unit)) (v1 v2 v3 : Int) : G7000000_2 k (j + 1) (v0, ((v1, ()), ()), v2, v3, ()) = sel (decide (v3 < v2)) (sel (decide (0 ≤ v3)) (sel (decide (v3 < Int.ofNat v0.length)) (ocall (G174 k (((v0.getD
 v3.toNat (0, [], ())).1, (v0.getD v3.toNat (0, [], ())).2.1, ()), (v1, ()), ())) fun r => sel r.1 (some (Sum.inr (v3, ()))) (G7000000_2 k j (v0, ((v1, ()), ()), v2, IntKind.i64.wrap (v3 + 1), ()))) none) none) (some (Sum.inl
 ())) := by kernel_rfl
noncomputable def G7000000 (k : Nat) (v : List (Int × List UInt8 × Unit) × ((Int × Unit) × Unit) × Unit) : Option (Int × Unit) := F7000000 k v
theorem G7000000_eq (k : Nat) (v0 : List (Int × List UInt8 × Unit)) (v1 : Int) : G7000000 k (v0, ((v1, ()), ()), ()) = ocall (G7000000_2 k k (v0, ((v1, ()), ()), Int.ofNat v0.length, 0, ())) fun e => esel e (fun v => some ((-1 : Int), ())) fun
 e => some (e.1, ()) := by kernel_rfl
noncomputable def G115 (k : Nat) (v : (List UInt8 × List (Int × List UInt8 × Unit) × Unit) × Int × Unit) : Option (List UInt8 × Bool × Unit) := F115 k v
theorem G115_eq (k : Nat) (v0 : List UInt8) (v1 : List (Int × List UInt8 × Unit)) (v2 : Int) : G115 k ((v0, v1, ()), v2, ()) = ocall (G7000000 k (v1, ((v2, ()), ()), ())) fun r => sel (decide (r.1 < 0)) (some ([], false, ())) (sel (decide (0 ≤ r.1))
 (sel (decide (r.1 < Int.ofNat v1.length)) (some ((v1.getD r.1.toNat (0, [], ())).2.1, true, ())) none) none) := by kernel_rfl
noncomputable def G114 (k : Nat) (v : (List UInt8 × List (Int × List UInt8 × Unit) × Unit) × Int × Unit) : Option (Int × Unit) := F114 k v
theorem G114_eq (k : Nat) (v0 : List UInt8) (v1 : List (Int × List UInt8 × Unit)) (v2 : Int) : G114 k ((v0, v1, ()), v2, ()) = ocall (G115 k ((v0, v1, ()), v2, ())) fun r => ocall (G172 k (r.1, ())) fun r => some (r.1, ()) := by kernel_rfl
noncomputable def G116_5 (k : Nat) (j : Nat) (v : List (Int × List UInt8 × Unit) × Int × Int × List UInt8 × List (Int × List UInt8 × Unit) × Unit) : Option (Unit ⊕ Bool × Unit) := F116_5 k j v
theorem G116_5_eq (k : Nat) (j : Nat) (v0 : List (Int × List UInt8 × Unit)) (v1 v2 : Int) (v3 : List UInt8) (v4 : List (Int × List UInt8 × Unit)) : G116_5 k (j + 1) (v0, v1, v2, v3, v4, ()) = sel (decide (v2 < v1)) (sel (decide (0 ≤ v2)) (sel (decide (v2 < Int.ofNat v0.length)) (sel
 (decide (v2.toNat < v0.length)) (sel (decide (0 ≤ v2)) (sel (decide (v2 < Int.ofNat v4.length)) (sel (!decide ((v4.getD v2.toNat (0, [], ())).1 = (v0.getD v2.toNat (0, [], ())).1)) (some (Sum.inr (false, ()))) (G116_5 k j (v0, v1, IntKind.i64.wrap (v2 + 1), v3, v4,
 ()))) none) none) none) none) none) (some (Sum.inl ())) := by kernel_rfl
noncomputable def G116 (k : Nat) (v : (List UInt8 × List (Int × List UInt8 × Unit) × Unit) × (Int × List UInt8 × Int × Int × List UInt8 × List UInt8 × Unit) × Unit) : Option (Bool × Unit) := F116 k v
theorem G116_eq (k : Nat) (v0 : List UInt8) (v1 : List (Int × List UInt8 × Unit)) (v2 : Int) (v3 : List UInt8) (v4 v5 : Int) (v6 v7 : List UInt8) : G116 k ((v0, v1, ()), (v2, v3, v4, v5, v6, v7, ()), ()) = ocall (G109 k ((v2, v3, v4, v5, v6, v7, ()), ())) fun
 r => sel (!decide (Int.ofNat r.1.length = Int.ofNat v1.length)) (some (false, ())) (ocall (G116_5 k k (r.1, Int.ofNat r.1.length, 0, v0, v1, ())) fun e => esel e (fun v => some (true, ())) fun e => some (e.1, ())) := by kernel_rfl
noncomputable def G40 (k : Nat) (v : (List UInt8 × List (Int × List UInt8 × Unit) × Unit) × Unit) : Option ((Int × List UInt8 × Int × Int × List UInt8 × List UInt8 × Unit) × Int × Unit) := F40 k v
theorem G40_eq (k : Nat) (v0 : List UInt8) (v1 : List (Int × List UInt8 × Unit)) : G40 k ((v0, v1, ()), ()) = ocall (G44 k ((v0, v1, ()), ())) fun r => sel (!r.1) (some ((0, [], 0, 0, [], [], ()), 1, ())) (ocall (G113 k (v0, ())) fun r =>
 ocall (G114 k ((v0, v1, ()), 11, ())) fun r_1 => ocall (G114 k ((v0, v1, ()), 4, ())) fun r_2 => ocall (G115 k ((v0, v1, ()), 2, ())) fun r_3 => ocall (G115 k ((v0, v1, ()), 37, ())) fun r_4 => ocall (G115 k ((v0, v1, ()), 39,
 ())) fun r_5 => ocall (G115 k ((v0, v1, ()), 90, ())) fun r_6 => ocall (G116 k ((v0, v1, ()), (r.1, r_3.1, r_2.1, IntKind.u32.wrap r_1.1, r_4.1, r_5.1, ()), ())) fun r_7 => sel (!r_7.1) (sel (!r_7.1) (some ((0, [], 0, 0, [], [], ()), 3,
 ())) (sel (decide (5 ≤ r.1)) (ocall (G42 k (r.1, ())) fun r_8 => sel r_8.1 (ocall (G109 k ((r.1, r_3.1, r_2.1, IntKind.u32.wrap r_1.1, r_4.1, r_5.1, ()), ())) fun r_9 => sel (decide (4 < Int.ofNat r_9.1.length)) (sel (decide (Int.toNat 4 < r_9.1.length)) (sel (!decide
 (r_6.1 = (r_9.1.getD (Int.toNat 4) (0, [], ())).2.1)) (some ((0, [], 0, 0, [], [], ()), 11, ())) (ocall (G117 k (37, r_4.1, ())) fun r_10 => sel (!r_10.1) (some ((0, [], 0, 0, [], [], ()), 3, ())) (some ((r.1, r_3.1, r_2.1, IntKind.u32.wrap r_1.1,
 r_4.1, r_5.1, ()), 0, ())))) none) none) (ocall (G117 k (37, r_4.1, ())) fun r_9 => sel (!r_9.1) (some ((0, [], 0, 0, [], [], ()), 3, ())) (some ((r.1, r_3.1, r_2.1, IntKind.u32.wrap r_1.1, r_4.1, r_5.1, ()), 0, ())))) (ocall (G117 k (37,
 r_4.1, ())) fun r_8 => sel (!r_8.1) (some ((0, [], 0, 0, [], [], ()), 3, ())) (some ((r.1, r_3.1, r_2.1, IntKind.u32.wrap r_1.1, r_4.1, r_5.1, ()), 0, ()))))) (ocall (G42 k (r.1, ())) fun r_8 => sel r_8.1 (ocall (G107 k (r_3.1, ())) fun r_9 =>
 sel (!r_9.1) (some ((0, [], 0, 0, [], [], ()), 3, ())) (sel (decide (5 ≤ r.1)) (ocall (G42 k (r.1, ())) fun r_10 => sel r_10.1 (ocall (G109 k ((r.1, r_3.1, r_2.1, IntKind.u32.wrap r_1.1, r_4.1, r_5.1, ()), ())) fun r_11 => sel (decide (4 < Int.ofNat
 r_11.1.length)) (sel (decide (Int.toNat 4 < r_11.1.length)) (sel (!decide (r_6.1 = (r_11.1.getD (Int.toNat 4) (0, [], ())).2.1)) (some ((0, [], 0, 0, [], [], ()), 11, ())) (ocall (G117 k (37, r_4.1, ())) fun r_12 => sel (!r_12.1) (some ((0, [], 0, 0, [], [],
 ()), 3, ())) (some ((r.1, r_3.1, r_2.1, IntKind.u32.wrap r_1.1, r_4.1, r_5.1, ()), 0, ())))) none) none) (ocall (G117 k (37, r_4.1, ())) fun r_11 => sel (!r_11.1) (some ((0, [], 0, 0, [], [], ()), 3, ())) (some ((r.1, r_3.1, r_2.1,
 IntKind.u32.wrap r_1.1, r_4.1, r_5.1, ()), 0, ())))) (ocall (G117 k (37, r_4.1, ())) fun r_10 => sel (!r_10.1) (some ((0, [], 0, 0, [], [], ()), 3, ())) (some ((r.1, r_3.1, r_2.1, IntKind.u32.wrap r_1.1, r_4.1, r_5.1, ()), 0, ()))))) (sel
 (decide (5 ≤ r.1)) (ocall (G42 k (r.1, ())) fun r_9 => sel r_9.1 (ocall (G109 k ((r.1, r_3.1, r_2.1, IntKind.u32.wrap r_1.1, r_4.1, r_5.1, ()), ())) fun r_10 => sel (decide (4 < Int.ofNat r_10.1.length)) (sel (decide (Int.toNat 4 < r_10.1.length)) (sel (!decide (r_6.1 =
 (r_10.1.getD (Int.toNat 4) (0, [], ())).2.1)) (some ((0, [], 0, 0, [], [], ()), 11, ())) (ocall (G117 k (37, r_4.1, ())) fun r_11 => sel (!r_11.1) (some ((0, [], 0, 0, [], [], ()), 3, ())) (some ((r.1, r_3.1, r_2.1, IntKind.u32.wrap r_1.1, r_4.1,
 r_5.1, ()), 0, ())))) none) none) (ocall (G117 k (37, r_4.1, ())) fun r_10 => sel (!r_10.1) (some ((0, [], 0, 0, [], [], ()), 3, ())) (some ((r.1, r_3.1, r_2.1, IntKind.u32.wrap r_1.1, r_4.1, r_5.1, ()), 0, ())))) (ocall (G117 k (37, r_4.1,
 ())) fun r_9 => sel (!r_9.1) (some ((0, [], 0, 0, [], [], ()), 3, ())) (some ((r.1, r_3.1, r_2.1, IntKind.u32.wrap r_1.1, r_4.1, r_5.1, ()), 0, ())))))) := by kernel_rfl
noncomputable def G213 (k : Nat) (v : Int × Int × Int × Unit) : Option (Int × Int × Int × Unit ⊕ Int × Int × Int × Unit) := F213 k v
theorem G213_eq (k : Nat) (v0 v1 v2 : Int) : G213 k (v0, v1, v2, ()) = sel (decide (v0 ≤ 64)) (sel (decide (0 ≤ IntKind.i64.wrap (v0 - 1))) (some (Sum.inl (Int.fdiv 9223372036854775808 (2 ^ min (IntKind.i64.wrap (v0 - 1)).toNat 64), v1, v2, ()))) none) (sel (decide (0 ≤
 IntKind.i64.wrap (IntKind.i64.wrap (v0 - 64) - 1))) (some (Sum.inr (Int.fdiv 9223372036854775808 (2 ^ min (IntKind.i64.wrap (IntKind.i64.wrap (v0 - 64) - 1)).toNat 64), v1, v2, ()))) none) := by kernel_rfl
noncomputable def G214 (k : Nat) (v : (Int × Int × Unit) × Int × Unit) : Option (Bool × Unit) := F214 k v
theorem G214_eq (k : Nat) (v0 v1 v2 : Int) : G214 k ((v0, v1, ()), v2, ()) = ocall (G213 k (v2, v0, v1, ())) fun r => esel r (fun v => some (!decide (bits BinOp.and IntKind.u64 v.2.1 v.1 = 0), ())) fun e => some (!decide (bits BinOp.and IntKind.u64 e.2.2.1 e.1 = 0),
 ()) := by kernel_rfl
noncomputable def G190 (k : Nat) (v : (Int × Int × Unit) × Unit) : Option (Bool × Unit) := F190 k v
theorem G190_eq (k : Nat) (v0 v1 : Int) : G190 k ((v0, v1, ()), ()) = ocall (G214 k ((v0, v1, ()), 65, ())) fun r => sel (!r.1) (ocall (G214 k ((v0, v1, ()), 1, ())) fun r => some (r.1 == !decide (v1 = 0), ())) (some (false, ())) := by
 kernel_rfl
noncomputable def G212 (k : Nat) (v : Int × Unit) : Option (Bool × Unit) := F212 k v
theorem G212_eq (k : Nat) (v0 : Int) : G212 k (v0, ()) = sel (decide (1 < v0)) (sel (decide (v0 ≤ 128)) (some (!decide (v0 = 65), ())) (some (false, ()))) (some (false, ())) := by kernel_rfl
noncomputable def G189 (k : Nat) (v : (Int × Int × Unit) × Int × Unit) : Option ((Int × Int × Unit) × Int × Unit) := F189 k v
theorem G189_eq (k : Nat) (v0 v1 v2 : Int) : G189 k ((v0, v1, ()), v2, ()) = ocall (G190 k ((v0, v1, ()), ())) fun r => sel (!r.1) (some ((v0, v1, ()), 1, ())) (ocall (G212 k (v2, ())) fun r => sel (!r.1) (some ((v0, v1, ()), 1,
 ())) (ocall (G213 k (v2, v0, v1, ())) fun r => esel r (fun v => sel (!decide (v.2.2.1 = 0)) (some ((bits BinOp.or IntKind.u64 (bits BinOp.or IntKind.u64 v.2.1 v.1) 9223372036854775808, v.2.2.1, ()), 0, ())) (some ((bits BinOp.or IntKind.u64 v.2.1 v.1, v.2.2.1,
 ()), 0, ()))) fun e => sel (!decide (bits BinOp.or IntKind.u64 e.2.2.1 e.1 = 0)) (some ((bits BinOp.or IntKind.u64 e.2.1 9223372036854775808, bits BinOp.or IntKind.u64 e.2.2.1 e.1, ()), 0, ())) (some ((e.2.1, bits BinOp.or IntKind.u64 e.2.2.1 e.1, ()), 0,
 ())))) := by kernel_rfl
noncomputable def G140_3 (k : Nat) (j : Nat) (v : List Int × Int × Int × Int × Int × Int × Int × Unit) : Option (Int × Int × Int × Int × Unit ⊕ Int × Int × Int × Unit) := F140_3 k j v
theorem G140_3_eq (k : Nat) (j : Nat) (v0 : List Int) (v1 v2 v3 v4 v5 v6 : Int) : G140_3 k (j + 1) (v0, v1, v2, v3, v4, v5, v6, ()) = sel (decide (v2 < v1)) (sel (decide (0 ≤ v2)) (sel (decide (v2 < Int.ofNat v0.length)) (ocall (G189 k ((v5, v6, ()), v0.getD v2.toNat 0, ()))
 fun r => sel (!decide (r.2.1 = 0)) (some (Sum.inr (r.2.1, 0, 0, ()))) (G140_3 k j (v0, v1, IntKind.i64.wrap (v2 + 1), v3, v4, r.1.1, r.1.2.1, ()))) none) none) (some (Sum.inl (v3, v4, v5, v6, ()))) := by kernel_rfl
noncomputable def G140 (k : Nat) (v : List Int × Unit) : Option ((Int × Int × Unit) × Int × Unit) := F140 k v
theorem G140_eq (k : Nat) (v0 : List Int) : G140 k (v0, ()) = ocall (G140_3 k k (v0, Int.ofNat v0.length, 0, 0, 0, 0, 0, ())) fun e => esel e (fun v => some ((v.2.2.1, v.2.2.2.1, ()), 0, ())) fun e => some ((e.2.1, e.2.2.1, ()), e.1, ()) := by
 kernel_rfl
noncomputable def G191_2 (k : Nat) (j : Nat) (v : List Int × Int × Int × Unit) : Option (List Int × Unit) := F191_2 k j v
theorem G191_2_eq (k : Nat) (j : Nat) (v0 : List Int) (v1 v2 : Int) : G191_2 k (j + 1) (v0, v1, v2, ()) = sel (decide (v2 < 8)) (sel (decide (0 ≤ IntKind.i64.wrap (64 - IntKind.i64.wrap (8 * IntKind.i64.wrap (v2 + 1))))) (sel (decide ((v0.length + 1) * 1 ≤ 140737488355328)) (G191_2 k j (v0
 ++ [IntKind.u8.wrap (v1.fdiv (2 ^ min (IntKind.i64.wrap (64 - IntKind.i64.wrap (8 * IntKind.i64.wrap (v2 + 1)))).toNat 64))], v1, IntKind.i64.wrap (v2 + 1), ())) none) none) (some (v0, ())) := by kernel_rfl
noncomputable def G191 (k : Nat) (v : List Int × Int × Unit) : Option (List Int × Unit) := F191 k v
theorem G191_eq (k : Nat) (v0 : List Int) (v1 : Int) : G191 k (v0, v1, ()) = ocall (G191_2 k k (v0, v1, 0, ())) fun e => some (e.1, ()) := by kernel_rfl
noncomputable def G141 (k : Nat) (v : (Int × Int × Unit) × Unit) : Option (List Int × Int × Unit) := F141 k v
theorem G141_eq (k : Nat) (v0 v1 : Int) : G141 k ((v0, v1, ()), ()) = ocall (G190 k ((v0, v1, ()), ())) fun r => sel (!r.1) (some ([], 1, ())) (ocall (G191 k ([], v0, ())) fun r => sel (!decide (v1 = 0)) (ocall (G191 k (r.1, v1, ())) fun r =>
 some (r.1, 0, ())) (some (r.1, 0, ()))) := by kernel_rfl
noncomputable def G192 (k : Nat) (v : Int × Unit) : Option (List Int × Unit) := F192 k v
theorem G192_eq (k : Nat) (v0 : Int) : G192 k (v0, ()) = sel (decide (0 ≤ v0)) (sel (decide (v0 * 1 ≤ 140737488355328)) (some ([], ())) none) none := by kernel_rfl
noncomputable def G142_3 (k : Nat) (j : Nat) (v : List (List Int) × Int × List (List Int) × Int × Int × Unit) : Option (List (List Int) × Int × Unit) := F142_3 k j v
theorem G142_3_eq (k : Nat) (j : Nat) (v0 : List (List Int)) (v1 : Int) (v2 : List (List Int)) (v3 v4 : Int) : G142_3 k (j + 1) (v0, v1, v2, v3, v4, ()) = sel (decide (v4 < v3)) (sel (decide (0 ≤ v4)) (sel (decide (v4 < Int.ofNat v2.length)) (sel (decide (IntKind.i64.wrap (v1 + Int.ofNat
 (List.length (v2.getD v4.toNat []))) < 0)) none (G142_3 k j (v0, IntKind.i64.wrap (v1 + Int.ofNat (List.length (v2.getD v4.toNat []))), v2, v3, IntKind.i64.wrap (v4 + 1), ()))) none) none) (some (v0, v1, ())) := by kernel_rfl
noncomputable def G142_11 (k : Nat) (j : Nat) (v : List Int × List (List Int) × Int × Int × Unit) : Option (List Int × Unit) := F142_11 k j v
theorem G142_11_eq (k : Nat) (j : Nat) (v0 : List Int) (v1 : List (List Int)) (v2 v3 : Int) : G142_11 k (j + 1) (v0, v1, v2, v3, ()) = sel (decide (v3 < v2)) (sel (decide (0 ≤ v3)) (sel (decide (v3 < Int.ofNat v1.length)) (sel (decide ((v0.length + List.length (v1.getD v3.toNat [])) * 1 ≤
 140737488355328)) (G142_11 k j (v0 ++ v1.getD v3.toNat [], v1, v2, IntKind.i64.wrap (v3 + 1), ())) none) none) none) (some (v0, ())) := by kernel_rfl
noncomputable def G142 (k : Nat) (v : List (List Int) × Unit) : Option (List Int × Unit) := F142 k v
theorem G142_eq (k : Nat) (v0 : List (List Int)) : G142 k (v0, ()) = ocall (G142_3 k k (v0, 0, v0, Int.ofNat v0.length, 0, ())) fun e => ocall (G192 k (e.2.1, ())) fun r => ocall (G142_11 k k (r.1, e.1, Int.ofNat e.1.length, 0, ())) fun e => some (e.1, ()) :=
 by kernel_rfl
noncomputable def G79_6 (k : Nat) (j : Nat) (v : List Int × List Int × List (Int × List UInt8 × Unit) × Int × Int × List UInt8 × List (Int × List UInt8 × Unit) × Unit) : Option (List Int × List Int × List UInt8 × List (Int × List UInt8 × Unit) × Unit) := F79_6 k j v
theorem G79_6_eq (k : Nat) (j : Nat) (v0 v1 : List Int) (v2 : List (Int × List UInt8 × Unit)) (v3 v4 : Int) (v5 : List UInt8) (v6 : List (Int × List UInt8 × Unit)) : G79_6 k (j + 1) (v0, v1, v2, v3, v4, v5, v6, ()) = sel (decide (v4 < v3)) (sel (decide (0 ≤ v4)) (sel (decide (v4 <
 Int.ofNat v2.length)) (ocall (G139 k ((v2.getD v4.toNat (0, [], ())).1, (v2.getD v4.toNat (0, [], ())).2.1, ())) fun r => sel (decide ((v0.length + 1) * 8 ≤ 140737488355328)) (sel (decide ((v1.length + r.1.length) * 1 ≤ 140737488355328)) (G79_6 k j (v0 ++ [(v2.getD v4.toNat
 (0, [], ())).1], v1 ++ r.1, v2, v3, IntKind.i64.wrap (v4 + 1), v5, v6, ())) none) none) none) none) (some (v0, v1, v5, v6, ())) := by kernel_rfl
noncomputable def G79 (k : Nat) (v : (List UInt8 × List (Int × List UInt8 × Unit) × Unit) × Unit) : Option (List Int × Int × Unit) := F79 k v
theorem G79_eq (k : Nat) (v0 : List UInt8) (v1 : List (Int × List UInt8 × Unit)) : G79 k ((v0, v1, ()), ()) = ocall (G44 k ((v0, v1, ()), ())) fun r => sel (!r.1) (some ([], 1, ())) (ocall (G79_6 k k ([], [], v1, Int.ofNat v1.length, 0, v0, v1, ()))
 fun e => ocall (G140 k (e.1, ())) fun r => ocall (G141 k ((r.1.1, r.1.2.1, ()), ())) fun r => ocall (G142 k ([toBytes e.2.2.1, r.1, e.2.1], ())) fun r => some (r.1, 0, ())) := by kernel_rfl
noncomputable def G215_3 (k : Nat) (j : Nat) (v : Int × List Int × Int × Int × Unit) : Option (Int × Unit) := F215_3 k j v
theorem G215_3_eq (k : Nat) (j : Nat) (v0 : Int) (v1 : List Int) (v2 v3 : Int) : G215_3 k (j + 1) (v0, v1, v2, v3, ()) = sel (decide (v3 < v2)) (sel (decide (0 ≤ v3)) (sel (decide (v3 < Int.ofNat v1.length)) (G215_3 k j (bits BinOp.or IntKind.u64 (IntKind.u64.wrap (v0 * 2 ^ min (Int.toNat 8)
 64)) (IntKind.u64.wrap (v1.getD v3.toNat 0)), v1, v2, IntKind.i64.wrap (v3 + 1), ())) none) none) (some (v0, ())) := by kernel_rfl
noncomputable def G215 (k : Nat) (v : List Int × Unit) : Option (Int × Unit) := F215 k v
theorem G215_eq (k : Nat) (v0 : List Int) : G215 k (v0, ()) = sel (decide (8 ≤ Int.ofNat v0.length)) (sel (decide (Int.ofNat v0.length ≤ Int.ofNat v0.length)) (ocall (G215_3 k k (0, List.drop (Int.ofNat 0).toNat (List.take (Int.toNat 8) v0), Int.ofNat (List.drop (Int.ofNat 0).toNat
 (List.take (Int.toNat 8) v0)).length, 0, ())) fun e => some (e.1, ())) none) none := by kernel_rfl
noncomputable def G193 (k : Nat) (v : List Int × Unit) : Option ((Int × Int × Unit) × Int × Int × Unit) := F193 k v
theorem G193_eq (k : Nat) (v0 : List Int) : G193 k (v0, ()) = sel (decide (Int.ofNat v0.length < 8)) (some ((0, 0, ()), 0, 2, ())) (ocall (G215 k (v0, ())) fun r => ocall (G214 k ((r.1, 0, ()), 1, ())) fun r_1 => sel r_1.1 (sel (decide (Int.ofNat
 v0.length < 16)) (some ((0, 0, ()), 0, 2, ())) (sel (decide (8 ≤ Int.ofNat v0.length)) (sel (decide (Int.ofNat v0.length ≤ Int.ofNat v0.length)) (sel (decide (Int.ofNat v0.length ≤ Int.ofNat v0.length)) (ocall (G215 k (List.drop (Int.toNat 8) (List.take (Int.ofNat v0.length).toNat
 v0), ())) fun r_2 => ocall (G190 k ((r.1, r_2.1, ()), ())) fun r_3 => sel (!r_3.1) (some ((0, 0, ()), 0, 3, ())) (some ((r.1, r_2.1, ()), 16, 0, ()))) none) none) none)) (ocall (G190 k ((r.1, 0, ()), ())) fun r_2 => sel (!r_2.1)
 (some ((0, 0, ()), 0, 3, ())) (some ((r.1, 0, ()), 8, 0, ())))) := by kernel_rfl
noncomputable def G216 (k : Nat) (v : (Int × Int × Unit) × Int × Unit) : Option (Bool × Unit) := F216 k v
theorem G216_eq (k : Nat) (v0 v1 v2 : Int) : G216 k ((v0, v1, ()), v2, ()) = ocall (G212 k (v2, ())) fun r => sel r.1 (ocall (G214 k ((v0, v1, ()), v2, ())) fun r => some (r.1, ())) (some (false, ())) := by kernel_rfl
noncomputable def G194_g0 (k : Nat) (j : Nat) (v : List Int × Int × Int × Int × Unit) : Option (List Int × Unit) := F194_g0 k j v
theorem G194_g0_eq (k : Nat) (j : Nat) (v0 : List Int) (v1 v2 v3 : Int) : G194_g0 k (j + 1) (v0, v1, v2, v3, ()) = ocall (G216 k ((v2, v3, ()), v1, ())) fun r => sel r.1 (sel (decide ((v0.length + 1) * 8 ≤ 140737488355328)) (sel (decide (IntKind.i64.wrap (v1 + 1) ≤ 128))
 (G194_g0 k j (v0 ++ [v1], IntKind.i64.wrap (v1 + 1), v2, v3, ())) (some (v0 ++ [v1], ()))) none) (sel (decide (IntKind.i64.wrap (v1 + 1) ≤ 128)) (G194_g0 k j (v0, IntKind.i64.wrap (v1 + 1), v2, v3, ())) (some (v0, ()))) := by kernel_rfl
noncomputable def G194 (k : Nat) (v : (Int × Int × Unit) × Unit) : Option (List Int × Unit) := F194 k v
theorem G194_eq (k : Nat) (v0 v1 : Int) : G194 k ((v0, v1, ()), ()) = ocall (G216 k ((v0, v1, ()), 2, ())) fun r => sel r.1 (ocall (G194_g0 k k ([2], IntKind.i64.wrap (2 + 1), v0, v1, ())) fun e => some (e.1, ())) (ocall (G194_g0 k k ([],
 IntKind.i64.wrap (2 + 1), v0, v1, ())) fun e => some (e.1, ())) := by kernel_rfl
noncomputable def G143 (k : Nat) (v : List Int × Unit) : Option (List UInt8 × List Int × List Int × Int × Unit) := F143 k v
theorem G143_eq (k : Nat) (v0 : List Int) : G143 k (v0, ()) = sel (decide (Int.ofNat v0.length < 4)) (some ([], [], [], 2, ())) (sel (decide (4 ≤ Int.ofNat v0.length)) (sel (decide (Int.ofNat v0.length ≤ Int.ofNat v0.length)) (ocall (G121 k (ofBytes (List.drop (Int.ofNat 0).toNat
 (List.take (Int.toNat 4) v0)), ())) fun r => sel (!r.1) (some ([], [], [], 3, ())) (sel (decide (4 ≤ Int.ofNat v0.length)) (sel (decide (Int.ofNat v0.length ≤ Int.ofNat v0.length)) (sel (decide (Int.ofNat v0.length ≤ Int.ofNat v0.length)) (ocall (G193 k (List.drop (Int.toNat 4)
 (List.take (Int.ofNat v0.length).toNat v0), ())) fun r => sel (decide (4 ≤ Int.ofNat v0.length)) (sel (decide (Int.ofNat v0.length ≤ Int.ofNat v0.length)) (ocall (G194 k ((r.1.1, r.1.2.1, ()), ())) fun r_1 => sel (decide (0 ≤ IntKind.i64.wrap (4 + r.2.1))) (sel (decide
 (IntKind.i64.wrap (4 + r.2.1) ≤ Int.ofNat v0.length)) (sel (decide (Int.ofNat v0.length ≤ Int.ofNat v0.length)) (sel (decide (Int.ofNat v0.length ≤ Int.ofNat v0.length)) (some (ofBytes (List.drop (Int.ofNat 0).toNat (List.take (Int.toNat 4) v0)), r_1.1, List.drop (IntKind.i64.wrap (4 + r.2.1)).toNat
 (List.take (Int.ofNat v0.length).toNat v0), r.2.2.1, ())) none) none) none) none) none) none) none) none) none)) none) none) := by kernel_rfl
noncomputable def G80_8 (k : Nat) (j : Nat) (v : List Int × List Int × Int × Int × List UInt8 × List (Int × List UInt8 × Unit) × List UInt8 × List (Int × List UInt8 × Unit) × Unit) : Option (List Int × List UInt8 × List (Int × List UInt8 × Unit) × List UInt8 × List (Int × List UInt8 × Unit) ×
 Unit ⊕ Int × List UInt8 × List (Int × List UInt8 × Unit) × Unit) := F80_8 k j v
theorem G80_8_eq (k : Nat) (j : Nat) (v0 v1 : List Int) (v2 v3 : Int) (v4 : List UInt8) (v5 : List (Int × List UInt8 × Unit)) (v6 : List UInt8) (v7 : List (Int × List UInt8 × Unit)) : G80_8 k (j + 1) (v0, v1, v2, v3, v4, v5, v6, v7, ()) = sel (decide (v3 < v2)) (sel (decide (0 ≤ v3)) (sel
 (decide (v3 < Int.ofNat v1.length)) (sel (decide (v3.toNat < v1.length)) (ocall (G144 k (v1.getD v3.toNat 0, v0, ())) fun r => sel (!decide (r.2.2.1 = 0)) (some (Sum.inr (r.2.2.1, [], [], ()))) (sel (decide ((v7.length + 1) * 24 ≤ 140737488355328)) (sel (decide (0 ≤ r.2.1)) (sel
 (decide (r.2.1 ≤ Int.ofNat v0.length)) (sel (decide (Int.ofNat v0.length ≤ Int.ofNat v0.length)) (sel (decide (Int.ofNat v0.length ≤ Int.ofNat v0.length)) (G80_8 k j (List.drop r.2.1.toNat (List.take (Int.ofNat v0.length).toNat v0), v1, v2, IntKind.i64.wrap (v3 + 1), v4, v5, v6, v7 ++ [(v1.getD
 v3.toNat 0, r.1, ())], ())) none) none) none) none) none)) none) none) none) (some (Sum.inl (v0, v4, v5, v6, v7, ()))) := by kernel_rfl
noncomputable def G80 (k : Nat) (v : List Int × Unit) : Option ((List UInt8 × List (Int × List UInt8 × Unit) × Unit) × Int × Unit) := F80 k v
theorem G80_eq (k : Nat) (v0 : List Int) : G80 k (v0, ()) = ocall (G143 k (v0, ())) fun r => sel (!decide (r.2.2.2.1 = 0)) (some (([], [], ()), r.2.2.2.1, ())) (sel (decide (Int.ofNat r.2.1.length = 0)) (some (([], [], ()), 3, ())) (ocall (G80_8 k k
 (r.2.2.1, r.2.1, Int.ofNat r.2.1.length, 0, [], [], r.1, [], ())) fun e => esel e (fun v => sel (decide (0 < Int.ofNat v.1.length)) (some (([], [], ()), 4, ())) (some ((v.2.2.2.1, v.2.2.2.2.1, ()), 0, ()))) fun e => some ((e.2.1, e.2.2.1, ()), e.1,
 ()))) := by kernel_rfl
end Go.Proofs.YtjgnpmdbkgeakaaDoor.G
end
section
set_option linter.unusedVariables false
set_option linter.unusedSimpArgs false
namespace Go.Proofs.YtjgnpmdbkgeakaaDoor.G
open Go Go.Proofs.YtjgnpmdbkgeakaaDoor Th
def dgt (c : UInt8) : Bool := decide (48 ≤ c.toNat) && decide (c.toNat ≤ 57)
def isDig (s : List UInt8) : Bool := decide (0 < s.length) && s.all dgt
theorem dgt_iff {c : UInt8} : dgt c = true ↔ 48 ≤ c.toNat ∧ c.toNat ≤ 57 := by simp [dgt]
theorem drop_at {α : Type} {s : List α} {i : Nat} (h : i < s.length) : s.drop i = s[i] :: s.drop (i + 1) := List.drop_eq_getElem_cons h
theorem G169_g0_is (k : Nat) (s : List UInt8) (hs : s.length ≤ maxLen) : ∀ (j i : Nat), i + j = s.length → ∀ n, j < n → G169_g0 k n (s, (i : Int), ()) = some (decide (0 < s.length) && (s.drop i).all dgt, ()) := by
  rw [maxLen_eq] at hs
  intro j
  induction j with
  | zero =>
    intro i hij n hn
    obtain ⟨n, rfl⟩ : ∃ m, n = m + 1 := ⟨n - 1, by omega⟩
    rw [G169_g0_eq, sel_pos (by simp only [ofNat_len]; omega)]
    rw [List.drop_eq_nil_of_le (by omega)]
    have : decide ((0 : Int) < (i : Int)) = decide (0 < s.length) := decide_eq_decide.2 (by omega)
    simp only [this, List.all_nil, Bool.and_true]
  | succ j ih =>
    intro i hij n hn
    obtain ⟨n, rfl⟩ : ∃ m, n = m + 1 := ⟨n - 1, by omega⟩
    have hlt : i < s.length := by omega
    rw [G169_g0_eq]
    simp only [ofNat_len, Int.toNat_natCast, getD_of hlt, Int.ofNat_eq_natCast]
    rw [sel_neg (by omega), sel_pos (by omega), sel_pos (by omega)]
    rw [drop_at hlt, List.all_cons]
    have hp : decide (0 < s.length) = true := by simp; omega
    by_cases c1 : ((s[i]).toNat : Int) < 48
    · rw [sel_pos c1]
      have : dgt s[i] = false := by rw [Bool.eq_false_iff, Ne, dgt_iff]; omega
      simp [this]
    · rw [sel_neg c1, sel_pos (by omega), sel_pos (by omega)]
      by_cases c2 : (57 : Int) < ((s[i]).toNat : Int)
      · rw [sel_pos c2]
        have : dgt s[i] = false := by rw [Bool.eq_false_iff, Ne, dgt_iff]; omega
        simp [this]
      · rw [sel_neg c2]
        have : dgt s[i] = true := by rw [dgt_iff]; omega
        rw [this, wrap64 (by omega) (by omega)]
        have := ih (i + 1) (by omega) n (by omega)
        simpa using this
theorem G169_is (k : Nat) (s : List UInt8) (hs : s.length ≤ maxLen) (hk : s.length < k) : G169 k (s, ()) = some (isDig s, ()) := by
  have hs' := hs
  rw [maxLen_eq] at hs'
  rw [G169_eq]
  simp only [ofNat_len, isDig]
  cases hs0 : s with
  | nil => rfl
  | cons c t =>
    rw [← hs0]
    have hlt : 0 < s.length := by rw [hs0]; simp
    simp only [Int.ofNat_eq_natCast, show Int.toNat (0 : Int) = 0 from rfl, getD_of hlt]
    rw [sel_neg (by omega), sel_pos (by omega)]
    have hp : decide (0 < s.length) = true := by simp; omega
    have hd := drop_at hlt
    rw [List.drop_zero] at hd
    rw [hp, Bool.true_and]
    have e0 : s.all dgt = (dgt s[0] && (s.drop 1).all dgt) := by
      conv => lhs; rw [hd]
      rw [List.all_cons]
    rw [e0]
    by_cases c1 : ((s[0]).toNat : Int) < 48
    · rw [sel_pos c1]
      have : dgt s[0] = false := by rw [Bool.eq_false_iff, Ne, dgt_iff]; omega
      rw [this]; rfl
    · rw [sel_neg c1, sel_pos (by omega)]
      by_cases c2 : (57 : Int) < ((s[0]).toNat : Int)
      · rw [sel_pos c2]
        have : dgt s[0] = false := by rw [Bool.eq_false_iff, Ne, dgt_iff]; omega
        rw [this]; rfl
      · rw [sel_neg c2]
        have : dgt s[0] = true := by rw [dgt_iff]; omega
        rw [this, wrap64 (by omega) (by omega)]
        have := G169_g0_is k s hs (s.length - 1) 1 (by omega) k (by omega)
        rw [show ((0 : Int) + 1) = ((1 : Nat) : Int) from rfl, this, hp]
        simp
def digs (v : Nat) : Nat → List UInt8
  | 0 => []
  | n + 1 => digs (v / 10) n ++ [UInt8.ofNat (48 + v % 10)]
theorem digs_len (n : Nat) : ∀ v, (digs v n).length = n := by
  induction n with
  | zero => intro v; rfl
  | succ n ih => intro v; simp [digs, ih]
theorem chr_toNat {n : Nat} (h : n < 256) : (UInt8.ofNat n).toNat = n := by rw [UInt8.toNat_ofNat']; omega
theorem ofBytes_append (a b : List Int) : ofBytes (a ++ b) = ofBytes a ++ ofBytes b := by simp [ofBytes]
theorem G105_5_is (k : Nat) : ∀ (i : Nat) (v : Nat) (pre post : List Int), v < 18446744073709551616 → pre.length = i → i ≤ 19 → ∀ n, i < n →
    ∃ mid, mid.length = i ∧ G105_5 k n ((v : Int), pre ++ post, (i : Int) - 1, ()) = some (((v / 10 ^ i : Nat) : Int), mid ++ post, ()) ∧ ofBytes mid = digs v i := by
  intro i
  induction i with
  | zero =>
    intro v pre post hv hp hi n hn
    obtain ⟨n, rfl⟩ : ∃ m, n = m + 1 := ⟨n - 1, by omega⟩
    have : pre = [] := List.length_eq_zero_iff.1 hp
    subst this
    refine ⟨[], rfl, ?_, rfl⟩
    rw [G105_5_eq, sel_neg (by (try simp only []); omega)]
    simp
  | succ i ih =>
    intro v pre post hv hp hi n hn
    obtain ⟨n, rfl⟩ : ∃ m, n = m + 1 := ⟨n - 1, by omega⟩
    obtain ⟨pre', x, rfl⟩ : ∃ p x, pre = p ++ [x] := ⟨pre.dropLast, pre.getLast (by intro h; rw [h] at hp; simp at hp), (List.dropLast_concat_getLast _).symm⟩
    have hp' : pre'.length = i := by simpa using hp
    have hd : v % 10 < 10 := Nat.mod_lt _ (by omega)
    have e1 : ((v : Int)).tdiv 10 = ((v / 10 : Nat) : Int) := by simp [Int.tdiv_eq_ediv_of_nonneg]
    have e2 : ((v : Int)).tmod 10 = ((v % 10 : Nat) : Int) := by simp [Int.tmod_eq_emod_of_nonneg]
    have e3 : (((i + 1 : Nat) : Int) - 1) = (i : Int) := by omega
    rw [G105_5_eq]
    simp only [e1, e2, e3, ofNat_len, Int.toNat_natCast]
    rw [sel_pos (by omega), sel_pos (by omega), sel_pos (by simp; omega), sel_pos (by simp; omega)]
    have w1 : IntKind.u64.wrap ((v / 10 : Nat) : Int) = ((v / 10 : Nat) : Int) := wrapu64 (by omega) (by omega)
    have w2 : IntKind.u8.wrap ((v % 10 : Nat) : Int) = ((v % 10 : Nat) : Int) := wrapu8 (by omega) (by omega)
    have w3 : IntKind.u8.wrap (48 + ((v % 10 : Nat) : Int)) = 48 + ((v % 10 : Nat) : Int) := wrapu8 (by omega) (by omega)
    have w4 : IntKind.i64.wrap ((i : Int) - 1) = (i : Int) - 1 := wrap64 (by omega) (by omega)
    rw [w1, w2, w3, w4]
    have hset : (pre' ++ [x] ++ post).set i (48 + ((v % 10 : Nat) : Int)) = pre' ++ ((48 + ((v % 10 : Nat) : Int)) :: post) := by
      rw [List.append_assoc, List.set_append_right _ _ (by omega)]
      simp [hp']
    rw [hset]
    obtain ⟨mid, m1, m2, m3⟩ := ih (v / 10) pre' ((48 + ((v % 10 : Nat) : Int)) :: post) (by omega) hp' (by omega) n (by omega)
    refine ⟨mid ++ [48 + ((v % 10 : Nat) : Int)], by simp [m1], ?_, ?_⟩
    · rw [m2, Nat.div_div_eq_div_mul, Nat.pow_succ, Nat.mul_comm (10 ^ i) 10]
      simp
    · rw [ofBytes_append, m3, digs]
      have : (48 + ((v % 10 : Nat) : Int)).toNat = 48 + v % 10 := by omega
      show _ ++ [UInt8.ofNat (48 + ((v % 10 : Nat) : Int)).toNat] = _
      rw [this]
def putOK (v : Nat) (n : Int) : List UInt8 × Int :=
  if n < 1 ∨ 19 < n then ([], 1) else if v / 10 ^ n.toNat = 0 then (digs v n.toNat, 0) else ([], 10)
theorem G105_is (k : Nat) (hk : 20 < k) (v : Nat) (n : Int) (hv : v < 18446744073709551616) : G105 k ((v : Int), n, ()) = some ((putOK v n).1, (putOK v n).2, ()) := by
  rw [G105_eq]
  unfold putOK
  by_cases c1 : n < 1
  · rw [sel_pos c1, if_pos (.inl c1)]
  rw [sel_neg c1]
  by_cases c2 : 19 < n
  · rw [sel_pos c2, if_pos (.inr c2)]
  rw [sel_neg c2, if_neg (by omega)]
  obtain ⟨m, rfl⟩ : ∃ m : Nat, n = (m : Int) := ⟨n.toNat, by omega⟩
  simp only [Int.toNat_natCast]
  rw [sel_pos (by omega), sel_pos (by omega), sel_pos (by omega), sel_pos (by simp only [Int.ofNat_eq_natCast]; omega)]
  obtain ⟨mid, m1, m2, m3⟩ := G105_5_is k m v (List.replicate m 0) [] hv (by simp) (by omega) k (by omega)
  rw [wrap64 (by omega) (by omega)]
  simp only [List.append_nil] at m2
  have m2' : G105_5 k k ((v : Int), List.replicate m (OfNat.ofNat (0 : Nat)), (m : Int) - 1, ()) = some (((v / 10 ^ m : Nat) : Int), mid, ()) := m2
  rw [m2', ocall_some]
  generalize v / 10 ^ m = q
  by_cases c3 : q = 0
  · rw [sel_neg (by simp only [c3]; omega), if_pos c3, m3]
  · rw [sel_pos (by (try simp only []); omega), if_neg c3]
def val (a : Nat) (s : List UInt8) : Nat := s.foldl (fun a c => 10 * a + (c.toNat - 48)) a
theorem val_cons (a : Nat) (c : UInt8) (s : List UInt8) : val a (c :: s) = val (10 * a + (c.toNat - 48)) s := by unfold val; rw [List.foldl_cons]
theorem pow_le19 {i : Nat} (h : i ≤ 19) : 10 ^ i ≤ 10 ^ 19 := Nat.pow_le_pow_right (by omega) h
theorem G172_9_is (k : Nat) (s : List UInt8) (hs : s.length ≤ 19) (hd : s.all dgt = true) : ∀ (j i a : Nat), i + j = s.length → a < 10 ^ i → ∀ n, j < n →
    G172_9 k n ((a : Int), toBytes s, ((toBytes s).length : Int), (i : Int), ()) = some ((val a (s.drop i) : Int), ()) := by
  have hl : (toBytes s).length = s.length := by simp [toBytes]
  intro j
  induction j with
  | zero =>
    intro i a hij ha n hn
    obtain ⟨n, rfl⟩ : ∃ m, n = m + 1 := ⟨n - 1, by omega⟩
    rw [G172_9_eq, sel_neg (by simp only [hl]; omega), List.drop_eq_nil_of_le (by omega)]
    rfl
  | succ j ih =>
    intro i a hij ha n hn
    obtain ⟨n, rfl⟩ : ∃ m, n = m + 1 := ⟨n - 1, by omega⟩
    have hlt : i < s.length := by omega
    have hc := List.all_eq_true.1 hd s[i] (List.getElem_mem _)
    rw [dgt_iff] at hc
    have hg : (toBytes s).getD i (OfNat.ofNat 0) = ((s[i]).toNat : Int) := by rw [getD_of (by omega)]; simp [toBytes]
    have hp : 10 ^ i * 10 ≤ 10 ^ 19 := by rw [← Nat.pow_succ]; exact pow_le19 (by omega)
    have hp' : a + 1 ≤ 10 ^ i := ha
    have hp2 : (a + 1) * 10 ≤ 10 ^ i * 10 := Nat.mul_le_mul_right _ hp'
    rw [G172_9_eq]
    simp only [Int.toNat_natCast, hg, ofNat_len, hl]
    have w1 : IntKind.u8.wrap (((s[i]).toNat : Int) - 48) = (((s[i]).toNat - 48 : Nat) : Int) := by rw [wrapu8 (by omega) (by omega)]; omega
    have w2 : IntKind.u64.wrap (((s[i]).toNat - 48 : Nat) : Int) = (((s[i]).toNat - 48 : Nat) : Int) := wrapu64 (by omega) (by omega)
    have w3 : IntKind.u64.wrap (10 * (a : Int)) = 10 * (a : Int) := wrapu64 (by omega) (by omega)
    have w4 : IntKind.u64.wrap (10 * (a : Int) + (((s[i]).toNat - 48 : Nat) : Int)) = ((10 * a + ((s[i]).toNat - 48) : Nat) : Int) := by rw [wrapu64 (by omega) (by omega)]; omega
    rw [sel_pos (by omega), sel_pos (by omega), sel_pos (by omega), sel_pos (by omega), w1, w2, w3, w4, wrap64 (by omega) (by omega), drop_at hlt, val_cons]
    have := ih (i + 1) (10 * a + ((s[i]).toNat - 48)) (by omega) (by rw [Nat.pow_succ]; omega) n (by omega)
    rw [hl] at this
    exact this
def getOK (s : List UInt8) : Nat × Int := if s.length = 0 then (0, 2) else if 19 < s.length then (0, 4) else if isDig s = true then (val 0 s, 0) else (0, 3)
theorem G172_is (k : Nat) (s : List UInt8) (hk : 20 < k) : G172 k (s, ()) = some (((getOK s).1 : Int), (getOK s).2, ()) := by
  rw [G172_eq]
  unfold getOK
  by_cases c1 : s.length = 0
  · rw [if_pos c1, sel_pos (List.length_eq_zero_iff.1 c1)]; rfl
  rw [if_neg c1, sel_neg (fun h => c1 (List.length_eq_zero_iff.2 h))]
  simp only [ofNat_len]
  by_cases c2 : 19 < s.length
  · rw [if_pos c2, sel_pos (by omega)]; rfl
  rw [if_neg c2, sel_neg (by omega), G169_is k s (by rw [maxLen_eq]; omega) (by omega)]
  simp only [ocall_some, sel_not]
  cases hd : isDig s with
  | false => rfl
  | true =>
    rw [sel_true, if_pos rfl]
    have hd' : s.all dgt = true := by simp [isDig] at hd; simpa using hd.2
    have := G172_9_is k s (by omega) hd' s.length 0 0 (by omega) (by simp) k (by omega)
    simp only [Int.natCast_zero, List.drop_zero] at this
    rw [this]; rfl
end Go.Proofs.YtjgnpmdbkgeakaaDoor.G
end
section
set_option linter.unusedVariables false
set_option linter.unusedSimpArgs false
set_option maxRecDepth 100000
namespace Go.Proofs.YtjgnpmdbkgeakaaDoor.G
open Go Go.Proofs.YtjgnpmdbkgeakaaDoor Th
abbrev Def := Int × Int × Int × Unit
def D : List Def := [(2, 3, 19, ()), (3, 1, 6, ()), (4, 1, 12, ()), (7, 1, 10, ()), (11, 1, 6, ()), (12, 1, 6, ()), (37, 2, 12, ()), (38, 2, 6, ()), (39, 2, 2, ()), (41, 2, 8, ()), (44, 4, 25, ()), (48, 5, 999, ()), (49, 1, 3, ()), (90, 1, 42, ()), (120, 5, 999, ())]
def defOf (n : Int) : Option Def := D.find? fun d => decide (d.1 = n)
theorem G175_2_is (k : Nat) (n a b c : Int) (l : List Def) (hl : l.length ≤ 1000) : ∀ (j i : Nat), i + j = l.length → ∀ m, j < m →
    G175_2 k m (n, l, (l.length : Int), (i : Int), a, b, c, ()) = some (match (l.drop i).find? (fun d => decide (d.1 = n)) with
      | some d => .inr (true, d)
      | none => .inl (a, b, c, ())) := by
  intro j
  induction j with
  | zero =>
    intro i hij m hm
    obtain ⟨m, rfl⟩ : ∃ q, m = q + 1 := ⟨m - 1, by omega⟩
    rw [G175_2_eq, sel_neg (by (try simp only []); omega), List.drop_eq_nil_of_le (by omega)]
    rfl
  | succ j ih =>
    intro i hij m hm
    obtain ⟨m, rfl⟩ : ∃ q, m = q + 1 := ⟨m - 1, by omega⟩
    have hlt : i < l.length := by omega
    rw [G175_2_eq]
    simp only [ofNat_len, Int.toNat_natCast, getD_of hlt]
    rw [sel_pos (by omega), sel_pos (by omega), sel_pos (by omega), sel_pos (by omega), drop_at hlt, List.find?_cons]
    by_cases h : l[i].1 = n
    · rw [sel_pos h]
      simp only [h, decide_true]
      rw [← h]
    · rw [sel_neg h, wrap64 (by omega) (by omega)]
      simp only [h, decide_false]
      exact ih (i + 1) (by omega) m (by omega)
def defR (n : Int) : Def × Bool := match defOf n with
  | some d => (d, true)
  | none => ((0, 0, 0, ()), false)
theorem G175_is (k : Nat) (hk : 20 < k) (n : Int) : G175 k (n, ()) = some ((defR n).1, (defR n).2, ()) := by
  rw [G175_eq]
  have := G175_2_is k n 0 0 0 D (by decide) 15 0 (by decide) k (by omega)
  rw [show ((D.length : Nat) : Int) = Int.ofNat 15 from rfl, show (((0 : Nat) : Int)) = 0 from rfl, List.drop_zero, show (D.find? fun d => decide (d.1 = n)) = defOf n from rfl] at this
  show (ocall (G175_2 k k (n, D, Int.ofNat 15, 0, 0, 0, 0, ())) _) = _
  rw [this, ocall_some]
  unfold defR
  cases defOf n <;> rfl
def flat : List Def → List Int
  | [] => []
  | d :: l => d.1 :: d.2.1 :: d.2.2.1 :: flat l
theorem defOf_mem {n : Int} {d : Def} (h : defOf n = some d) : d ∈ D ∧ d.1 = n := by
  refine ⟨List.mem_of_find?_eq_some h, ?_⟩
  have := List.find?_some h
  simpa using this
theorem D_all : ∀ d ∈ D, 2 ≤ d.1 ∧ d.1 ≤ 128 ∧ 1 ≤ d.2.1 ∧ d.2.1 ≤ 5 ∧ 1 ≤ d.2.2.1 ∧ d.2.2.1 ≤ 999 ∧ ((d.2.1 = 3 ∨ d.2.1 = 4) → d.2.2.1 ≤ 99) := by
  decide
def ahead (kind : Int) : Nat := if kind = 3 ∨ kind = 4 then 2 else if kind = 5 then 3 else 0
def sized (d : Def) (n : Nat) : Bool := if ahead d.2.1 = 0 then decide ((n : Int) = d.2.2.1) else decide (1 ≤ n) && decide ((n : Int) ≤ d.2.2.1)
def signs (d : Def) (s : List UInt8) : Bool := Signs.signsOf d.2.1 (isDig s) s
def rightF (n : Int) (s : List UInt8) : Bool := match defOf n with
  | some d => sized d s.length && signs d s
  | none => false
theorem G177_is (k : Nat) (d : Def) (s : List UInt8) (hs : s.length ≤ maxLen) (hk : s.length < k) : G177 k ((d.1, d.2.1, d.2.2.1, ()), s, ()) = some (signs d s, ()) := by
  rw [G177_eq, sel_pos (by rw [maxLen_eq] at hs; (try simp only []); omega), G169_is k s hs hk, ocall_some]
  rfl
theorem G176_is (k : Nat) (d : Def) : G176 k ((d.1, d.2.1, d.2.2.1, ()), ()) = some (if ahead d.2.1 = 0 then .inr ((d.2.2.1, ()), ()) else .inl ((((ahead d.2.1 : Nat) : Int), d.2.2.1, ()), ())) := by
  rw [G176_eq]
  unfold ahead
  simp only [sel_dec]
  by_cases h3 : d.2.1 = 3
  · simp [h3]
  · by_cases h4 : d.2.1 = 4
    · simp [h4]
    · by_cases h5 : d.2.1 = 5
      · simp [h5]
      · simp [h3, h4, h5]
theorem G117_is (k : Nat) (hk : 20 < k) (n : Int) (s : List UInt8) (hs : s.length ≤ maxLen) (hks : s.length < k) : G117 k (n, s, ()) = some (rightF n s, ()) := by
  rw [G117_eq, G175_is k hk, ocall_some]
  unfold rightF defR
  cases defOf n with
  | none => rfl
  | some d =>
    simp only [sel_true, G176_is, ocall_some]
    unfold sized
    by_cases h : ahead d.2.1 = 0
    · rw [if_pos h, esel_inr, G248_eq, ocall_some, if_pos h, G177_is k d s hs hks]
      simp only [sel_dec, ofNat_len, ocall_some]
      by_cases c : (s.length : Int) = d.2.2.1 <;> simp [c]
    · rw [if_neg h, esel_inl, G246_eq, if_neg h, G177_is k d s hs hks]
      simp only [sel_dec, ofNat_len, ocall_some]
      by_cases c : (1 : Int) ≤ s.length
      · have c' : 1 ≤ s.length := by omega
        rw [if_pos c, ocall_some]
        by_cases c2 : (s.length : Int) ≤ d.2.2.1 <;> simp [c', c2]
      · have c' : ¬ 1 ≤ s.length := by omega
        rw [if_neg c, ocall_some]
        simp [c']
theorem G144_none (k : Nat) (hk : 20 < k) (n : Int) (l : List Int) (h : defOf n = none) : G144 k (n, l, ()) = some ([], 0, 5, ()) := by
  rw [G144_eq, G175_is k hk, ocall_some]
  unfold defR
  rw [h]; rfl
end Go.Proofs.YtjgnpmdbkgeakaaDoor.G
end
section
set_option linter.unusedVariables false
set_option linter.unusedSimpArgs false
namespace Go.Proofs.YtjgnpmdbkgeakaaDoor.G
open Go Go.Proofs.YtjgnpmdbkgeakaaDoor Th
theorem ahead_cases {kind : Int} : ahead kind = 0 ∨ ahead kind = 2 ∨ ahead kind = 3 := by unfold ahead; split <;> (try split) <;> simp
theorem ahead_two {kind : Int} (h : ahead kind = 2) : kind = 3 ∨ kind = 4 := by
  unfold ahead at h; split at h
  · assumption
  · split at h <;> cases h
def writeF (d : Def) (s : List UInt8) : List UInt8 := if ahead d.2.1 = 0 then s else digs s.length (ahead d.2.1) ++ s
theorem put_len {d : Def} (hd : d ∈ D) {n : Nat} (h : sized d n = true) (ha : ahead d.2.1 ≠ 0) : putOK n ((ahead d.2.1 : Nat) : Int) = (digs n (ahead d.2.1), 0) := by
  obtain ⟨_, _, _, _, h1, h2, h3⟩ := D_all d hd
  unfold sized at h
  rw [if_neg ha] at h
  simp only [Bool.and_eq_true, decide_eq_true_eq] at h
  rcases ahead_cases (kind := d.2.1) with e | e | e
  · exact absurd e ha
  · have := h3 (ahead_two e)
    rw [e]
    unfold putOK
    rw [if_neg (by omega), Int.toNat_natCast, if_pos (Nat.div_eq_of_lt (by omega))]
  · rw [e]
    unfold putOK
    rw [if_neg (by omega), Int.toNat_natCast, if_pos (Nat.div_eq_of_lt (by omega))]
theorem rightF_some {n : Int} {d : Def} (hd : defOf n = some d) (s : List UInt8) : rightF n s = (sized d s.length && signs d s) := by unfold rightF; rw [hd]
theorem sized_le {d : Def} (hd : d ∈ D) {n : Nat} (h : sized d n = true) : 1 ≤ n ∧ n ≤ 999 := by
  obtain ⟨_, _, _, _, h1, h2, h3⟩ := D_all d hd
  unfold sized at h
  split at h
  · simp only [decide_eq_true_eq] at h; omega
  · simp only [Bool.and_eq_true, decide_eq_true_eq] at h; omega
theorem G139_is (k : Nat) (hk : 20 < k) (n : Int) (d : Def) (hd : defOf n = some d) (s : List UInt8) (hs : s.length ≤ 140737488351232) (hks : s.length < k) :
    G139 k (n, s, ()) = some (if rightF n s = true then (toBytes (writeF d s), 0, ()) else ([], 1, ())) := by
  obtain ⟨hm, _⟩ := defOf_mem hd
  rw [G139_eq, G175_is k hk, ocall_some]
  have e : defR n = (d, true) := by unfold defR; rw [hd]
  rw [e]
  simp only [Bool.not_true, sel_false]
  rw [G117_is k hk n s (by rw [maxLen_eq]; omega) hks, ocall_some]
  cases hr : rightF n s with
  | false => rfl
  | true =>
    rw [rightF_some hd] at hr
    simp only [Bool.and_eq_true] at hr
    simp only [Bool.not_true, sel_false, G176_is, ocall_some]
    unfold writeF
    by_cases ha : ahead d.2.1 = 0
    · rw [if_pos ha, esel_inr, G247_eq, ocall_some, if_pos ha]
      rfl
    · have hsz := sized_le hm hr.1
      rw [if_neg ha, esel_inl, G245_eq, ocall_some, if_neg ha]
      simp only [ofNat_len]
      rw [sel_pos (by omega), wrapu64 (by omega) (by omega), G105_is k hk s.length _ (by omega), put_len hm hr.1 ha, ocall_some]
      (try simp only [])
      rw [sel_pos (by rw [digs_len]; rcases ahead_cases (kind := d.2.1) with e | e | e <;> omega)]
      rfl
theorem ofBytes_len (b : List Int) : (ofBytes b).length = b.length := by simp [ofBytes]
theorem ofBytes_take (b : List Int) (n : Nat) : ofBytes (b.take n) = (ofBytes b).take n := by simp [ofBytes, List.map_take]
theorem ofBytes_drop (b : List Int) (n : Nat) : ofBytes (b.drop n) = (ofBytes b).drop n := by simp [ofBytes, List.map_drop]
def lenF (d : Def) (b : List UInt8) : Int × Int :=
  if ahead d.2.1 = 0 then (d.2.2.1, 0) else if b.length < ahead d.2.1 then (0, 2)
  else if (getOK (b.take (ahead d.2.1))).2 = 0 ∧ (getOK (b.take (ahead d.2.1))).1 ≠ 0 then
    (if d.2.2.1 < ((getOK (b.take (ahead d.2.1))).1 : Int) then (0, 4) else (((getOK (b.take (ahead d.2.1))).1 : Int), 0)) else (0, 3)
theorem G195_is (k : Nat) (hk : 20 < k) (d : Def) (hm : d ∈ D) (b : List Int) (hb : b.length ≤ 9223372036854775807) : G195 k ((d.1, d.2.1, d.2.2.1, ()), b, ()) = some ((lenF d (ofBytes b)).1, (lenF d (ofBytes b)).2, ()) := by
  obtain ⟨_, _, _, _, h1, h2, h3⟩ := D_all d hm
  rw [G195_eq]
  simp only [G176_is, ocall_some]
  unfold lenF
  by_cases ha : ahead d.2.1 = 0
  · rw [if_pos ha, esel_inr, G247_eq, ocall_some, if_pos ha]
    rfl
  · rw [if_neg ha, esel_inl, G245_eq, ocall_some, if_neg ha, ofBytes_len]
    simp only [ofNat_len]
    rw [sel_neg (by omega)]
    by_cases hl : b.length < ahead d.2.1
    · rw [sel_pos (by omega), if_pos hl]
    · rw [sel_neg (by omega), if_neg hl, sel_pos (by simp only [Int.ofNat_eq_natCast]; omega), sel_pos (by omega), sel_pos (by omega)]
      simp only [Int.toNat_natCast]
      rw [show (Int.ofNat 0).toNat = 0 from rfl, List.drop_zero, ofBytes_take, G172_is k _ hk, ocall_some]
      generalize getOK ((ofBytes b).take (ahead d.2.1)) = g
      obtain ⟨g1, g2⟩ := g
      (try simp only [])
      have w1 : IntKind.u64.wrap d.2.2.1 = d.2.2.1 := wrapu64 (by omega) (by omega)
      simp only [w1]
      by_cases c1 : g2 = 0
      · subst c1
        simp only [decide_true, Bool.not_true, sel_false, true_and]
        by_cases c2 : g1 = 0
        · subst c2
          rw [if_neg (by simp)]
          rfl
        · rw [if_pos c2, sel_neg (by omega)]
          by_cases c3 : d.2.2.1 < (g1 : Int)
          · rw [sel_pos c3, if_pos c3]
          · rw [sel_neg c3, if_neg c3, wrap64 (by omega) (by omega)]
      · simp only [c1, decide_false, Bool.not_false, sel_true, false_and, if_false]
theorem lenF_le {d : Def} (hm : d ∈ D) {b : List UInt8} (h : (lenF d b).2 = 0) : 1 ≤ (lenF d b).1 ∧ (lenF d b).1 ≤ d.2.2.1 := by
  obtain ⟨_, _, _, _, h1, h2, h3⟩ := D_all d hm
  unfold lenF at h ⊢
  split
  · exact ⟨h1, Int.le_refl _⟩
  · rename_i ha
    rw [if_neg ha] at h
    split
    · rename_i hb; rw [if_pos hb] at h; cases h
    · rename_i hb
      rw [if_neg hb] at h
      split
      · rename_i hg
        rw [if_pos hg] at h
        split
        · rename_i hc; rw [if_pos hc] at h; cases h
        · rename_i hc
          have := hg.2
          (try simp only []); omega
      · rename_i hg; rw [if_neg hg] at h; cases h
def readF (d : Def) (b : List UInt8) : List UInt8 × Int × Int :=
  if (lenF d b).2 = 0 then
    (if (b.length : Int) < (ahead d.2.1 : Int) + (lenF d b).1 then ([], 0, 2)
     else if signs d ((b.take ((ahead d.2.1 : Int) + (lenF d b).1).toNat).drop (ahead d.2.1)) = true then ((b.take ((ahead d.2.1 : Int) + (lenF d b).1).toNat).drop (ahead d.2.1), (ahead d.2.1 : Int) + (lenF d b).1, 0)
     else ([], 0, 3))
  else ([], 0, (lenF d b).2)
theorem G144_is (k : Nat) (hk : 1100 < k) (n : Int) (d : Def) (hd : defOf n = some d) (b : List Int) (hb : b.length ≤ 9223372036854775807) :
    G144 k (n, b, ()) = some ((readF d (ofBytes b)).1, (readF d (ofBytes b)).2.1, (readF d (ofBytes b)).2.2, ()) := by
  obtain ⟨hm, _⟩ := defOf_mem hd
  obtain ⟨_, _, _, _, h1, h2, h3⟩ := D_all d hm
  have ha3 := ahead_cases (kind := d.2.1)
  rw [G144_eq, G175_is k (by omega), ocall_some]
  have e : defR n = (d, true) := by unfold defR; rw [hd]
  rw [e]
  simp only [Bool.not_true, sel_false]
  rw [G195_is k (by omega) d hm b hb, ocall_some]
  unfold readF
  by_cases c0 : (lenF d (ofBytes b)).2 = 0
  · obtain ⟨l1, l2⟩ := lenF_le hm c0
    rw [if_pos c0]
    simp only [c0, decide_true, Bool.not_true, sel_false]
    rw [ofBytes_len]
    have hin : ∀ (a : Int), a = ((ahead d.2.1 : Nat) : Int) →
        (sel (decide (Int.ofNat b.length < IntKind.i64.wrap (a + (lenF d (ofBytes b)).1))) (some (([] : List UInt8), (0 : Int), (2 : Int), ()))
          (sel (decide ((0 : Int) ≤ a)) (sel (decide (a ≤ IntKind.i64.wrap (a + (lenF d (ofBytes b)).1))) (sel (decide (IntKind.i64.wrap (a + (lenF d (ofBytes b)).1) ≤ Int.ofNat b.length))
            (sel (decide (Int.ofNat b.length ≤ Int.ofNat b.length))
              (ocall (G177 k ((d.1, d.2.1, d.2.2.1, ()), ofBytes (List.drop a.toNat (List.take (IntKind.i64.wrap (a + (lenF d (ofBytes b)).1)).toNat b)), ())) fun (r : Bool × Unit) =>
                sel (!r.fst) (some (([] : List UInt8), (0 : Int), (3 : Int), ()))
                  (some (ofBytes (List.drop a.toNat (List.take (IntKind.i64.wrap (a + (lenF d (ofBytes b)).1)).toNat b)), IntKind.i64.wrap (a + (lenF d (ofBytes b)).1), (0 : Int), ())))
              none) none) none) none)) =
        some ((if (b.length : Int) < (ahead d.2.1 : Int) + (lenF d (ofBytes b)).1 then (([], 0, 2) : List UInt8 × Int × Int)
         else if signs d (((ofBytes b).take ((ahead d.2.1 : Int) + (lenF d (ofBytes b)).1).toNat).drop (ahead d.2.1)) = true then (((ofBytes b).take ((ahead d.2.1 : Int) + (lenF d (ofBytes b)).1).toNat).drop (ahead d.2.1), (ahead d.2.1 : Int) + (lenF d (ofBytes b)).1, 0)
         else ([], 0, 3)).1, (if (b.length : Int) < (ahead d.2.1 : Int) + (lenF d (ofBytes b)).1 then (([], 0, 2) : List UInt8 × Int × Int)
         else if signs d (((ofBytes b).take ((ahead d.2.1 : Int) + (lenF d (ofBytes b)).1).toNat).drop (ahead d.2.1)) = true then (((ofBytes b).take ((ahead d.2.1 : Int) + (lenF d (ofBytes b)).1).toNat).drop (ahead d.2.1), (ahead d.2.1 : Int) + (lenF d (ofBytes b)).1, 0)
         else ([], 0, 3)).2.1, (if (b.length : Int) < (ahead d.2.1 : Int) + (lenF d (ofBytes b)).1 then (([], 0, 2) : List UInt8 × Int × Int)
         else if signs d (((ofBytes b).take ((ahead d.2.1 : Int) + (lenF d (ofBytes b)).1).toNat).drop (ahead d.2.1)) = true then (((ofBytes b).take ((ahead d.2.1 : Int) + (lenF d (ofBytes b)).1).toNat).drop (ahead d.2.1), (ahead d.2.1 : Int) + (lenF d (ofBytes b)).1, 0)
         else ([], 0, 3)).2.2, ()) := by
      rintro a rfl
      have w : IntKind.i64.wrap (((ahead d.2.1 : Nat) : Int) + (lenF d (ofBytes b)).1) = ((ahead d.2.1 : Nat) : Int) + (lenF d (ofBytes b)).1 := wrap64 (by omega) (by omega)
      simp only [w, Int.toNat_natCast, ofNat_len, ofBytes_drop, ofBytes_take]
      by_cases c1 : (b.length : Int) < (ahead d.2.1 : Int) + (lenF d (ofBytes b)).1
      · rw [sel_pos c1]; simp only [c1, if_true]
      · rw [sel_neg c1, sel_pos (by omega), sel_pos (by omega), sel_pos (by omega), sel_pos (by omega)]
        rw [G177_is k d _ (by rw [maxLen_eq]; simp; omega) (by simp; omega), ocall_some]
        simp only [c1, if_false]
        cases signs d (((ofBytes b).take ((ahead d.2.1 : Int) + (lenF d (ofBytes b)).1).toNat).drop (ahead d.2.1)) <;> rfl
    rw [G176_is, ocall_some]
    by_cases ha : ahead d.2.1 = 0
    · rw [if_pos ha, esel_inr, G247_eq, ocall_some]
      exact hin 0 (by rw [ha]; rfl)
    · rw [if_neg ha, esel_inl, G245_eq, ocall_some]
      exact hin _ rfl
  · rw [if_neg c0]
    simp only [c0, decide_false, Bool.not_false, sel_true]
end Go.Proofs.YtjgnpmdbkgeakaaDoor.G
end
section
set_option linter.unusedVariables false
set_option linter.unusedSimpArgs false
namespace Go.Proofs.YtjgnpmdbkgeakaaDoor.G
open Go Go.Proofs.YtjgnpmdbkgeakaaDoor Th
theorem val_lt : ∀ (s : List UInt8) (a : Nat), s.all dgt = true → val a s < (a + 1) * 10 ^ s.length
  | [], a, _ => by simp [val]
  | c :: t, a, h => by
    simp only [List.all_cons, Bool.and_eq_true, dgt_iff] at h
    have := val_lt t (10 * a + (c.toNat - 48)) h.2
    rw [val_cons]
    have h2 : (10 * a + (c.toNat - 48) + 1) * 10 ^ t.length ≤ ((a + 1) * 10) * 10 ^ t.length := Nat.mul_le_mul_right _ (by omega)
    rw [List.length_cons, Nat.pow_succ, Nat.mul_comm (10 ^ t.length) 10, ← Nat.mul_assoc]
    omega
end Go.Proofs.YtjgnpmdbkgeakaaDoor.G
end
section
set_option linter.unusedVariables false
set_option linter.unusedSimpArgs false
set_option maxRecDepth 100000
namespace Go.Proofs.YtjgnpmdbkgeakaaDoor.G
open Go Go.Proofs.YtjgnpmdbkgeakaaDoor Th
abbrev Txt := List UInt8
abbrev Item := Int × Txt × Unit
abbrev Msg := Txt × List Item × Unit
def KT : List Txt := [[48, 49, 48, 48], [48, 49, 49, 48], [48, 52, 48, 48], [48, 52, 49, 48], [48, 52, 50, 48], [48, 52, 50, 49], [48, 52, 51, 48]]
def knownT (s : Txt) : Bool := KT.contains s
theorem G121_is (k : Nat) (s : Txt) : G121 k (s, ()) = some (knownT s, ()) := by
  rw [G121_eq]
  unfold knownT KT
  simp only [sel_dec, List.contains_cons, List.contains_nil, Bool.or_false]
  by_cases h1 : s = [48, 49, 48, 48]
  · simp [h1]
  by_cases h2 : s = [48, 49, 49, 48]
  · simp [h2]
  by_cases h3 : s = [48, 52, 48, 48]
  · simp [h3]
  by_cases h4 : s = [48, 52, 49, 48]
  · simp [h4]
  by_cases h5 : s = [48, 52, 50, 48]
  · simp [h5]
  by_cases h6 : s = [48, 52, 50, 49]
  · simp [h6]
  by_cases h7 : s = [48, 52, 51, 48] <;> simp [h1, h2, h3, h4, h5, h6, h7]
def itemsOK : Int → List Item → Bool
  | _, [] => true
  | last, x :: l => decide (last < x.1) && rightF x.1 x.2.1 && itemsOK x.1 l
def msgRight (m : Msg) : Bool := itemsOK 0 m.2.1 && knownT m.1 && decide (0 < m.2.1.length)
theorem G44_3_is (k : Nat) (hk : 20 < k) (l l0 : List Item) (typ : Txt) (hl : l.length ≤ 1000000000) (hx : ∀ x ∈ l, x.2.1.length ≤ maxLen ∧ x.2.1.length < k) :
    ∀ (j i : Nat) (last : Int), i + j = l.length → ∀ n, j < n → G44_3 k n (last, l, (l.length : Int), (i : Int), typ, l0, ()) = some (sel (itemsOK last (l.drop i)) (.inl (typ, l0, ())) (.inr (false, ()))) := by
  intro j
  induction j with
  | zero =>
    intro i last hij n hn
    obtain ⟨n, rfl⟩ : ∃ m, n = m + 1 := ⟨n - 1, by omega⟩
    rw [G44_3_eq, sel_neg (by (try simp only []); omega), List.drop_eq_nil_of_le (by omega)]
    rfl
  | succ j ih =>
    intro i last hij n hn
    obtain ⟨n, rfl⟩ : ∃ m, n = m + 1 := ⟨n - 1, by omega⟩
    have hlt : i < l.length := by omega
    rw [G44_3_eq]
    simp only [ofNat_len, Int.toNat_natCast, getD_of hlt]
    rw [sel_pos (by omega), sel_pos (by omega), sel_pos (by omega), drop_at hlt]
    simp only [itemsOK]
    obtain ⟨h1, h2⟩ := hx l[i] (List.getElem_mem _)
    by_cases c : l[i].1 ≤ last
    · rw [sel_pos c, decide_eq_false (by omega)]; rfl
    · rw [sel_neg c, G117_is k hk _ _ h1 h2, ocall_some, decide_eq_true (by omega)]
      cases hr : rightF l[i].1 l[i].2.1 with
      | false => rfl
      | true =>
        simp only [Bool.not_true, sel_false, Bool.true_and]
        rw [wrap64 (by omega) (by omega)]
        exact ih (i + 1) l[i].1 (by omega) n (by omega)
theorem G44_is (k : Nat) (hk : 20 < k) (typ : Txt) (l : List Item) (hl : l.length ≤ 1000000000) (hlk : l.length < k) (hx : ∀ x ∈ l, x.2.1.length ≤ maxLen ∧ x.2.1.length < k) :
    G44 k ((typ, l, ()), ()) = some (msgRight (typ, l, ()), ()) := by
  rw [G44_eq]
  have := G44_3_is k hk l l typ hl hx l.length 0 0 (by omega) k hlk
  simp only [ofNat_len, List.drop_zero, Int.natCast_zero] at this ⊢
  rw [this, ocall_some]
  unfold msgRight
  (try simp only [])
  cases itemsOK 0 l with
  | false => rfl
  | true =>
    simp only [sel_true, esel_inl, G121_is, ocall_some, Bool.true_and]
    cases knownT typ with
    | false => rfl
    | true =>
      simp only [sel_true, Bool.true_and]
      have : decide ((0 : Int) < (l.length : Int)) = decide (0 < l.length) := decide_eq_decide.2 (by omega)
      rw [this]
def getM (n : Int) : List Item → Txt × Bool
  | [] => ([], false)
  | x :: l => if x.1 = n then (x.2.1, true) else getM n l
def idxM (n : Int) : List Item → Nat → Option Nat
  | [], _ => none
  | x :: l, i => if x.1 = n then some i else idxM n l (i + 1)
theorem idxM_some (n : Int) : ∀ (l : List Item) (i j : Nat), idxM n l i = some j → ∃ h : j - i < l.length, i ≤ j ∧ getM n l = (l[j - i].2.1, true)
  | [], i, j, h => by cases h
  | x :: l, i, j, h => by
    unfold idxM at h
    by_cases c : x.1 = n
    · rw [if_pos c] at h
      cases h
      refine ⟨by simp, Nat.le_refl _, ?_⟩
      simp [getM, c]
    · rw [if_neg c] at h
      obtain ⟨h1, h2, h3⟩ := idxM_some n l (i + 1) j h
      have e : j - i = (j - (i + 1)) + 1 := by omega
      refine ⟨by simp; omega, by omega, ?_⟩
      simp only [getM, if_neg c, h3, e, List.getElem_cons_succ]
theorem idxM_none (n : Int) : ∀ (l : List Item) (i : Nat), idxM n l i = none → getM n l = ([], false)
  | [], i, _ => rfl
  | x :: l, i, h => by
    unfold idxM at h
    by_cases c : x.1 = n
    · rw [if_pos c] at h; cases h
    · rw [if_neg c] at h
      simp only [getM, if_neg c, idxM_none n l (i + 1) h]
theorem G7000000_2_is (k : Nat) (n : Int) (l : List Item) (hl : l.length ≤ 1000000000) :
    ∀ (j i : Nat), i + j = l.length → ∀ m, j < m → G7000000_2 k m (l, ((n, ()), ()), (l.length : Int), (i : Int), ()) = some (match idxM n (l.drop i) i with | none => .inl () | some q => .inr ((q : Int), ())) := by
  intro j
  induction j with
  | zero =>
    intro i hij m hm
    obtain ⟨m, rfl⟩ : ∃ q, m = q + 1 := ⟨m - 1, by omega⟩
    rw [G7000000_2_eq, sel_neg (by (try simp only []); omega), List.drop_eq_nil_of_le (by omega)]
    rfl
  | succ j ih =>
    intro i hij m hm
    obtain ⟨m, rfl⟩ : ∃ q, m = q + 1 := ⟨m - 1, by omega⟩
    have hlt : i < l.length := by omega
    rw [G7000000_2_eq]
    simp only [ofNat_len, Int.toNat_natCast, getD_of hlt]
    rw [sel_pos (by omega), sel_pos (by omega), sel_pos (by omega), drop_at hlt, G174_eq, ocall_some]
    simp only [idxM]
    by_cases c : l[i].1 = n
    · rw [sel_pos c, if_pos c]
    · rw [sel_neg c, if_neg c, wrap64 (by omega) (by omega)]
      exact ih (i + 1) (by omega) m (by omega)
theorem G115_is (k : Nat) (n : Int) (typ : Txt) (l : List Item) (hl : l.length ≤ 1000000000) (hk : l.length < k) : G115 k ((typ, l, ()), n, ()) = some ((getM n l).1, (getM n l).2, ()) := by
  rw [G115_eq]
  (try simp only [])
  have := G7000000_2_is k n l hl l.length 0 (by omega) k hk
  simp only [List.drop_zero, Int.natCast_zero] at this
  rw [G7000000_eq]
  simp only [ofNat_len]
  rw [this, ocall_some]
  cases h : idxM n l 0 with
  | none =>
    rw [idxM_none n l 0 h]
    rfl
  | some q =>
    obtain ⟨h1, h2, h3⟩ := idxM_some n l 0 q h
    simp only [Nat.sub_zero] at h1 h3
    rw [h3]
    simp only [esel_inr, ocall_some, Int.toNat_natCast, getD_of h1]
    rw [sel_neg (by omega), sel_pos (by omega), sel_pos (by omega)]
theorem getM_len (n : Int) (L : Nat) : ∀ l : List Item, (∀ x ∈ l, x.2.1.length ≤ L) → (getM n l).1.length ≤ L
  | [], _ => Nat.zero_le _
  | x :: l, h => by
    unfold getM
    split
    · exact h x (List.mem_cons_self ..)
    · exact getM_len n L l fun y hy => h y (List.mem_cons_of_mem _ hy)
end Go.Proofs.YtjgnpmdbkgeakaaDoor.G
end
section
set_option linter.unusedVariables false
set_option linter.unusedSimpArgs false
namespace Go.Proofs.YtjgnpmdbkgeakaaDoor.G
open Go Go.Proofs.YtjgnpmdbkgeakaaDoor Th
def gd (tw : Bool) (d : Nat) : Nat := if tw = true then 2 * d - d / 5 * 9 else d
def fs (tw : Bool) : List UInt8 → Nat
  | [] => 0
  | c :: t => gd (tw != decide (t.length % 2 = 1)) (c.toNat - 48) + fs tw t
theorem gd_le {tw : Bool} {d : Nat} (h : d ≤ 9) : gd tw d ≤ 9 := by
  unfold gd; split <;> omega
theorem fs_le (tw : Bool) : ∀ (s : List UInt8), s.all dgt = true → fs tw s ≤ 9 * s.length
  | [], _ => by simp [fs]
  | c :: t, h => by
    simp only [List.all_cons, Bool.and_eq_true, dgt_iff] at h
    have := fs_le tw t h.2
    have := gd_le (tw := tw != decide (t.length % 2 = 1)) (d := c.toNat - 48) (by omega)
    simp only [fs, List.length_cons]; omega
theorem par_flip (tw : Bool) (n : Nat) : (tw != decide ((n + 1) % 2 = 1)) = ((!tw) != decide (n % 2 = 1)) := by
  rcases Nat.mod_two_eq_zero_or_one n with h | h
  · have : (n + 1) % 2 = 1 := by omega
    cases tw <;> simp [h, this]
  · have : (n + 1) % 2 = 0 := by omega
    cases tw <;> simp [h, this]
theorem sum_fold (l : List (Int × Int)) (tw : Bool) : Sum.sumOf l tw = (l.map (·.2)).foldl Sum.step (0, tw) := by
  unfold Sum.sumOf
  rw [List.foldl_map]
theorem backs_snd (l : List Int) : (Sum.backs l).map (·.2) = l.reverse := by
  unfold Sum.backs
  rw [List.map_reverse, List.map_map]
  congr 1
  apply List.ext_getElem
  · simp
  · intro i h1 h2
    simp at h1 h2
    simp [h2]
theorem toBytes_cons (c : UInt8) (t : List UInt8) : toBytes (c :: t) = (c.toNat : Int) :: toBytes t := rfl
theorem rwrap {n : Int} (h1 : -9223372036854775808 ≤ n) (h2 : n ≤ 9223372036854775807) : RowKit.wrap64 n = n := by
  unfold RowKit.wrap64; omega
theorem sum_is (tw : Bool) : ∀ (s : List UInt8), s.all dgt = true → s.length ≤ 1000000000 → (toBytes s).reverse.foldl Sum.step (0, tw) = ((fs tw s : Int), tw != decide (s.length % 2 = 1))
  | [], _, _ => by simp [toBytes, fs]
  | c :: t, h, hl => by
    have h' := h
    simp only [List.all_cons, Bool.and_eq_true, dgt_iff] at h
    simp only [List.length_cons] at hl
    have hle := fs_le tw t h.2
    rw [toBytes_cons, List.reverse_cons, List.foldl_append, sum_is tw t h.2 (by omega)]
    simp only [List.foldl_cons, List.foldl_nil, Sum.step, fs, List.length_cons]
    have e1 : ((c.toNat : Int) - 48) % 256 = ((c.toNat - 48 : Nat) : Int) := by omega
    have hg := gd_le (tw := tw != decide (t.length % 2 = 1)) (d := c.toNat - 48) (by omega)
    rw [e1]
    refine Prod.ext ?_ ?_
    · (try simp only [])
      have e2 : (bif (tw != decide (t.length % 2 = 1)) then ((c.toNat - 48 : Nat) : Int) * 2 - ((c.toNat - 48 : Nat) : Int) / 5 * 9 else ((c.toNat - 48 : Nat) : Int)) = ((gd (tw != decide (t.length % 2 = 1)) (c.toNat - 48) : Nat) : Int) := by
        unfold gd
        cases (tw != decide (t.length % 2 = 1))
        · simp
        · simp only [cond_true, if_true]; omega
      rw [e2, rwrap (by omega) (by omega)]
      omega
    · (try simp only [])
      rw [par_flip]
      cases tw <;> simp
theorem G170_is (k : Nat) (s : List UInt8) (tw : Bool) (h : s.all dgt = true) (hl : s.length ≤ 1000000000) : G170 k (s, tw, ()) = some ((fs tw s : Int), ()) := by
  rw [G170_eq, sel_pos (by (try simp only []); omega), sum_fold, backs_snd, sum_is tw s h hl]
def isFine (s : List UInt8) : Bool := isDig s && decide (fs false s % 10 = 0)
theorem all_of_isDig {s : List UInt8} (h : isDig s = true) : s.all dgt = true := by simp [isDig] at h; simpa using h.2
theorem tmod10 (n : Nat) : ((n : Int)).tmod 10 = ((n % 10 : Nat) : Int) := by simp [Int.tmod_eq_emod_of_nonneg]
theorem G107_is (k : Nat) (s : List UInt8) (hl : s.length ≤ 1000000000) (hk : s.length < k) : G107 k (s, ()) = some (isFine s, ()) := by
  rw [G107_eq, G169_is k s (by rw [maxLen_eq]; omega) hk, ocall_some]
  unfold isFine
  cases hd : isDig s with
  | false => rfl
  | true =>
    simp only [sel_true]
    rw [G170_is k s false (all_of_isDig hd) hl, ocall_some, tmod10]
    simp only [Bool.true_and]
    have : decide (((fs false s % 10 : Nat) : Int) = 0) = decide (fs false s % 10 = 0) := decide_eq_decide.2 (by omega)
    rw [this]
end Go.Proofs.YtjgnpmdbkgeakaaDoor.G
end
section
set_option linter.unusedVariables false
set_option linter.unusedSimpArgs false
set_option maxRecDepth 100000
namespace Go.Proofs.YtjgnpmdbkgeakaaDoor.G
open Go Go.Proofs.YtjgnpmdbkgeakaaDoor Th
abbrev Deal := Int × Txt × Int × Int × Txt × Txt × Unit
def TY : List Txt := [[], [48, 49, 48, 48], [48, 49, 49, 48], [48, 52, 48, 48], [48, 52, 49, 48], [48, 52, 50, 48], [48, 52, 50, 49], [48, 52, 51, 48]]
def typeK (kind : Int) : Txt := if kind < 0 ∨ 8 ≤ kind then [] else TY.getD kind.toNat []
theorem G108_is (k : Nat) (kind : Int) : G108 k (kind, ()) = some (typeK kind, ()) := by
  rw [G108_eq]
  unfold typeK
  by_cases c1 : kind < 0
  · rw [sel_pos c1, if_pos (.inl c1)]
  by_cases c2 : 8 ≤ kind
  · rw [sel_neg c1, sel_pos c2, if_pos (.inr c2)]
  rw [sel_neg c1, sel_neg c2, sel_pos (by omega), sel_pos (show (kind, ()).fst < Int.ofNat 8 by simp only [Int.ofNat_eq_natCast]; omega), if_neg (by omega)]
  rfl
def asksK (kind : Int) : Bool := decide (kind = 1 ∨ kind = 3 ∨ kind = 5 ∨ kind = 6)
theorem G42_is (k : Nat) (kind : Int) : G42 k (kind, ()) = some (asksK kind, ()) := by
  rw [G42_eq]
  unfold asksK
  simp only [sel_dec]
  by_cases h1 : kind = 1
  · simp [h1]
  by_cases h3 : kind = 3
  · simp [h3]
  by_cases h5 : kind = 5
  · simp [h5]
  by_cases h6 : kind = 6 <;> simp [h1, h3, h5, h6]
def zeros : Txt := List.replicate 32 48
def stanT (stan : Int) : Txt := (putOK stan.toNat 6).1
def amtT (amt : Int) : Txt := (putOK amt.toNat 12).1
def originT (stan : Int) : Txt := [48, 49, 48, 48] ++ stanT stan ++ zeros
def itemsK (d : Deal) : List Item :=
  if asksK d.1 = true then [(2, d.2.1, ()), (4, amtT d.2.2.1, ()), (11, stanT d.2.2.2.1, ()), (37, d.2.2.2.2.1, ())] ++ (if 5 ≤ d.1 then [(90, originT d.2.2.2.1, ())] else [])
  else [(11, stanT d.2.2.2.1, ()), (37, d.2.2.2.2.1, ()), (39, d.2.2.2.2.2.1, ())]
theorem putOK_le (v : Nat) (n : Int) : (putOK v n).1.length ≤ 19 := by
  unfold putOK
  split
  · simp
  · split
    · simp only [digs_len]; omega
    · simp
theorem put_is (k : Nat) (hk : 20 < k) (v n : Int) (h0 : 0 ≤ v) (h1 : v ≤ 18446744073709551615) : G105 k (v, n, ()) = some ((putOK v.toNat n).1, (putOK v.toNat n).2, ()) := by
  have := G105_is k hk v.toNat n (by omega)
  rwa [show ((v.toNat : Nat) : Int) = v by omega] at this
theorem G109_is (k : Nat) (hk : 20 < k) (kind : Int) (pan : Txt) (amt stan : Int) (rrn code : Txt) (ha : 0 ≤ amt ∧ amt ≤ 18446744073709551615) (hs : 0 ≤ stan ∧ stan ≤ 4294967295) :
    G109 k ((kind, pan, amt, stan, rrn, code, ()), ()) = some (itemsK (kind, pan, amt, stan, rrn, code, ()), ()) := by
  rw [G109_eq]
  (try simp only [])
  rw [wrapu64 (by omega) (by omega), put_is k hk stan 6 (by omega) (by omega), ocall_some, G42_is, ocall_some]
  unfold itemsK
  (try simp only [])
  cases asksK kind with
  | false => rfl
  | true =>
    simp only [Bool.not_true, sel_false, if_true]
    rw [put_is k hk amt 12 (by omega) (by omega), ocall_some, G108_is, ocall_some]
    have hl := putOK_le stan.toNat 6
    have ht : typeK 1 = [48, 49, 48, 48] := rfl
    rw [ht]
    by_cases c : 5 ≤ kind
    · rw [sel_pos c, sel_pos (by simp only [List.length_cons, List.length_nil]; omega), sel_pos (by simp only [List.length_append, List.length_cons, List.length_nil]; omega), if_pos c]
      rfl
    · rw [sel_neg c, if_neg c]
      rfl
def dealOK (d : Deal) : Bool := decide (1 ≤ d.1) && decide (d.1 ≤ 7) && decide (d.2.2.2.1 ≤ 999999) && rightF 37 d.2.2.2.2.1 &&
  (if asksK d.1 = true then isFine d.2.1 && decide (d.2.1.length < 20) && decide (d.2.2.1 < 1000000000000) && decide (d.2.2.2.2.2.1 = []) else rightF 39 d.2.2.2.2.2.1 && decide (d.2.1 = []) && decide (d.2.2.1 = 0))
theorem rf11 (s : Txt) : rightF 11 s = (decide (s.length = 6) && isDig s) := by
  have : defOf 11 = some (11, 1, 6, ()) := rfl
  unfold rightF; rw [this]
  simp [sized, ahead, signs, Signs.signsOf]
  by_cases h : s.length = 6 <;> simp [h]; omega
theorem rf4 (s : Txt) : rightF 4 s = (decide (s.length = 12) && isDig s) := by
  have : defOf 4 = some (4, 1, 12, ()) := rfl
  unfold rightF; rw [this]
  simp [sized, ahead, signs, Signs.signsOf]
  by_cases h : s.length = 12 <;> simp [h]; omega
theorem rf90 (s : Txt) : rightF 90 s = (decide (s.length = 42) && isDig s) := by
  have : defOf 90 = some (90, 1, 42, ()) := rfl
  unfold rightF; rw [this]
  simp [sized, ahead, signs, Signs.signsOf]
  by_cases h : s.length = 42 <;> simp [h]; omega
theorem rf2 (s : Txt) : rightF 2 s = (decide (1 ≤ s.length) && decide (s.length ≤ 19) && isDig s) := by
  have : defOf 2 = some (2, 3, 19, ()) := rfl
  unfold rightF; rw [this]
  simp [sized, ahead, signs, Signs.signsOf]
  have : decide ((s.length : Int) ≤ 19) = decide (s.length ≤ 19) := decide_eq_decide.2 (by omega)
  rw [this]
theorem stanT_of {stan : Int} (h0 : 0 ≤ stan) (h : stan ≤ 999999) : stanT stan = digs stan.toNat 6 := by
  unfold stanT putOK
  rw [if_neg (by omega), if_pos (show stan.toNat / 10 ^ (6 : Int).toNat = 0 from Nat.div_eq_of_lt (by show stan.toNat < 10 ^ 6; omega))]
  rfl
theorem stanT_no {stan : Int} (h : ¬ stan ≤ 999999) : stanT stan = [] := by
  unfold stanT putOK
  rw [if_neg (by omega), if_neg]
  show ¬ stan.toNat / 10 ^ 6 = 0
  intro e
  have := (Nat.div_eq_zero_iff).1 e
  omega
theorem amtT_of {amt : Int} (h0 : 0 ≤ amt) (h : amt < 1000000000000) : amtT amt = digs amt.toNat 12 := by
  unfold amtT putOK
  rw [if_neg (by omega), if_pos (show amt.toNat / 10 ^ (12 : Int).toNat = 0 from Nat.div_eq_of_lt (by show amt.toNat < 10 ^ 12; omega))]
  rfl
theorem amtT_no {amt : Int} (h : ¬ amt < 1000000000000) : amtT amt = [] := by
  unfold amtT putOK
  rw [if_neg (by omega), if_neg]
  show ¬ amt.toNat / 10 ^ 12 = 0
  intro e
  have := (Nat.div_eq_zero_iff).1 e
  omega
theorem digs_all : ∀ (n v : Nat), (digs v n).all dgt = true := by
  intro n
  induction n with
  | zero => intro v; rfl
  | succ n ih =>
    intro v
    simp only [digs, List.all_append, ih, List.all_cons, List.all_nil, Bool.and_true, Bool.true_and]
    rw [dgt_iff, chr_toNat (by omega)]
    omega
theorem isDig_of {n v : Nat} (h : 0 < n) : isDig (digs v n) = true := by
  unfold isDig
  rw [digs_all, digs_len, decide_eq_true h]; rfl
theorem rf11_stan {stan : Int} (h0 : 0 ≤ stan) : rightF 11 (stanT stan) = decide (stan ≤ 999999) := by
  by_cases h : stan ≤ 999999
  · rw [rf11, stanT_of h0 h, digs_len, isDig_of (by omega), decide_eq_true h]; rfl
  · rw [rf11, stanT_no h, decide_eq_false h]; rfl
theorem rf4_amt {amt : Int} (h0 : 0 ≤ amt) : rightF 4 (amtT amt) = decide (amt < 1000000000000) := by
  by_cases h : amt < 1000000000000
  · rw [rf4, amtT_of h0 h, digs_len, isDig_of (by omega), decide_eq_true h]; rfl
  · rw [rf4, amtT_no h, decide_eq_false h]; rfl
theorem rf90_origin {stan : Int} (h0 : 0 ≤ stan) (h : stan ≤ 999999) : rightF 90 (originT stan) = true := by
  rw [rf90]
  unfold originT zeros
  rw [stanT_of h0 h]
  have hl : ([48, 49, 48, 48] ++ digs stan.toNat 6 ++ List.replicate 32 (48 : UInt8)).length = 42 := by simp [digs_len]
  have ha : ([48, 49, 48, 48] ++ digs stan.toNat 6 ++ List.replicate 32 (48 : UInt8)).all dgt = true := by
    rw [List.all_append, List.all_append, digs_all]; rfl
  unfold isDig
  rw [hl, ha]; rfl
theorem rf2_fine {pan : Txt} (h : isFine pan = true) : rightF 2 pan = decide (pan.length < 20) := by
  have hd : isDig pan = true := by unfold isFine at h; simp at h; exact h.1
  have hp : 0 < pan.length := by unfold isDig at hd; simp at hd; exact hd.1
  rw [rf2, hd, decide_eq_true (show 1 ≤ pan.length by omega)]
  have : decide (pan.length ≤ 19) = decide (pan.length < 20) := decide_eq_decide.2 (by omega)
  rw [this]; simp
theorem known_type (kind : Int) : knownT (typeK kind) = (decide (1 ≤ kind) && decide (kind ≤ 7)) := by
  by_cases h : kind < 0 ∨ 8 ≤ kind
  · have : typeK kind = [] := by unfold typeK; rw [if_pos h]
    rw [this]
    rcases h with h | h
    · rw [decide_eq_false (show ¬ 1 ≤ kind by omega)]; rfl
    · rw [decide_eq_false (show ¬ kind ≤ 7 by omega), Bool.and_false]; rfl
  · have : kind = 0 ∨ kind = 1 ∨ kind = 2 ∨ kind = 3 ∨ kind = 4 ∨ kind = 5 ∨ kind = 6 ∨ kind = 7 := by omega
    rcases this with rfl | rfl | rfl | rfl | rfl | rfl | rfl | rfl <;> rfl
theorem asks_kind {kind : Int} (h : asksK kind = true) : 1 ≤ kind ∧ kind ≤ 7 := by
  simp [asksK] at h; omega
theorem right_eq (kind : Int) (pan : Txt) (amt stan : Int) (rrn code : Txt) (ha : 0 ≤ amt) (hs : 0 ≤ stan) :
    (if asksK kind = true then decide (code = []) && isFine pan && msgRight (typeK kind, itemsK (kind, pan, amt, stan, rrn, code, ()), ())
     else decide (pan = []) && decide (amt = 0) && msgRight (typeK kind, itemsK (kind, pan, amt, stan, rrn, code, ()), ())) = dealOK (kind, pan, amt, stan, rrn, code, ()) := by
  unfold dealOK msgRight itemsK
  (try simp only [])
  cases hk : asksK kind with
  | true =>
    obtain ⟨k1, k7⟩ := asks_kind hk
    simp only [if_true, known_type, decide_eq_true k1, decide_eq_true k7]
    by_cases hf : isFine pan = true
    · by_cases c : 5 ≤ kind
      · simp only [if_pos c, List.cons_append, List.nil_append, itemsOK, rf2_fine hf, rf4_amt ha, rf11_stan hs]
        by_cases hst : stan ≤ 999999
        · simp only [rf90_origin hs hst, decide_eq_true hst, hf]
          cases rightF 37 rrn <;> by_cases h1 : pan.length < 20 <;> by_cases h2 : amt < 1000000000000 <;> by_cases h3 : code = [] <;> simp [h1, h2, h3]
        · simp [hst]
      · simp only [if_neg c, List.append_nil, itemsOK, rf2_fine hf, rf4_amt ha, rf11_stan hs, hf]
        cases rightF 37 rrn <;> by_cases h0 : stan ≤ 999999 <;> by_cases h1 : pan.length < 20 <;> by_cases h2 : amt < 1000000000000 <;> by_cases h3 : code = [] <;> simp [h0, h1, h2, h3]
    · have hf : isFine pan = false := by simpa using hf
      simp [hf]
  | false =>
    simp only [Bool.false_eq_true, if_false, known_type, itemsOK, rf11_stan hs]
    cases rightF 37 rrn <;> cases rightF 39 code <;> by_cases h0 : stan ≤ 999999 <;> by_cases h1 : pan = [] <;> by_cases h2 : amt = 0 <;> by_cases h3 : 1 ≤ kind <;> by_cases h4 : kind ≤ 7 <;> simp [h0, h1, h2, h3, h4]
theorem itemsK_len (d : Deal) : (itemsK d).length ≤ 5 := by
  unfold itemsK; split
  · split <;> simp
  · simp
theorem itemsK_txt (d : Deal) (L : Nat) (h1 : d.2.1.length ≤ L) (h2 : d.2.2.2.2.1.length ≤ L) (h3 : d.2.2.2.2.2.1.length ≤ L) : ∀ x ∈ itemsK d, x.2.1.length ≤ L + 60 := by
  have a1 : (amtT d.2.2.1).length ≤ 19 := putOK_le _ _
  have a2 : (stanT d.2.2.2.1).length ≤ 19 := putOK_le _ _
  have a3 : (originT d.2.2.2.1).length ≤ 60 := by unfold originT zeros; simp; omega
  intro x hx
  unfold itemsK at hx
  split at hx
  · split at hx
    · simp at hx
      rcases hx with rfl | rfl | rfl | rfl | rfl <;> (try simp only []) <;> omega
    · simp at hx
      rcases hx with rfl | rfl | rfl | rfl <;> (try simp only []) <;> omega
  · simp at hx
    rcases hx with rfl | rfl | rfl <;> (try simp only []) <;> omega
def lens (L : Nat) (d : Deal) : Prop := d.2.1.length ≤ L ∧ d.2.2.2.2.1.length ≤ L ∧ d.2.2.2.2.2.1.length ≤ L
instance (L : Nat) (d : Deal) : Decidable (lens L d) := by unfold lens; infer_instance
def goodD (d : Deal) : Prop := (0 ≤ d.2.2.1 ∧ d.2.2.1 ≤ 18446744073709551615) ∧ 0 ≤ d.2.2.2.1 ∧ d.2.2.2.1 ≤ 4294967295
theorem G33_is (k L : Nat) (hL : L ≤ 1000000) (hk : L + 100 < k) (d : Deal) (hl : lens L d) (hg : goodD d) : G33 k (d, ()) = some (dealOK d, ()) := by
  obtain ⟨kind, pan, amt, stan, rrn, code, ⟨⟩⟩ := d
  obtain ⟨l1, l2, l3⟩ := hl
  obtain ⟨ha, hs⟩ := hg
  (try simp only [] at l1 l2 l3 ha hs)
  rw [← right_eq kind pan amt stan rrn code ha.1 hs.1, G33_eq]
  (try simp only [])
  have hm : G44 k ((typeK kind, itemsK (kind, pan, amt, stan, rrn, code, ()), ()), ()) = some (msgRight (typeK kind, itemsK (kind, pan, amt, stan, rrn, code, ()), ()), ()) := by
    have h5 := itemsK_len (kind, pan, amt, stan, rrn, code, ())
    refine G44_is k (by omega) _ _ (by omega) (by omega) fun x hx => ?_
    have := itemsK_txt (kind, pan, amt, stan, rrn, code, ()) L l1 l2 l3 x hx
    rw [maxLen_eq]; omega
  rw [G42_is, ocall_some, G107_is k pan (by omega) (by omega), ocall_some, G108_is, ocall_some, G109_is k (by omega) kind pan amt stan rrn code ha hs, ocall_some, hm, ocall_some]
  cases asksK kind with
  | true =>
    simp only [sel_true, if_true]
    by_cases c : code = []
    · cases isFine pan <;> simp [c]
    · rw [sel_eq]; simp [c]
  | false =>
    simp only [sel_false, Bool.false_eq_true, if_false]
    by_cases c : pan = []
    · by_cases c2 : amt = 0 <;> simp [c, c2]
    · rw [sel_eq]; simp [c]
end Go.Proofs.YtjgnpmdbkgeakaaDoor.G
end
section
set_option linter.unusedVariables false
set_option linter.unusedSimpArgs false
namespace Go.Proofs.YtjgnpmdbkgeakaaDoor.G
open Go Go.Proofs.YtjgnpmdbkgeakaaDoor Th
theorem chr_dig {e : Nat} (h : e ≤ 9) : (UInt8.ofNat (48 + e)).toNat = 48 + e := chr_toNat (by omega)
theorem chr_dgt {e : Nat} (h : e ≤ 9) : dgt (UInt8.ofNat (48 + e)) = true := by rw [dgt_iff, chr_dig h]; omega
theorem val_snoc (a : Nat) (s : List UInt8) (c : UInt8) : val a (s ++ [c]) = 10 * val a s + (c.toNat - 48) := by
  unfold val; rw [List.foldl_append, List.foldl_cons, List.foldl_nil]
theorem val_digs : ∀ (n v : Nat), val 0 (digs v n) = v % 10 ^ n
  | 0, v => by simp [digs, val, Nat.mod_one]
  | n + 1, v => by
    have h10 : v % 10 < 10 := Nat.mod_lt _ (by omega)
    rw [digs, val_snoc, val_digs n, chr_dig (by omega), Nat.pow_succ, Nat.mul_comm (10 ^ n) 10, Nat.mod_mul]
    omega
theorem digs_dig : ∀ (n v : Nat), (digs v n).all dgt = true
  | 0, _ => rfl
  | n + 1, v => by
    have h10 : v % 10 < 10 := Nat.mod_lt _ (by omega)
    rw [digs, List.all_append, digs_dig n]
    simp only [List.all_cons, List.all_nil, Bool.and_true, Bool.true_and]
    exact chr_dgt (by omega)
theorem isDig_digs (n v : Nat) (h : 0 < n) : isDig (digs v n) = true := by
  simp [isDig, digs_len, digs_dig, h]
theorem chr_back {c : UInt8} (h : dgt c = true) : UInt8.ofNat (48 + (c.toNat - 48)) = c := by
  rw [dgt_iff] at h
  rw [show 48 + (c.toNat - 48) = c.toNat from by omega]
  simp
theorem digs_val : ∀ (n : Nat) (s : List UInt8), s.length = n → s.all dgt = true → digs (val 0 s) n = s ∧ val 0 s < 10 ^ n := by
  intro n
  induction n with
  | zero => intro s hs _; have : s = [] := List.length_eq_zero_iff.1 hs; subst this; exact ⟨rfl, by simp [val]⟩
  | succ n ih =>
    intro s hs hd
    obtain ⟨t, c, rfl⟩ : ∃ t c, s = t ++ [c] := ⟨s.dropLast, s.getLast (by intro h; rw [h] at hs; simp at hs), (List.dropLast_concat_getLast _).symm⟩
    simp only [List.all_append, List.all_cons, List.all_nil, Bool.and_true, Bool.and_eq_true] at hd
    obtain ⟨h1, h2⟩ := ih t (by simpa using hs) hd.1
    have hc := hd.2
    rw [dgt_iff] at hc
    rw [val_snoc]
    have e1 : (10 * val 0 t + (c.toNat - 48)) / 10 = val 0 t := by omega
    have e2 : (10 * val 0 t + (c.toNat - 48)) % 10 = c.toNat - 48 := by omega
    refine ⟨by rw [digs, e1, e2, h1, chr_back hd.2], ?_⟩
    rw [Nat.pow_succ]; omega
theorem get_digs (n v : Nat) (h0 : 0 < n) (h19 : n ≤ 19) (hv : v < 10 ^ n) : getOK (digs v n) = (v, 0) := by
  unfold getOK
  rw [digs_len, if_neg (by omega), if_neg (by omega), isDig_digs n v h0, if_pos rfl, val_digs, Nat.mod_eq_of_lt hv]
theorem toBytes_len (s : List UInt8) : (toBytes s).length = s.length := by simp [toBytes]
theorem ofBytes_toBytes (s : List UInt8) : ofBytes (toBytes s) = s := by
  unfold ofBytes toBytes
  rw [List.map_map]
  conv => rhs; rw [← List.map_id s]
  apply List.map_congr_left
  intro c _
  simp
theorem toBytes_drop (s : List UInt8) (n : Nat) : (toBytes s).drop n = toBytes (s.drop n) := by simp [toBytes, List.map_drop]
theorem len_ok {d : Def} (hd : d ∈ D) {n : Nat} (h : sized d n = true) (ha : ahead d.2.1 ≠ 0) : 1 ≤ n ∧ n < 10 ^ ahead d.2.1 ∧ (n : Int) ≤ d.2.2.1 := by
  obtain ⟨_, _, _, _, h1, h2, h3⟩ := D_all d hd
  unfold sized at h
  rw [if_neg ha] at h
  simp only [Bool.and_eq_true, decide_eq_true_eq] at h
  rcases ahead_cases (kind := d.2.1) with e | e | e
  · exact absurd e ha
  · have := h3 (ahead_two e)
    rw [e]; refine ⟨h.1, ?_, h.2⟩; omega
  · rw [e]; refine ⟨h.1, ?_, h.2⟩; omega
theorem writeF_len (d : Def) (s : List UInt8) : (writeF d s).length = ahead d.2.1 + s.length := by
  unfold writeF
  split
  · rename_i h; rw [h]; omega
  · rw [List.length_append, digs_len]
theorem lenF_write {d : Def} (hd : d ∈ D) (s t : List UInt8) (h : sized d s.length = true) : lenF d (writeF d s ++ t) = ((s.length : Int), 0) := by
  unfold lenF writeF
  by_cases ha : ahead d.2.1 = 0
  · rw [if_pos ha]
    unfold sized at h
    rw [if_pos ha] at h
    simp only [decide_eq_true_eq] at h
    rw [h]
  · obtain ⟨l1, l2, l3⟩ := len_ok hd h ha
    have h19 : ahead d.2.1 ≤ 19 := by rcases ahead_cases (kind := d.2.1) with e | e | e <;> omega
    rw [if_neg ha, if_neg ha, if_neg (by simp [digs_len]), List.append_assoc, List.take_append_of_le_length (by rw [digs_len]; omega), List.take_of_length_le (by rw [digs_len]; omega),
      get_digs _ _ (by omega) h19 l2, if_pos ⟨rfl, by omega⟩, if_neg (by (try simp only []); omega)]
theorem read_write {d : Def} (hd : d ∈ D) (s t : List UInt8) (h : sized d s.length = true) (hs : signs d s = true) : readF d (writeF d s ++ t) = (s, ((writeF d s).length : Int), 0) := by
  have hl := lenF_write hd s t h
  have hw := writeF_len d s
  unfold readF
  rw [hl]
  simp only [if_true]
  have e : ((ahead d.2.1 : Int) + (s.length : Int)).toNat = (writeF d s).length := by omega
  rw [if_neg (by rw [List.length_append]; omega), e, List.take_append_of_le_length (Nat.le_refl _), List.take_of_length_le (Nat.le_refl _)]
  have e2 : (writeF d s).drop (ahead d.2.1) = s := by
    unfold writeF
    split
    · rename_i ha; rw [ha]; rfl
    · rw [List.drop_append_of_le_length (by rw [digs_len]; omega), List.drop_of_length_le (by rw [digs_len]; omega)]; rfl
  rw [e2, if_pos hs, hw]
  simp
theorem read_back {d : Def} (hd : d ∈ D) (b : List UInt8) (h : (readF d b).2.2 = 0) :
    ∃ k : Nat, (readF d b).2.1 = (k : Int) ∧ 0 < k ∧ k ≤ b.length ∧ sized d (readF d b).1.length = true ∧ signs d (readF d b).1 = true ∧ writeF d (readF d b).1 = b.take k := by
  obtain ⟨_, _, _, _, z1, z2, z3⟩ := D_all d hd
  unfold readF at h ⊢
  by_cases c0 : (lenF d b).2 = 0
  · rw [if_pos c0] at h ⊢
    obtain ⟨l1, l2⟩ := lenF_le hd c0
    by_cases c1 : (b.length : Int) < (ahead d.2.1 : Int) + (lenF d b).1
    · rw [if_pos c1] at h; cases h
    · rw [if_neg c1] at h ⊢
      obtain ⟨l, hl⟩ : ∃ l : Nat, (lenF d b).1 = (l : Int) := ⟨(lenF d b).1.toNat, by omega⟩
      rw [hl] at h ⊢ c1 l1 l2
      have e : ((ahead d.2.1 : Int) + (l : Int)).toNat = ahead d.2.1 + l := by omega
      rw [e] at h ⊢
      split at h
      · rename_i hs
        rw [if_pos hs]
        refine ⟨ahead d.2.1 + l, by simp, by omega, by omega, ?_⟩
        have el : ((b.take (ahead d.2.1 + l)).drop (ahead d.2.1)).length = l := by rw [List.length_drop, List.length_take]; omega
        (try simp only [])
        rw [el]
        refine ⟨?_, hs, ?_⟩
        · unfold sized
          unfold lenF at hl
          by_cases ha : ahead d.2.1 = 0
          · rw [if_pos ha] at hl ⊢
            (try simp only [] at hl)
            rw [hl]; simp
          · rw [if_neg ha]
            simp only [Bool.and_eq_true, decide_eq_true_eq]
            omega
        · unfold writeF
          by_cases ha : ahead d.2.1 = 0
          · rw [if_pos ha, ha]; rfl
          · rw [if_neg ha, el]
            have hd2 : digs l (ahead d.2.1) = b.take (ahead d.2.1) := by
              unfold lenF at hl c0
              rw [if_neg ha] at hl c0
              by_cases q : b.length < ahead d.2.1
              · rw [if_pos q] at c0; cases c0
              rw [if_neg q] at hl c0
              by_cases q2 : (getOK (b.take (ahead d.2.1))).2 = 0 ∧ (getOK (b.take (ahead d.2.1))).1 ≠ 0
              · rw [if_pos q2] at hl c0
                by_cases q3 : d.2.2.1 < ((getOK (b.take (ahead d.2.1))).1 : Int)
                · rw [if_pos q3] at c0; cases c0
                · rw [if_neg q3] at hl
                  have hv : (getOK (b.take (ahead d.2.1))).1 = l := by (try simp only [] at hl); omega
                  have hb : (b.take (ahead d.2.1)).length = ahead d.2.1 := by rw [List.length_take]; omega
                  have hg := q2.1
                  unfold getOK at hv hg
                  rw [hb, if_neg ha] at hv hg
                  by_cases q4 : 19 < ahead d.2.1
                  · rw [if_pos q4] at hg; cases hg
                  rw [if_neg q4] at hv hg
                  by_cases q5 : isDig (b.take (ahead d.2.1)) = true
                  · rw [if_pos q5] at hv
                    (try simp only [] at hv)
                    rw [← hv]
                    exact (digs_val _ _ hb (all_of_isDig q5)).1
                  · rw [if_neg q5] at hg; cases hg
              · rw [if_neg q2] at c0; cases c0
            rw [hd2]
            conv => rhs; rw [← List.take_append_drop (ahead d.2.1) (b.take (ahead d.2.1 + l))]
            rw [List.take_take, show min (ahead d.2.1) (ahead d.2.1 + l) = ahead d.2.1 from by omega]
      · cases h
  · rw [if_neg c0] at h; exact absurd h c0
end Go.Proofs.YtjgnpmdbkgeakaaDoor.G
end
section
set_option linter.unusedVariables false
set_option linter.unusedSimpArgs false
set_option maxRecDepth 100000
namespace Go.Proofs.YtjgnpmdbkgeakaaDoor.G
open Go Go.Proofs.YtjgnpmdbkgeakaaDoor Th
def kindT (s : Txt) : Int :=
  if s = [48, 49, 48, 48] then 1 else if s = [48, 49, 49, 48] then 2 else if s = [48, 52, 48, 48] then 3 else if s = [48, 52, 49, 48] then 4 else if s = [48, 52, 50, 48] then 5 else if s = [48, 52, 50, 49] then 6 else if s = [48, 52, 51, 48] then 7 else 0
theorem G113_2_step (k n : Nat) (s t : Txt) (i : Int) (h1 : 1 ≤ i) (h7 : i ≤ 7) (ht : typeK i = t) : G113_2 k (n + 1) (s, i, ()) = sel (decide (t = s)) (some (.inr (i, ()))) (G113_2 k n (s, i + 1, ())) := by
  rw [G113_2_eq, sel_pos h7, G108_is, ocall_some, wrap64 (show -9223372036854775808 ≤ i + 1 by omega) (show i + 1 ≤ 9223372036854775807 by omega), ht]
theorem G113_2_last (k n : Nat) (s : Txt) (i : Int) (h : ¬ i ≤ 7) : G113_2 k (n + 1) (s, i, ()) = some (.inl ()) := by
  rw [G113_2_eq, sel_neg h]
theorem G113_is (k : Nat) (hk : 20 < k) (s : Txt) : G113 k (s, ()) = some (kindT s, ()) := by
  obtain ⟨m, rfl⟩ : ∃ m, k = m + 8 := ⟨k - 8, by omega⟩
  rw [G113_eq]
  (try simp only [])
  rw [G113_2_step (m + 8) (m + 7) s [48, 49, 48, 48] 1 (by omega) (by omega) rfl, G113_2_step (m + 8) (m + 6) s [48, 49, 49, 48] (1 + 1) (by omega) (by omega) rfl, G113_2_step (m + 8) (m + 5) s [48, 52, 48, 48] (1 + 1 + 1) (by omega) (by omega) rfl,
    G113_2_step (m + 8) (m + 4) s [48, 52, 49, 48] (1 + 1 + 1 + 1) (by omega) (by omega) rfl, G113_2_step (m + 8) (m + 3) s [48, 52, 50, 48] (1 + 1 + 1 + 1 + 1) (by omega) (by omega) rfl,
    G113_2_step (m + 8) (m + 2) s [48, 52, 50, 49] (1 + 1 + 1 + 1 + 1 + 1) (by omega) (by omega) rfl, G113_2_step (m + 8) (m + 1) s [48, 52, 51, 48] (1 + 1 + 1 + 1 + 1 + 1 + 1) (by omega) (by omega) rfl,
    G113_2_last (m + 8) m s _ (by omega)]
  unfold kindT
  by_cases h1 : s = [48, 49, 48, 48]
  · rw [sel_pos h1.symm, if_pos h1]; rfl
  rw [sel_neg (fun e => h1 e.symm), if_neg h1]
  by_cases h2 : s = [48, 49, 49, 48]
  · rw [sel_pos h2.symm, if_pos h2]; rfl
  rw [sel_neg (fun e => h2 e.symm), if_neg h2]
  by_cases h3 : s = [48, 52, 48, 48]
  · rw [sel_pos h3.symm, if_pos h3]; rfl
  rw [sel_neg (fun e => h3 e.symm), if_neg h3]
  by_cases h4 : s = [48, 52, 49, 48]
  · rw [sel_pos h4.symm, if_pos h4]; rfl
  rw [sel_neg (fun e => h4 e.symm), if_neg h4]
  by_cases h5 : s = [48, 52, 50, 48]
  · rw [sel_pos h5.symm, if_pos h5]; rfl
  rw [sel_neg (fun e => h5 e.symm), if_neg h5]
  by_cases h6 : s = [48, 52, 50, 49]
  · rw [sel_pos h6.symm, if_pos h6]; rfl
  rw [sel_neg (fun e => h6 e.symm), if_neg h6]
  by_cases h7 : s = [48, 52, 51, 48]
  · rw [sel_pos h7.symm, if_pos h7]; rfl
  rw [sel_neg (fun e => h7 e.symm), if_neg h7]
  rfl
def numM (n : Int) (l : List Item) : Int := (((getOK (getM n l).1).1 : Nat) : Int)
theorem G114_is (k : Nat) (hk : 20 < k) (n : Int) (typ : Txt) (l : List Item) (hl : l.length ≤ 1000000000) (hlk : l.length < k) : G114 k ((typ, l, ()), n, ()) = some (numM n l, ()) := by
  rw [G114_eq, G115_is k n typ l hl hlk, ocall_some, G172_is k _ hk, ocall_some]
  rfl
end Go.Proofs.YtjgnpmdbkgeakaaDoor.G
end
