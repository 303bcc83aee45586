/- What the sum of a row of digits answers: a loop over a range function, walked by hand. -/
import Derived.RangeFuncFrom
import Derived.RangeFuncBox
import Derived.RangeFuncLeaves
import Derived.Shelf.Abstract
import Derived.WalkKit
import Derived.OwnWalkIn
import Derived.TacticsIn
import Derived.TacticsInMore
import Derived.BigFrameIn
import Derived.LoopNIn
import Derived.LoopIn
import Derived.Test.YtjgnpmdbkgeakaaDoorThU
import Derived.Test.YtjgnpmdbkgeakaaDoorProg
set_option linter.unusedVariables false
set_option linter.unusedSimpArgs false
namespace Go.Proofs.YtjgnpmdbkgeakaaDoor.Sum
open Go Go.RowKit Go.Shelf Go.Proofs Go.Proofs.YtjgnpmdbkgeakaaDoor Th

attribute [local go_sem] Oper.semAt_some

/-- two blocks lie as they lay -/
def Keep2 (b1 b2 : Nat) (W W' : World) : Prop := ∀ k, k = b1 ∨ k = b2 → W'.heap[k]? = W.heap[k]?

theorem Keep2.cell {b1 b2 : Nat} {W W' : World} (h : Keep2 b1 b2 W W') {a : Addr} (ha : a.block = b1 ∨ a.block = b2) : W'.cell? a = W.cell? a := World.cell?_of_block (h _ ha)

/-- what comes, from the last one on -/
def backs (l : List Int) : List (Int × Int) := ((List.range l.length).map fun (i : Nat) => ((i : Int), l.getD i 0)).reverse

theorem backs_len (l : List Int) : (backs l).length = l.length := by simp [backs]
theorem backs_at (l : List Int) (k : Nat) (hk : k < l.length) : (backs l).take (k + 1) = (backs l).take k ++ [(((l.length - 1 - k : Nat) : Int), l.getD (l.length - 1 - k) 0)] := by
  rw [List.take_add_one]
  congr 1
  simp [backs, List.getElem?_reverse, hk]

set_option maxRecDepth 100000 in
set_option maxHeartbeats 1000000 in
theorem back1_in (F : Fence) (n : Nat) (h93 : F.fn 222) (hro : F.round = none) (hn : 1 ≤ n) (l B : Nat) (bs : List Int) (ad : Addr) (cap : Nat) (J Jx : List (Int × Int) → World → Prop)
    (hY : ∀ pre x W, J pre W → pre.length < bs.length → YieldAt F (n - 1) Tryd.prog l #[.int .i64 x.1, .int .u8 x.2] W fun e W' =>
      (e = .returned (.bool true) ∧ J (pre ++ [x]) W' ∧ Keep2 B ad.block W W') ∨ (e = .returned (.bool false) ∧ Jx (pre ++ [x]) W'))
    (W : World) (hB : W.cell? ⟨B, 0, none⟩ = some (.slice (some ad) bs.length cap)) (hc : ∀ (i : Nat) (h : i < bs.length), W.cell? (ad.add i) = some (.int .u8 bs[i])) (hlen : bs.length ≤ 9223372036854775807) (h0 : J [] W) :
    CallsIn F n Tryd.prog 222 #[.func (.yield l) #[] #[], .pointer (some ⟨B, 0, none⟩)] W fun e W' => (∃ v, e = .returned v) ∧
      ((∃ ys, ys = backs bs ∧ J ys W') ∨ (∃ pre, True ∧ Jx pre W')) := by
  refine callsIn_of_wp Tryd.func222 rfl h93 ?_ hro
  simp only [Tryd.ntmps222, List.size_toArray, List.length_cons, List.length_nil, Nat.reduceAdd, Nat.reduceSub, Array.replicate_succ, Array.replicate_zero, List.push_toArray, List.append_toArray, List.nil_append, List.cons_append]
  gi_wp2
  gi_loopw [3] (fun p wr => ∃ k, k ≤ bs.length ∧ p = .int .i64 ((bs.length : Int) - 1 - k) ∧ Keep2 B ad.block W wr ∧ J ((backs bs).take k) wr)
    (fun p wr => match p with | .int _ n => (n + 1).toNat | _ => 0)
  case atStart => exact ⟨0, by omega, by simp, fun k _ => rfl, by simpa using h0⟩
  case round =>
    obtain ⟨k, hk, rfl, hkeep, hJ⟩ := hrel
    have hBr : wr.cell? ⟨B, 0, none⟩ = some (.slice (some ad) bs.length cap) := (hkeep.cell (.inl rfl)).trans hB
    by_cases hlt : k < bs.length
    · have hi : bs.length - 1 - k < bs.length := by omega
      have ei : (bs.length : Int) - 1 - k = ((bs.length - 1 - k : Nat) : Int) := by omega
      have hcr : wr.cell? (ad.add (bs.length - 1 - k)) = some (.int .u8 bs[bs.length - 1 - k]) := by
        refine (hkeep.cell (.inr ?_)).trans (hc _ hi)
        unfold Addr.add; split <;> rfl
      rw [ei]
      have hx := backs_at bs k hlt
      rw [getD_of hi] at hx
      obtain ⟨fn, tmps, assign, body, hy, hR⟩ := hY _ (((bs.length - 1 - k : Nat) : Int), bs[bs.length - 1 - k]) wr hJ (by rw [List.length_take, backs_len]; omega)
      generalize bs.length - 1 - k = i at *
      gi_wp2
      refine hR.mono ?_
      rintro e W3 (⟨rfl, hJ3, hk3⟩ | ⟨rfl, hJx3⟩)
      · gi_wp2
        go_roundw
        case rel => exact ⟨k + 1, by omega, by congr 1; omega, fun b hb => (hk3 b hb).trans (hkeep b hb), by rw [hx]; exact hJ3⟩
        case measure => simp
      · gi_wp2
        refine bodyPost_ret (results_none rfl _ _ _) rfl ?_
        exact ⟨⟨_, rfl⟩, .inr ⟨_, trivial, hJx3⟩⟩
    · have hk' : k = bs.length := by omega
      subst hk'
      have e1 : (bs.length : Int) - 1 - (bs.length : Nat) = -1 := by omega
      rw [e1]
      gi_wp2
      go_end0
      exact ⟨⟨_, rfl⟩, .inl ⟨_, rfl, by rw [List.take_of_length_le (by rw [backs_len]; exact Nat.le_refl _)] at hJ; exact hJ⟩⟩

set_option maxHeartbeats 1000000 in
theorem back_in (F : Fence) (n : Nat) (h91 : F.fn 203) (hro : F.round = none) (ad : Addr) (m cap : Nat) (w : World) :
    CallsIn F n Tryd.prog 203 #[.slice (some ad) m cap] w fun e w' => e = .returned (.func (.func 222) #[] #[.pointer (some ⟨w.heap.size, 0, none⟩)]) ∧ w' = w.alloc (.cells #[.slice (some ad) m cap] 110) := by
  refine callsIn_of_wp Tryd.func203 rfl h91 ?_ hro
  simp only [Tryd.ntmps203, List.size_toArray, List.length_cons, List.length_nil, Nat.reduceAdd, Nat.reduceSub, Array.replicate_succ, Array.replicate_zero, List.push_toArray, List.append_toArray, List.nil_append, List.cons_append]
  gi_wp2
  go_ret
  exact ⟨rfl, rfl⟩

/-- one digit more -/
def step (p : Int × Bool) (c : Int) : Int × Bool :=
  (RowKit.wrap64 (p.1 + bif p.2 then (c - 48) % 256 * 2 - (c - 48) % 256 / 5 * 9 else (c - 48) % 256), !p.2)
def sumOf (l : List (Int × Int)) (tw : Bool) : Int × Bool := l.foldl (fun p x => step p x.2) (0, tw)
theorem sumOf_snoc (pre : List (Int × Int)) (x : Int × Int) (tw : Bool) : sumOf (pre ++ [x]) tw = step (sumOf pre tw) x.2 := by simp [sumOf]

/-- bytes of a text, laid anew -/
theorem run_s2b (P : Program) {src dst e : TypeId} (hsrc : ∃ d, P.underlying src = some d) (hdst : P.underlying dst = some (.slice e)) (he8 : P.underlying e = some (.int .u8)) (b : List UInt8) (w : World) :
    ∃ (cap : Nat) (us : Array Value), b.length ≤ cap ∧ (∀ (i : Nat) (h : i < b.length), us[i]? = some (.int .u8 (b[i].toNat : Int))) ∧
      (convert src dst (strV b)).run P w = .ok (.slice (some ⟨w.heap.size, 0, none⟩) b.length cap) (w.drew.alloc (.cells us e (us.size, us.size + 1))) := by
  obtain ⟨d, hd1⟩ := hsrc
  refine ⟨grownCap w b.length 0 e, (⟨b.toArray⟩ : ByteArray).data.map (fun b => Value.int .u8 b.toNat) ++ Array.replicate (grownCap w b.length 0 e - b.length) (.int .u8 0), grownCap_ge w b.length 0 e, fun i h => ?_, ?_⟩
  · rw [Array.getElem?_append_left (by simpa using h)]
    simp [h]
  · have hsz : (⟨b.toArray⟩ : ByteArray).size = b.length := by simp [ByteArray.size]
    have hge : b.length ≤ grownCap w b.length 0 e := grownCap_ge w b.length 0 e
    generalize hus : (⟨b.toArray⟩ : ByteArray).data.map (fun b => Value.int .u8 b.toNat) ++ Array.replicate (grownCap w b.length 0 e - b.length) (.int .u8 0) = us
    have hsh := shape_alloc w.drew us e
    have hfz := freeze_alloc w.drew us e
    simp only [strV, Sem.run_bind, convert, run_underlying hd1, run_underlying hdst, Result.andThen_ok, run_underlying he8]
    simp only [Conv.stringToBytes, Sem.run_bind, run_choose_drew, Question.forced, Bool.false_eq_true, if_false, Result.andThen_ok, newRow, run_newObj_alloc, Sem.run_pure, markStringish, run_shape, hsz]
    have e0 : (Question.appendCap b.length 0 e).cut (w.tape w.drawn (Question.appendCap b.length 0 e)) = grownCap w b.length 0 e := rfl
    rw [e0, hus]
    simp only [hsh, run_freeze, hfz, Result.andThen_ok]
    rfl

/-- where the loop starts -/
structure At0 (w : World) (tw : Bool) (b : List UInt8) (cap : Nat) (W : World) : Prop where
  size : W.heap.size = w.heap.size + 4
  below : Below w.heap.size w W
  tw : W.cell? ⟨w.heap.size, 0, none⟩ = some (.bool tw) ∧ W.frozen? ⟨w.heap.size, 0, none⟩ = false
  n : W.cell? ⟨w.heap.size + 1, 0, none⟩ = some (.int .i64 0) ∧ W.frozen? ⟨w.heap.size + 1, 0, none⟩ = false
  bytes : ∀ (i : Nat) (h : i < (toBytes b).length), W.cell? ((⟨w.heap.size + 2, 0, none⟩ : Addr).add i) = some (.int .u8 (toBytes b)[i])
  box : W.cell? ⟨w.heap.size + 3, 0, none⟩ = some (.slice (some ⟨w.heap.size + 2, 0, none⟩) (toBytes b).length cap)

theorem at0 (w : World) (tw : Bool) (b : List UInt8) (cap : Nat) (us : Array Value) (e1 e2 e3 e4 : TypeId) (fr : Nat × Nat) (hus : ∀ (i : Nat) (h : i < b.length), us[i]? = some (.int .u8 (b[i].toNat : Int))) :
    At0 w tw b cap ((((w.alloc (.cells #[.bool tw] e1)).alloc (.cells #[.int .i64 0] e2)).alloc (.cells us e3 fr)).drew.alloc (.cells #[.slice (some ⟨w.heap.size + 1 + 1, 0, none⟩) b.length cap] e4)) := by
  generalize hW : ((((w.alloc (.cells #[.bool tw] e1)).alloc (.cells #[.int .i64 0] e2)).alloc (.cells us e3 fr)).drew.alloc (.cells #[.slice (some ⟨w.heap.size + 1 + 1, 0, none⟩) b.length cap] e4)) = W
  have hh : W.heap = (((w.heap.push (.cells #[.bool tw] e1)).push (.cells #[.int .i64 0] e2)).push (.cells us e3 fr)).push (.cells #[.slice (some ⟨w.heap.size + 1 + 1, 0, none⟩) b.length cap] e4) := by rw [← hW]; rfl
  have g0 : W.heap[w.heap.size]? = some (.cells #[.bool tw] e1) := by rw [hh]; simp only [Array.getElem?_push, Array.size_push]; rw [if_neg (by omega), if_neg (by omega), if_neg (by omega), if_pos trivial]
  have g1 : W.heap[w.heap.size + 1]? = some (.cells #[.int .i64 0] e2) := by rw [hh]; simp only [Array.getElem?_push, Array.size_push]; rw [if_neg (by omega), if_neg (by omega), if_pos trivial]
  have g2 : W.heap[w.heap.size + 2]? = some (.cells us e3 fr) := by rw [hh]; simp only [Array.getElem?_push, Array.size_push]; rw [if_neg (by omega), if_pos trivial]
  have g3 : W.heap[w.heap.size + 3]? = some (.cells #[.slice (some ⟨w.heap.size + 1 + 1, 0, none⟩) b.length cap] e4) := by rw [hh]; simp only [Array.getElem?_push, Array.size_push]; rw [if_pos trivial]
  have hl : (toBytes b).length = b.length := by simp [toBytes]
  refine ⟨by rw [hh]; simp, ?_, ⟨by rw [cell_of g0]; rfl, frozen_of g0 (thawed0 _) (by simp)⟩, ⟨by rw [cell_of g1]; rfl, frozen_of g1 (thawed0 _) (by simp)⟩, fun i h => ?_, by rw [cell_of g3, hl]; rfl⟩
  · rw [← hW]
    refine (((((Below.refl _ w).alloc (Nat.le_refl _) _).alloc (by simp) _).alloc (by simp; omega) _).drew).alloc ?_ _
    show _ ≤ (((w.alloc _).alloc _).alloc _).heap.size
    simp; omega
  · rw [addr_add, cell_of g2, Nat.zero_add, hus i (by omega)]
    simp [toBytes]

theorem round_post {w WW W : World} {tw : Bool} {b : List UInt8} {cap : Nat} (A : At0 w tw b cap WW) {pre : List (Int × Int)} {x : Int × Int} {p : Int × Bool} {v : Int} {c : Bool} {ac : Act}
    (hsn : sumOf (pre ++ [x]) tw = (v, c)) (ht : W.cell? ⟨w.heap.size, 0, none⟩ = some (.bool p.2)) (htf : W.frozen? ⟨w.heap.size, 0, none⟩ = false)
    (hc : W.cell? ⟨w.heap.size + 1, 0, none⟩ = some (.int .i64 p.1)) (hf : W.frozen? ⟨w.heap.size + 1, 0, none⟩ = false) (hb : Below w.heap.size w W) :
    ownPostK (Keep2 (w.heap.size + 3) (w.heap.size + 2)) (fun pre W => (W.cell? ⟨w.heap.size, 0, none⟩ = some (.bool (sumOf pre tw).2) ∧ W.frozen? ⟨w.heap.size, 0, none⟩ = false) ∧ (W.cell? ⟨w.heap.size + 1, 0, none⟩ = some (.int .i64 (sumOf pre tw).1) ∧ W.frozen? ⟨w.heap.size + 1, 0, none⟩ = false) ∧ Below w.heap.size w W)
      (fun _ _ _ => False) (pre ++ [x]) W .normal ac ((W.setCell ⟨w.heap.size + 1, 0, none⟩ (.int .i64 v)).setCell ⟨w.heap.size, 0, none⟩ (.bool c)) := by
  refine ⟨(KeepsOthers.setCell _ _ _).trans (KeepsOthers.setCell _ _ _), fun k hk => ?_, ⟨?_, ?_⟩, ⟨?_, ?_⟩, (hb.setCell (by simp) _).setCell (by simp) _⟩
  · rw [Below.heap_setCell _ _ _ _ (by simp; omega), Below.heap_setCell _ _ _ _ (by simp; omega)]
  · rw [hsn]
    refine World.cell?_setCell_same' _ _ _ ?_
    rw [World.cell?_of_block (Below.heap_setCell _ _ _ _ (by simp)), ht]; rfl
  · rw [World.frozen?_setCell, World.frozen?_setCell]; exact htf
  · rw [hsn, World.cell?_of_block (Below.heap_setCell _ _ _ _ (by simp))]
    refine World.cell?_setCell_same' _ _ _ ?_
    rw [hc]; rfl
  · rw [World.frozen?_setCell, World.frozen?_setCell]; exact hf

set_option maxRecDepth 100000 in
set_option maxHeartbeats 2000000 in
theorem sum_in (n : Nat) (hn : 3 ≤ n) (b : List UInt8) (hlen : b.length ≤ 9223372036854775807) (tw : Bool) (w : World) :
    CallsIn Fence.wide n Tryd.prog 170 #[strV b, .bool tw] w fun e W' => e = .returned (.int .i64 (sumOf (backs (toBytes b)) tw).1) ∧ Below w.heap.size w W' := by
  have h1 : 1 ≤ n := by omega
  refine callsIn_of_wp_marks Tryd.func170 rfl trivial ?_ rfl
  simp only [Tryd.ntmps170, List.size_toArray, List.length_cons, List.length_nil, Nat.reduceAdd, Nat.reduceSub, Array.replicate_succ, Array.replicate_zero, List.push_toArray, List.append_toArray, List.nil_append, List.cons_append]
  gi_wp2
  obtain ⟨cap, us, hcap, hus, hrun⟩ := run_s2b Tryd.prog (src := 9) (dst := 110) (e := 5) ⟨_, Tryd.underlying9⟩ Tryd.underlying110 Tryd.underlying5 b ((w.alloc (.cells #[.bool tw] 4)).alloc (.cells #[.int .i64 0] 3))
  rw [hrun]
  simp only [Result.andThen_ok]
  gi_wp2
  refine ⟨trivial, (back_in Fence.wide (n - 1) trivial rfl _ _ _ _).mono ?_⟩
  rintro e w' ⟨rfl, rfl⟩
  dsimp only
  gi_wp2
  have A := at0 w tw b cap us 4 3 5 110 (us.size, us.size + 1) hus
  have hs : (((w.alloc (Obj.cells #[Value.bool tw] 4)).alloc (Obj.cells #[Value.int IntKind.i64 0] 3)).alloc (Obj.cells us 5 (us.size, us.size + 1))).drew.heap.size = w.heap.size + 3 := by
    show (((w.alloc _).alloc _).alloc _).heap.size = _
    simp
  rw [hs]
  generalize ((((w.alloc (Obj.cells #[Value.bool tw] 4)).alloc (Obj.cells #[Value.int IntKind.i64 0] 3)).alloc (Obj.cells us 5 (us.size, us.size + 1))).drew.alloc (Obj.cells #[Value.slice (some { block := w.heap.size + 1 + 1, off := 0 }) b.length cap] 110)) = WW at A ⊢
  have hlen' : (toBytes b).length = b.length := by simp [toBytes]
  refine wpIn_rangeFunc_ownF rfl h1 (gf := 222) (lb := #[.pointer (some ⟨w.heap.size + 3, 0, none⟩)]) rfl trivial (enters_of Tryd.func222 (by kernel_rfl) rfl)
    (encs := fun x : Int × Int => #[.int .i64 x.1, .int .u8 x.2]) (Kp := Keep2 (w.heap.size + 3) (w.heap.size + 2)) (S := fun ys => ys = backs (toBytes b)) (Sp := fun _ => True) (N := (toBytes b).length) (w0 := WW)
    (fun l J Jx W hW _ _ hY h0 => back1_in Fence.wide (n - 1) trivial rfl (by omega) l (w.heap.size + 3) (toBytes b) ⟨w.heap.size + 2, 0, none⟩ cap J Jx hY W ((hW.cell (p := ⟨w.heap.size + 3, 0, none⟩) (by rw [A.size]; show w.heap.size + 3 < _; omega)).trans A.box)
      (fun i h => (hW.cell (p := (⟨w.heap.size + 2, 0, none⟩ : Addr).add i) (by rw [A.size, addr_add]; show w.heap.size + 2 < _; omega)).trans (A.bytes i h)) (by rw [hlen']; exact hlen) h0)
    (fun h k b hb => (k b hb).trans (h b hb))
    (fun W l o o' hl _ _ _ b hb => World.putObj_heap_other (by rw [A.size] at hl; omega))
    (Below.refl _ _) (fun _ => rfl)
    (fun pre W => (W.cell? ⟨w.heap.size, 0, none⟩ = some (.bool (sumOf pre tw).2) ∧ W.frozen? ⟨w.heap.size, 0, none⟩ = false) ∧ (W.cell? ⟨w.heap.size + 1, 0, none⟩ = some (.int .i64 (sumOf pre tw).1) ∧ W.frozen? ⟨w.heap.size + 1, 0, none⟩ = false) ∧ Below w.heap.size w W)
    (fun _ _ _ => False) ?own (fun _ _ _ _ _ hs _ _ => hs) ⟨A.tw, A.n, A.below⟩
    (fun x => { tmps := #[strV b, .bool tw, undef, .pointer (some ⟨w.heap.size, 0, none⟩), .int .i64 0, .pointer (some ⟨w.heap.size + 1, 0, none⟩), undef, .int .u8 x.2, undef, strV b, .slice (some ⟨w.heap.size + 1 + 1, 0, none⟩) b.length cap, .func (.func 222) #[] #[.pointer (some ⟨w.heap.size + 3, 0, none⟩)], .int .i64 x.1, .int .u8 x.2, undef, undef, undef, undef, undef, undef, undef, undef, undef, undef, undef, undef, undef, undef, undef, undef], defers := [] }) ?assign ?body ?done ?stop
  case own =>
    refine fun s A' B' row hs hg hr => ⟨⟨cell_kept hs.1.1 hg fun r e => (hr r e).2, (frozen_kept hs.1.1 hg fun r e => (hr r e).2).trans hs.1.2⟩, ⟨cell_kept hs.2.1.1 hg fun r e => (hr r e).2, (frozen_kept hs.2.1.1 hg fun r e => (hr r e).2).trans hs.2.1.2⟩, ?_⟩
    exact hs.2.2.grown hg hs.2.2.size (fun k e => by have := (hr k e).1; rw [A.size] at this; omega)
  case assign =>
    intro l x W K hK
    gi_wp2_with (rw [Oper.semAt_eq _ _ _ (fun c h => by cases h)]; go_simp; try go_bits)
    exact hK
  case body =>
    rintro l pre x W ⟨⟨ht, htf⟩, ⟨hc, hf⟩, hb⟩ _
    have hsn := sumOf_snoc pre x tw
    generalize hp : sumOf pre tw = p at ht hc hsn
    obtain ⟨p1, p2⟩ := p
    simp only [] at ht hc
    cases p2
    · gi_wp2_with (rw [Oper.semAt_eq _ _ _ (fun c h => by cases h)]; go_simp; try go_bits)
      exact round_post (p := (p1, false)) A hsn ht htf hc hf hb
    · gi_wp2_with (rw [Oper.semAt_eq _ _ _ (fun c h => by cases h)]; go_simp; try go_bits)
      exact round_post (p := (p1, true)) A hsn ht htf hc hf hb
  case done =>
    rintro D xs W hD rfl ⟨⟨ht, htf⟩, ⟨hc, hf⟩, hb⟩ hK
    gi_wp2
    refine ⟨by simp, .inl ⟨_, _, rfl, run_takeDeferred hK, ?_⟩⟩
    exact ⟨_, results_tmp rfl _ _ _, rfl, hb.grown (grownBy_putObj' W D _) hb.size (fun k e => by cases e; rw [A.size] at hD; omega)⟩
  case stop =>
    rintro D c pre W _ _ h _
    exact h.elim

#print axioms sum_in
/-- the sum's contract -/
theorem fn170 (b : List UInt8) (hlen : b.length ≤ 9223372036854775807) (tw : Bool) : CallOK Tryd.prog 170 [.str b, .bool tw] (.int .i64 (sumOf (backs (toBytes b)) tw).1) := by
  refine .inl ⟨rfl, ⟨_, Tryd.func170, by kernel_rfl, by kernel_rfl⟩, fun w pr us hpr _ ha => ?_⟩
  obtain ⟨u1, us1, rfl, h1, h2⟩ : ∃ u1 us1, us = u1 :: us1 ∧ PV w pr (.str b) u1 ∧ All2 (PV w pr) [.bool tw] us1 := by
    cases us with
    | nil => exact ha.elim
    | cons u us => exact ⟨u, us, rfl, ha.1, ha.2⟩
  obtain ⟨u2, us2, rfl, h3, h4⟩ : ∃ u1 us', us1 = u1 :: us' ∧ PV w pr (.bool tw) u1 ∧ All2 (PV w pr) [] us' := by
    cases us1 with
    | nil => exact h2.elim
    | cons u us => exact ⟨u, us, rfl, h2.1, h2.2⟩
  have e1 : u1 = strV b := by rcases h1 with h | ⟨_, _, h, _⟩ <;> first | exact h | cases h
  have e2 : u2 = .bool tw := by rcases h3 with h | ⟨_, _, h, _⟩ <;> first | exact h | cases h
  have e3 : us2 = [] := by cases us2 with | nil => rfl | cons _ _ => exact h4.elim
  subst e1 e2 e3
  refine (callsIn_wide.1 (sum_in 10 (by omega) b hlen tw w)).mono ?_
  rintro e W' ⟨rfl, hb⟩
  exact ⟨_, pr, rfl, hb, fun _ _ _ => Iff.rfl, fun k o h => Nat.lt_of_lt_of_le (hpr k o h) hb.size, none, .inl rfl, rfl⟩

end Go.Proofs.YtjgnpmdbkgeakaaDoor.Sum
