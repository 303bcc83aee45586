/- THE CLAIM'S TEXTS, part 3: what its proof needs of the theory, the functions, their equations and the laws. No condition. -/
import Derived.Test.YtjgnpmdbkgeakaaDoorQLineEvents2
import Derived.RangeFuncFrom
import Derived.RangeFuncBox
import Derived.RangeFuncLeaves
import Derived.Shelf.Abstract
import Derived.Shelf.RegionOpenPlain
import Derived.Lib.Walk
import Derived.Lib.SliceRun
import Derived.Lib.AppendZerosOnto
import Derived.KernelRfl
section
set_option linter.unusedVariables false
set_option linter.unusedSimpArgs false
namespace Go.Proofs.YtjgnpmdbkgeakaaDoor.Signs
open Go Go.RowKit Go.Proofs Go.Proofs.YtjgnpmdbkgeakaaDoor Th Go.Lib
attribute [local go_sem] Oper.semAt_some
set_option maxRecDepth 100000 in
set_option maxHeartbeats 2000000 in
theorem signs_in (n : Nat) (hn : 3 ≤ n) (f kind size : Int) (bs : ByteArray) (hlen : bs.size ≤ 9223372036854775807) (d : Bool) (w : World)
    (hIs : ∀ w1 : World, Below w.heap.size w w1 → Calls Tryd.prog 169 #[.string bs] w1 fun e w' => e = .returned (.bool d) ∧ Below w1.heap.size w1 w') :
    CallsIn Fence.wide n Tryd.prog 177 #[.agg #[.int .i64 f, .int .i64 kind, .int .i64 size], .string bs] w fun e W' => e = .returned (.bool (signsOf kind d bs.data.toList)) ∧ Below w.heap.size w W' := by
  have h1 : 1 ≤ n := by omega
  refine callsIn_of_wp Tryd.func177 rfl trivial ?_ rfl
  simp only [Tryd.ntmps177, List.size_toArray, List.length_cons, List.length_nil, Nat.reduceAdd, Nat.reduceSub, Array.replicate_succ, Array.replicate_zero, List.push_toArray, List.append_toArray, List.nil_append, List.cons_append]
  by_cases k1 : kind = 1
  · subst k1
    gi_wp2
    refine ⟨trivial, (callsIn_wide.2 (hIs _ ((Below.refl _ w).alloc (Nat.le_refl _) _))).mono ?_⟩
    rintro e w' ⟨rfl, hb⟩
    dsimp only
    gi_wp2
    go_ret
    refine ⟨by simp [signsOf], ((Below.refl _ w).alloc (Nat.le_refl _) _).trans (hb.mono (by simp))⟩
  by_cases k3 : kind = 3
  · subst k3
    gi_wp2
    refine ⟨trivial, (callsIn_wide.2 (hIs _ ((Below.refl _ w).alloc (Nat.le_refl _) _))).mono ?_⟩
    rintro e w' ⟨rfl, hb⟩
    dsimp only
    gi_wp2
    go_ret
    refine ⟨by simp [signsOf], ((Below.refl _ w).alloc (Nat.le_refl _) _).trans (hb.mono (by simp))⟩
  · gi_wp2
    · exfalso; simp_all
    have hit : (((w.alloc (Obj.cells #[Value.int IntKind.i64 f, Value.int IntKind.i64 kind, Value.int IntKind.i64 size] 222)).iter bs 0)).heap[w.heap.size + 1]? = some (.stringIter bs 0) := by
      have := World.iter_heap (w.alloc (Obj.cells #[Value.int IntKind.i64 f, Value.int IntKind.i64 kind, Value.int IntKind.i64 size] 222)) bs 0
      rwa [World.size_alloc] at this
    have hbl : Below w.heap.size w ((w.alloc (Obj.cells #[Value.int IntKind.i64 f, Value.int IntKind.i64 kind, Value.int IntKind.i64 size] 222)).iter bs 0) :=
      ((Below.refl _ w).alloc (Nat.le_refl _) _).alloc (by simp) _
    generalize ((w.alloc (Obj.cells #[Value.int IntKind.i64 f, Value.int IntKind.i64 kind, Value.int IntKind.i64 size] 222)).iter bs 0) = W0 at hit hbl ⊢
    gi_loopw [] (fun wr => ∃ pos, pos ≤ bs.size ∧ (∀ (i : Nat) (h : i < bs.size), i < pos → plain bs[i] = true) ∧ wr.heap[w.heap.size + 1]? = some (.stringIter bs pos) ∧ Below w.heap.size w wr)
      (fun wr => bs.size - wr.iterPos (w.heap.size + 1))
    case atStart => exact ⟨0, by omega, fun i h hi => by omega, hit, hbl⟩
    case round =>
      obtain ⟨pos, hp, hall, hhe, hb⟩ := hrel
      by_cases hlt : pos < bs.size
      · by_cases hpl : plain (bs[pos]'hlt) = true
        · have hpl' := hpl
          simp only [plain, Bool.and_eq_true, decide_eq_true_eq] at hpl'
          have hnext := run_next_ascii_at (P := Tryd.prog) wr (w.heap.size + 1) bs pos 0 hhe hlt (by omega)
          have c1 : ¬ (((bs[pos]'hlt).toNat : Int) < 32) := by omega
          have c2 : ¬ (126 < ((bs[pos]'hlt).toNat : Int)) := by omega
          gi_wp2
          go_roundw
          case rel =>
            refine ⟨pos + 1, by omega, fun i h hi => ?_, iterAt_heap wr (w.heap.size + 1) bs pos (pos + 1) hhe, below_iterAt hb (by omega) _ _⟩
            by_cases e : i = pos
            · subst e; exact hpl
            · exact hall i h (by omega)
          case measure =>
            rw [iterPos_of' hhe, iterPos_of' (iterAt_heap wr (w.heap.size + 1) bs pos (pos + 1) hhe)]
            omega
        · have hpf : plain (bs[pos]'hlt) = false := by simpa using hpl
          have fin : bs.data.toList.all plain = false := not_all hlt hpf
          have fin2 : signsOf kind d bs.data.toList = false := by unfold signsOf; rw [if_neg (by simp [k1, k3]), fin]
          by_cases hasc : (bs[pos]'hlt).toNat < 128
          · have hnext := run_next_ascii_at (P := Tryd.prog) wr (w.heap.size + 1) bs pos 0 hhe hlt hasc
            have hcc : ((bs[pos]'hlt).toNat : Int) < 32 ∨ 126 < ((bs[pos]'hlt).toNat : Int) := by
              simp only [plain, Bool.and_eq_false_iff, decide_eq_false_iff_not] at hpf
              omega
            rcases hcc with c1 | c1
            · gi_wp2
              go_ret
              first | exact ⟨(congrArg (fun x => Ending.returned (Value.bool x)) fin2).symm, below_iterAt hb (by omega) _ _⟩ | exact ⟨rfl, below_iterAt hb (by omega) _ _⟩
            · have c2 : ¬ (((bs[pos]'hlt).toNat : Int) < 32) := by omega
              gi_wp2
              go_ret
              first | exact ⟨(congrArg (fun x => Ending.returned (Value.bool x)) fin2).symm, below_iterAt hb (by omega) _ _⟩ | exact ⟨rfl, below_iterAt hb (by omega) _ _⟩
          · have hnext := run_next_any_at (P := Tryd.prog) wr (w.heap.size + 1) bs pos 0 hhe hlt
            have hhi := (decode_high bs pos hlt (by omega)).1
            have c1 : ¬ (((Utf8.decode bs pos).1 : Int) < 32) := by omega
            have c2 : 126 < ((Utf8.decode bs pos).1 : Int) := by omega
            gi_wp2
            go_ret
            first | exact ⟨(congrArg (fun x => Ending.returned (Value.bool x)) fin2).symm, below_iterAt hb (by omega) _ _⟩ | exact ⟨rfl, below_iterAt hb (by omega) _ _⟩
      · have hnext := run_next_end_at (P := Tryd.prog) wr (w.heap.size + 1) bs pos 0 hhe hlt
        have fin : bs.data.toList.all plain = true := all_of fun i h => hall i h (by omega)
        have fin2 : signsOf kind d bs.data.toList = true := by unfold signsOf; rw [if_neg (by simp [k1, k3]), fin]
        gi_wp2
        go_ret
        first | exact ⟨(congrArg (fun x => Ending.returned (Value.bool x)) fin2).symm, hb⟩ | exact ⟨rfl, hb⟩
theorem fn177 (f kind size : Int) (b : List UInt8) (hlen : b.length ≤ 9223372036854775807) (d : Bool) (hIs : CallOK Tryd.prog 169 [.str b] (.bool d)) :
    CallOK Tryd.prog 177 [.agg [.int .i64 f, .int .i64 kind, .int .i64 size], .str b] (.bool (signsOf kind d b)) := by
  refine .inl ⟨rfl, ⟨_, Tryd.func177, by kernel_rfl, by kernel_rfl⟩, fun w pr us hpr hgl ha => ?_⟩
  obtain ⟨u1, us1, rfl, h1, h2⟩ : ∃ u1 us1, us = u1 :: us1 ∧ PV w pr (.agg [.int .i64 f, .int .i64 kind, .int .i64 size]) u1 ∧ All2 (PV w pr) [.str b] us1 := by
    cases us with
    | nil => exact ha.elim
    | cons u us => exact ⟨u, us, rfl, ha.1, ha.2⟩
  obtain ⟨u2, us2, rfl, h3, h4⟩ : ∃ u1 us', us1 = u1 :: us' ∧ PV w pr (.str b) u1 ∧ All2 (PV w pr) [] us' := by
    cases us1 with
    | nil => exact h2.elim
    | cons u us => exact ⟨u, us, rfl, h2.1, h2.2⟩
  have e1 : u1 = .agg #[.int .i64 f, .int .i64 kind, .int .i64 size] := by
    rcases h1 with h | ⟨cs, vs, hc, hv, hr⟩
    · exact h.elim
    · cases hc
      match vs, hr with
      | [a, b, c], ⟨p, q, r, _⟩ => rw [hv, show a = _ from p, show b = _ from q, show c = _ from r]
  have e2 : u2 = strV b := by rcases h3 with h | ⟨_, _, h, _⟩ <;> first | exact h | cases h
  have e3 : us2 = [] := by cases us2 with | nil => rfl | cons _ _ => exact h4.elim
  subst e1 e2 e3
  have hIs' : ∀ w1 : World, Below w.heap.size w w1 → Calls Tryd.prog 169 #[strV b] w1 fun e w' => e = .returned (.bool d) ∧ Below w1.heap.size w1 w' := by
    intro w1 hb1
    rcases hIs with ⟨_, hIs⟩ | ⟨_, _, _, _, _, e, _⟩ | ⟨_, _, _, _, _, e, _⟩
    case inr.inl => cases e
    case inr.inr => cases e
    refine (hIs.2 w1 pr [strV b] (fun k o h => Nat.lt_of_lt_of_le (hpr k o h) hb1.size) (hgl.keeps fun k o p => ⟨p, cell_heap (hb1.block k (hpr k o p)) o⟩) ⟨.inl rfl, trivial⟩).mono ?_
    rintro e w' ⟨r, pr', rfl, hb, _, _, hr⟩
    obtain ⟨bb, hr⟩ := hr
    refine ⟨?_, hb⟩
    rcases hr.1 with h1 | ⟨_, _, h1, _⟩
    · rw [show r = .bool d from h1]
    · cases h1
  have := signs_in 10 (by omega) f kind size ⟨b.toArray⟩ (by simpa [ByteArray.size] using hlen) d w hIs'
  refine (callsIn_wide.1 this).mono ?_
  rintro e W' ⟨rfl, hb⟩
  exact ⟨_, pr, rfl, hb, fun _ _ _ => Iff.rfl, fun k o h => Nat.lt_of_lt_of_le (hpr k o h) hb.size, none, .inl rfl, rfl⟩
end Go.Proofs.YtjgnpmdbkgeakaaDoor.Signs
end
section
set_option linter.unusedVariables false
set_option linter.unusedSimpArgs false
namespace Go.Proofs.YtjgnpmdbkgeakaaDoor.Sum
open Go Go.RowKit Go.Shelf Go.Proofs Go.Proofs.YtjgnpmdbkgeakaaDoor Th
attribute [local go_sem] Oper.semAt_some
def Keep2 (b1 b2 : Nat) (W W' : World) : Prop := ∀ k, k = b1 ∨ k = b2 → W'.heap[k]? = W.heap[k]?
theorem Keep2.cell {b1 b2 : Nat} {W W' : World} (h : Keep2 b1 b2 W W') {a : Addr} (ha : a.block = b1 ∨ a.block = b2) : W'.cell? a = W.cell? a := World.cell?_of_block (h _ ha)
def backs (l : List Int) : List (Int × Int) := ((List.range l.length).map fun (i : Nat) => ((i : Int), l.getD i 0)).reverse
theorem backs_len (l : List Int) : (backs l).length = l.length := by simp [backs]
theorem backs_at (l : List Int) (k : Nat) (hk : k < l.length) : (backs l).take (k + 1) = (backs l).take k ++ [(((l.length - 1 - k : Nat) : Int), l.getD (l.length - 1 - k) 0)] := by
  rw [List.take_add_one]
  congr 1
  simp [backs, List.getElem?_reverse, hk]
set_option maxRecDepth 100000 in
set_option maxHeartbeats 1000000 in
theorem back1_in (F : Fence) (n : Nat) (h93 : F.fn 222) (hro : F.round = none) (hn : 1 ≤ n) (l B : Nat) (bs : List Int) (ad : Addr) (cap : Nat) (J Jx : List (Int × Int) → World → Prop)
    (hY : ∀ pre x W, J pre W → pre.length < bs.length → YieldAt F (n - 1) Tryd.prog l #[.int .i64 x.1, .int .u8 x.2] W fun e W' =>
      (e = .returned (.bool true) ∧ J (pre ++ [x]) W' ∧ Keep2 B ad.block W W') ∨ (e = .returned (.bool false) ∧ Jx (pre ++ [x]) W'))
    (W : World) (hB : W.cell? ⟨B, 0, none⟩ = some (.slice (some ad) bs.length cap)) (hc : ∀ (i : Nat) (h : i < bs.length), W.cell? (ad.add i) = some (.int .u8 bs[i])) (hlen : bs.length ≤ 9223372036854775807) (h0 : J [] W) :
    CallsIn F n Tryd.prog 222 #[.func (.yield l) #[] #[], .pointer (some ⟨B, 0, none⟩)] W fun e W' => (∃ v, e = .returned v) ∧
      ((∃ ys, ys = backs bs ∧ J ys W') ∨ (∃ pre, True ∧ Jx pre W')) := by
  refine callsIn_of_wp Tryd.func222 rfl h93 ?_ hro
  simp only [Tryd.ntmps222, List.size_toArray, List.length_cons, List.length_nil, Nat.reduceAdd, Nat.reduceSub, Array.replicate_succ, Array.replicate_zero, List.push_toArray, List.append_toArray, List.nil_append, List.cons_append]
  gi_wp2
  gi_loopw [3] (fun p wr => ∃ k, k ≤ bs.length ∧ p = .int .i64 ((bs.length : Int) - 1 - k) ∧ Keep2 B ad.block W wr ∧ J ((backs bs).take k) wr)
    (fun p wr => match p with | .int _ n => (n + 1).toNat | _ => 0)
  case atStart => exact ⟨0, by omega, by simp, fun k _ => rfl, by simpa using h0⟩
  case round =>
    obtain ⟨k, hk, rfl, hkeep, hJ⟩ := hrel
    have hBr : wr.cell? ⟨B, 0, none⟩ = some (.slice (some ad) bs.length cap) := (hkeep.cell (.inl rfl)).trans hB
    by_cases hlt : k < bs.length
    · have hi : bs.length - 1 - k < bs.length := by omega
      have ei : (bs.length : Int) - 1 - k = ((bs.length - 1 - k : Nat) : Int) := by omega
      have hcr : wr.cell? (ad.add (bs.length - 1 - k)) = some (.int .u8 bs[bs.length - 1 - k]) := by
        refine (hkeep.cell (.inr ?_)).trans (hc _ hi)
        unfold Addr.add; split <;> rfl
      rw [ei]
      have hx := backs_at bs k hlt
      rw [getD_of hi] at hx
      obtain ⟨fn, tmps, assign, body, hy, hR⟩ := hY _ (((bs.length - 1 - k : Nat) : Int), bs[bs.length - 1 - k]) wr hJ (by rw [List.length_take, backs_len]; omega)
      generalize bs.length - 1 - k = i at *
      gi_wp2
      refine hR.mono ?_
      rintro e W3 (⟨rfl, hJ3, hk3⟩ | ⟨rfl, hJx3⟩)
      · gi_wp2
        go_roundw
        case rel => exact ⟨k + 1, by omega, by congr 1; omega, fun b hb => (hk3 b hb).trans (hkeep b hb), by rw [hx]; exact hJ3⟩
        case measure => simp
      · gi_wp2
        refine bodyPost_ret (results_none rfl _ _ _) rfl ?_
        exact ⟨⟨_, rfl⟩, .inr ⟨_, trivial, hJx3⟩⟩
    · have hk' : k = bs.length := by omega
      subst hk'
      have e1 : (bs.length : Int) - 1 - (bs.length : Nat) = -1 := by omega
      rw [e1]
      gi_wp2
      go_end0
      exact ⟨⟨_, rfl⟩, .inl ⟨_, rfl, by rw [List.take_of_length_le (by rw [backs_len]; exact Nat.le_refl _)] at hJ; exact hJ⟩⟩
set_option maxHeartbeats 1000000 in
theorem back_in (F : Fence) (n : Nat) (h91 : F.fn 203) (hro : F.round = none) (ad : Addr) (m cap : Nat) (w : World) :
    CallsIn F n Tryd.prog 203 #[.slice (some ad) m cap] w fun e w' => e = .returned (.func (.func 222) #[] #[.pointer (some ⟨w.heap.size, 0, none⟩)]) ∧ w' = w.alloc (.cells #[.slice (some ad) m cap] 110) := by
  refine callsIn_of_wp Tryd.func203 rfl h91 ?_ hro
  simp only [Tryd.ntmps203, List.size_toArray, List.length_cons, List.length_nil, Nat.reduceAdd, Nat.reduceSub, Array.replicate_succ, Array.replicate_zero, List.push_toArray, List.append_toArray, List.nil_append, List.cons_append]
  gi_wp2
  go_ret
  exact ⟨rfl, rfl⟩
def step (p : Int × Bool) (c : Int) : Int × Bool :=
  (RowKit.wrap64 (p.1 + bif p.2 then (c - 48) % 256 * 2 - (c - 48) % 256 / 5 * 9 else (c - 48) % 256), !p.2)
def sumOf (l : List (Int × Int)) (tw : Bool) : Int × Bool := l.foldl (fun p x => step p x.2) (0, tw)
theorem sumOf_snoc (pre : List (Int × Int)) (x : Int × Int) (tw : Bool) : sumOf (pre ++ [x]) tw = step (sumOf pre tw) x.2 := by simp [sumOf]
theorem run_s2b (P : Program) {src dst e : TypeId} (hsrc : ∃ d, P.underlying src = some d) (hdst : P.underlying dst = some (.slice e)) (he8 : P.underlying e = some (.int .u8)) (b : List UInt8) (w : World) :
    ∃ (cap : Nat) (us : Array Value), b.length ≤ cap ∧ (∀ (i : Nat) (h : i < b.length), us[i]? = some (.int .u8 (b[i].toNat : Int))) ∧
      (convert src dst (strV b)).run P w = .ok (.slice (some ⟨w.heap.size, 0, none⟩) b.length cap) (w.drew.alloc (.cells us e (us.size, us.size + 1))) := by
  obtain ⟨d, hd1⟩ := hsrc
  refine ⟨grownCap w b.length 0 e, (⟨b.toArray⟩ : ByteArray).data.map (fun b => Value.int .u8 b.toNat) ++ Array.replicate (grownCap w b.length 0 e - b.length) (.int .u8 0), grownCap_ge w b.length 0 e, fun i h => ?_, ?_⟩
  · rw [Array.getElem?_append_left (by simpa using h)]
    simp [h]
  · have hsz : (⟨b.toArray⟩ : ByteArray).size = b.length := by simp [ByteArray.size]
    have hge : b.length ≤ grownCap w b.length 0 e := grownCap_ge w b.length 0 e
    generalize hus : (⟨b.toArray⟩ : ByteArray).data.map (fun b => Value.int .u8 b.toNat) ++ Array.replicate (grownCap w b.length 0 e - b.length) (.int .u8 0) = us
    have hsh := shape_alloc w.drew us e
    have hfz := freeze_alloc w.drew us e
    simp only [strV, Sem.run_bind, convert, run_underlying hd1, run_underlying hdst, Result.andThen_ok, run_underlying he8]
    simp only [Conv.stringToBytes, Sem.run_bind, run_choose_drew, Question.forced, Bool.false_eq_true, if_false, Result.andThen_ok, newRow, run_newObj_alloc, Sem.run_pure, markStringish, run_shape, hsz]
    have e0 : (Question.appendCap b.length 0 e).cut (w.tape w.drawn (Question.appendCap b.length 0 e)) = grownCap w b.length 0 e := rfl
    rw [e0, hus]
    simp only [hsh, run_freeze, hfz, Result.andThen_ok]
    rfl
structure At0 (w : World) (tw : Bool) (b : List UInt8) (cap : Nat) (W : World) : Prop where
  size : W.heap.size = w.heap.size + 4
  below : Below w.heap.size w W
  tw : W.cell? ⟨w.heap.size, 0, none⟩ = some (.bool tw) ∧ W.frozen? ⟨w.heap.size, 0, none⟩ = false
  n : W.cell? ⟨w.heap.size + 1, 0, none⟩ = some (.int .i64 0) ∧ W.frozen? ⟨w.heap.size + 1, 0, none⟩ = false
  bytes : ∀ (i : Nat) (h : i < (toBytes b).length), W.cell? ((⟨w.heap.size + 2, 0, none⟩ : Addr).add i) = some (.int .u8 (toBytes b)[i])
  box : W.cell? ⟨w.heap.size + 3, 0, none⟩ = some (.slice (some ⟨w.heap.size + 2, 0, none⟩) (toBytes b).length cap)
theorem at0 (w : World) (tw : Bool) (b : List UInt8) (cap : Nat) (us : Array Value) (e1 e2 e3 e4 : TypeId) (fr : Nat × Nat) (hus : ∀ (i : Nat) (h : i < b.length), us[i]? = some (.int .u8 (b[i].toNat : Int))) :
    At0 w tw b cap ((((w.alloc (.cells #[.bool tw] e1)).alloc (.cells #[.int .i64 0] e2)).alloc (.cells us e3 fr)).drew.alloc (.cells #[.slice (some ⟨w.heap.size + 1 + 1, 0, none⟩) b.length cap] e4)) := by
  generalize hW : ((((w.alloc (.cells #[.bool tw] e1)).alloc (.cells #[.int .i64 0] e2)).alloc (.cells us e3 fr)).drew.alloc (.cells #[.slice (some ⟨w.heap.size + 1 + 1, 0, none⟩) b.length cap] e4)) = W
  have hh : W.heap = (((w.heap.push (.cells #[.bool tw] e1)).push (.cells #[.int .i64 0] e2)).push (.cells us e3 fr)).push (.cells #[.slice (some ⟨w.heap.size + 1 + 1, 0, none⟩) b.length cap] e4) := by rw [← hW]; rfl
  have g0 : W.heap[w.heap.size]? = some (.cells #[.bool tw] e1) := by rw [hh]; simp only [Array.getElem?_push, Array.size_push]; rw [if_neg (by omega), if_neg (by omega), if_neg (by omega), if_pos trivial]
  have g1 : W.heap[w.heap.size + 1]? = some (.cells #[.int .i64 0] e2) := by rw [hh]; simp only [Array.getElem?_push, Array.size_push]; rw [if_neg (by omega), if_neg (by omega), if_pos trivial]
  have g2 : W.heap[w.heap.size + 2]? = some (.cells us e3 fr) := by rw [hh]; simp only [Array.getElem?_push, Array.size_push]; rw [if_neg (by omega), if_pos trivial]
  have g3 : W.heap[w.heap.size + 3]? = some (.cells #[.slice (some ⟨w.heap.size + 1 + 1, 0, none⟩) b.length cap] e4) := by rw [hh]; simp only [Array.getElem?_push, Array.size_push]; rw [if_pos trivial]
  have hl : (toBytes b).length = b.length := by simp [toBytes]
  refine ⟨by rw [hh]; simp, ?_, ⟨by rw [cell_of g0]; rfl, frozen_of g0 (thawed0 _) (by simp)⟩, ⟨by rw [cell_of g1]; rfl, frozen_of g1 (thawed0 _) (by simp)⟩, fun i h => ?_, by rw [cell_of g3, hl]; rfl⟩
  · rw [← hW]
    refine (((((Below.refl _ w).alloc (Nat.le_refl _) _).alloc (by simp) _).alloc (by simp; omega) _).drew).alloc ?_ _
    show _ ≤ (((w.alloc _).alloc _).alloc _).heap.size
    simp; omega
  · rw [addr_add, cell_of g2, Nat.zero_add, hus i (by omega)]
    simp [toBytes]
theorem round_post {w WW W : World} {tw : Bool} {b : List UInt8} {cap : Nat} (A : At0 w tw b cap WW) {pre : List (Int × Int)} {x : Int × Int} {p : Int × Bool} {v : Int} {c : Bool} {ac : Act}
    (hsn : sumOf (pre ++ [x]) tw = (v, c)) (ht : W.cell? ⟨w.heap.size, 0, none⟩ = some (.bool p.2)) (htf : W.frozen? ⟨w.heap.size, 0, none⟩ = false)
    (hc : W.cell? ⟨w.heap.size + 1, 0, none⟩ = some (.int .i64 p.1)) (hf : W.frozen? ⟨w.heap.size + 1, 0, none⟩ = false) (hb : Below w.heap.size w W) :
    ownPostK (Keep2 (w.heap.size + 3) (w.heap.size + 2)) (fun pre W => (W.cell? ⟨w.heap.size, 0, none⟩ = some (.bool (sumOf pre tw).2) ∧ W.frozen? ⟨w.heap.size, 0, none⟩ = false) ∧ (W.cell? ⟨w.heap.size + 1, 0, none⟩ = some (.int .i64 (sumOf pre tw).1) ∧ W.frozen? ⟨w.heap.size + 1, 0, none⟩ = false) ∧ Below w.heap.size w W)
      (fun _ _ _ => False) (pre ++ [x]) W .normal ac ((W.setCell ⟨w.heap.size + 1, 0, none⟩ (.int .i64 v)).setCell ⟨w.heap.size, 0, none⟩ (.bool c)) := by
  refine ⟨(KeepsOthers.setCell _ _ _).trans (KeepsOthers.setCell _ _ _), fun k hk => ?_, ⟨?_, ?_⟩, ⟨?_, ?_⟩, (hb.setCell (by simp) _).setCell (by simp) _⟩
  · rw [Below.heap_setCell _ _ _ _ (by simp; omega), Below.heap_setCell _ _ _ _ (by simp; omega)]
  · rw [hsn]
    refine World.cell?_setCell_same' _ _ _ ?_
    rw [World.cell?_of_block (Below.heap_setCell _ _ _ _ (by simp)), ht]; rfl
  · rw [World.frozen?_setCell, World.frozen?_setCell]; exact htf
  · rw [hsn, World.cell?_of_block (Below.heap_setCell _ _ _ _ (by simp))]
    refine World.cell?_setCell_same' _ _ _ ?_
    rw [hc]; rfl
  · rw [World.frozen?_setCell, World.frozen?_setCell]; exact hf
set_option maxRecDepth 100000 in
set_option maxHeartbeats 2000000 in
theorem sum_in (n : Nat) (hn : 3 ≤ n) (b : List UInt8) (hlen : b.length ≤ 9223372036854775807) (tw : Bool) (w : World) :
    CallsIn Fence.wide n Tryd.prog 170 #[strV b, .bool tw] w fun e W' => e = .returned (.int .i64 (sumOf (backs (toBytes b)) tw).1) ∧ Below w.heap.size w W' := by
  have h1 : 1 ≤ n := by omega
  refine callsIn_of_wp_marks Tryd.func170 rfl trivial ?_ rfl
  simp only [Tryd.ntmps170, List.size_toArray, List.length_cons, List.length_nil, Nat.reduceAdd, Nat.reduceSub, Array.replicate_succ, Array.replicate_zero, List.push_toArray, List.append_toArray, List.nil_append, List.cons_append]
  gi_wp2
  obtain ⟨cap, us, hcap, hus, hrun⟩ := run_s2b Tryd.prog (src := 9) (dst := 110) (e := 5) ⟨_, Tryd.underlying9⟩ Tryd.underlying110 Tryd.underlying5 b ((w.alloc (.cells #[.bool tw] 4)).alloc (.cells #[.int .i64 0] 3))
  rw [hrun]
  simp only [Result.andThen_ok]
  gi_wp2
  refine ⟨trivial, (back_in Fence.wide (n - 1) trivial rfl _ _ _ _).mono ?_⟩
  rintro e w' ⟨rfl, rfl⟩
  dsimp only
  gi_wp2
  have A := at0 w tw b cap us 4 3 5 110 (us.size, us.size + 1) hus
  have hs : (((w.alloc (Obj.cells #[Value.bool tw] 4)).alloc (Obj.cells #[Value.int IntKind.i64 0] 3)).alloc (Obj.cells us 5 (us.size, us.size + 1))).drew.heap.size = w.heap.size + 3 := by
    show (((w.alloc _).alloc _).alloc _).heap.size = _
    simp
  rw [hs]
  generalize ((((w.alloc (Obj.cells #[Value.bool tw] 4)).alloc (Obj.cells #[Value.int IntKind.i64 0] 3)).alloc (Obj.cells us 5 (us.size, us.size + 1))).drew.alloc (Obj.cells #[Value.slice (some { block := w.heap.size + 1 + 1, off := 0 }) b.length cap] 110)) = WW at A ⊢
  have hlen' : (toBytes b).length = b.length := by simp [toBytes]
  refine wpIn_rangeFunc_ownF rfl h1 (gf := 222) (lb := #[.pointer (some ⟨w.heap.size + 3, 0, none⟩)]) rfl trivial (enters_of Tryd.func222 (by kernel_rfl) rfl)
    (encs := fun x : Int × Int => #[.int .i64 x.1, .int .u8 x.2]) (Kp := Keep2 (w.heap.size + 3) (w.heap.size + 2)) (S := fun ys => ys = backs (toBytes b)) (Sp := fun _ => True) (N := (toBytes b).length) (w0 := WW)
    (fun l J Jx W hW _ _ hY h0 => back1_in Fence.wide (n - 1) trivial rfl (by omega) l (w.heap.size + 3) (toBytes b) ⟨w.heap.size + 2, 0, none⟩ cap J Jx hY W ((hW.cell (p := ⟨w.heap.size + 3, 0, none⟩) (by rw [A.size]; show w.heap.size + 3 < _; omega)).trans A.box)
      (fun i h => (hW.cell (p := (⟨w.heap.size + 2, 0, none⟩ : Addr).add i) (by rw [A.size, addr_add]; show w.heap.size + 2 < _; omega)).trans (A.bytes i h)) (by rw [hlen']; exact hlen) h0)
    (fun h k b hb => (k b hb).trans (h b hb))
    (fun W l o o' hl _ _ _ b hb => World.putObj_heap_other (by rw [A.size] at hl; omega))
    (Below.refl _ _) (fun _ => rfl)
    (fun pre W => (W.cell? ⟨w.heap.size, 0, none⟩ = some (.bool (sumOf pre tw).2) ∧ W.frozen? ⟨w.heap.size, 0, none⟩ = false) ∧ (W.cell? ⟨w.heap.size + 1, 0, none⟩ = some (.int .i64 (sumOf pre tw).1) ∧ W.frozen? ⟨w.heap.size + 1, 0, none⟩ = false) ∧ Below w.heap.size w W)
    (fun _ _ _ => False) ?own (fun _ _ _ _ _ hs _ _ => hs) ⟨A.tw, A.n, A.below⟩
    (fun x => { tmps := #[strV b, .bool tw, undef, .pointer (some ⟨w.heap.size, 0, none⟩), .int .i64 0, .pointer (some ⟨w.heap.size + 1, 0, none⟩), undef, .int .u8 x.2, undef, strV b, .slice (some ⟨w.heap.size + 1 + 1, 0, none⟩) b.length cap, .func (.func 222) #[] #[.pointer (some ⟨w.heap.size + 3, 0, none⟩)], .int .i64 x.1, .int .u8 x.2, undef, undef, undef, undef, undef, undef, undef, undef, undef, undef, undef, undef, undef, undef, undef, undef], defers := [] }) ?assign ?body ?done ?stop
  case own =>
    refine fun s A' B' row hs hg hr => ⟨⟨cell_kept hs.1.1 hg fun r e => (hr r e).2, (frozen_kept hs.1.1 hg fun r e => (hr r e).2).trans hs.1.2⟩, ⟨cell_kept hs.2.1.1 hg fun r e => (hr r e).2, (frozen_kept hs.2.1.1 hg fun r e => (hr r e).2).trans hs.2.1.2⟩, ?_⟩
    exact hs.2.2.grown hg hs.2.2.size (fun k e => by have := (hr k e).1; rw [A.size] at this; omega)
  case assign =>
    intro l x W K hK
    gi_wp2_with (rw [Oper.semAt_eq _ _ _ (fun c h => by cases h)]; go_simp; try go_bits)
    exact hK
  case body =>
    rintro l pre x W ⟨⟨ht, htf⟩, ⟨hc, hf⟩, hb⟩ _
    have hsn := sumOf_snoc pre x tw
    generalize hp : sumOf pre tw = p at ht hc hsn
    obtain ⟨p1, p2⟩ := p
    simp only [] at ht hc
    cases p2
    · gi_wp2_with (rw [Oper.semAt_eq _ _ _ (fun c h => by cases h)]; go_simp; try go_bits)
      exact round_post (p := (p1, false)) A hsn ht htf hc hf hb
    · gi_wp2_with (rw [Oper.semAt_eq _ _ _ (fun c h => by cases h)]; go_simp; try go_bits)
      exact round_post (p := (p1, true)) A hsn ht htf hc hf hb
  case done =>
    rintro D xs W hD rfl ⟨⟨ht, htf⟩, ⟨hc, hf⟩, hb⟩ hK
    gi_wp2
    refine ⟨by simp, .inl ⟨_, _, rfl, run_takeDeferred hK, ?_⟩⟩
    exact ⟨_, results_tmp rfl _ _ _, rfl, hb.grown (grownBy_putObj' W D _) hb.size (fun k e => by cases e; rw [A.size] at hD; omega)⟩
  case stop =>
    rintro D c pre W _ _ h _
    exact h.elim
theorem fn170 (b : List UInt8) (hlen : b.length ≤ 9223372036854775807) (tw : Bool) : CallOK Tryd.prog 170 [.str b, .bool tw] (.int .i64 (sumOf (backs (toBytes b)) tw).1) := by
  refine .inl ⟨rfl, ⟨_, Tryd.func170, by kernel_rfl, by kernel_rfl⟩, fun w pr us hpr _ ha => ?_⟩
  obtain ⟨u1, us1, rfl, h1, h2⟩ : ∃ u1 us1, us = u1 :: us1 ∧ PV w pr (.str b) u1 ∧ All2 (PV w pr) [.bool tw] us1 := by
    cases us with
    | nil => exact ha.elim
    | cons u us => exact ⟨u, us, rfl, ha.1, ha.2⟩
  obtain ⟨u2, us2, rfl, h3, h4⟩ : ∃ u1 us', us1 = u1 :: us' ∧ PV w pr (.bool tw) u1 ∧ All2 (PV w pr) [] us' := by
    cases us1 with
    | nil => exact h2.elim
    | cons u us => exact ⟨u, us, rfl, h2.1, h2.2⟩
  have e1 : u1 = strV b := by rcases h1 with h | ⟨_, _, h, _⟩ <;> first | exact h | cases h
  have e2 : u2 = .bool tw := by rcases h3 with h | ⟨_, _, h, _⟩ <;> first | exact h | cases h
  have e3 : us2 = [] := by cases us2 with | nil => rfl | cons _ _ => exact h4.elim
  subst e1 e2 e3
  refine (callsIn_wide.1 (sum_in 10 (by omega) b hlen tw w)).mono ?_
  rintro e W' ⟨rfl, hb⟩
  exact ⟨_, pr, rfl, hb, fun _ _ _ => Iff.rfl, fun k o h => Nat.lt_of_lt_of_le (hpr k o h) hb.size, none, .inl rfl, rfl⟩
end Go.Proofs.YtjgnpmdbkgeakaaDoor.Sum
end
section
set_option linter.unusedVariables false
set_option linter.unusedSimpArgs false
namespace Go.Proofs.YtjgnpmdbkgeakaaDoor.Grow192
open Go Go.RowKit Go.Shelf Go.Lib Go.Proofs Go.Proofs.YtjgnpmdbkgeakaaDoor Th
def Post (n : Nat) (z : Value) (w : World) (e : Ending) (w' : World) : Prop := (n = 0 ∧ e = .returned (.slice none 0 0) ∧ w' = w) ∨
      (0 < n ∧ ∃ G us, e = .returned (.slice (some ⟨w.heap.size, 0, none⟩) 0 G) ∧ w' = w.drew.alloc (.cells us 5) ∧ us = Builtin.zeroCells z.cells n ++ Builtin.zeroCells z.cells (G - n) ∧ n ≤ G)
set_option maxHeartbeats 4000000 in
set_option maxRecDepth 100000 in
theorem walk (i0 : TypeInfo) (z : Value) (hi0 : Tryd.prog.info? 5 = some i0) (hz0 : i0.zero = some z) (hs0 : 0 < i0.size) (n : Nat) (w : World) (hbig : n * i0.bytes ≤ 140737488355328) (h63 : n ≤ 4611686018427387904) :
    Calls Tryd.prog 192 #[.slice none 0 0, .int .i64 n] w (Post n z w) := by
  by_cases hn : n = 0
  · subst hn
    go_enter Tryd.func192, Tryd.ntmps192
    go_wp2
    go_ret
    exact .inl ⟨rfl, rfl, rfl⟩
  have hts : Tryd.prog.underlying 110 = some (.slice 5) := by kernel_rfl
  have hti : Tryd.prog.underlying 3 = some (.int .i64) := by kernel_rfl
  have h1 : ¬ ((n : Int) < 0) := by omega
  have h4 : (n : Int) > 0 := by omega
  have hold : (Builtin.firstCells i0.size 0 (.slice none 0 0)).run Tryd.prog w.drew = .ok ([] : List Value).toArray w.drew := run_firstCells_none w.drew i0.size 0 0 0
  have hrz : ∀ ty, (Builtin.append_ #[110, 3] ty #[.slice none 0 0, .int .i64 (n : Int)]).run Tryd.prog w =
      .ok (.slice (some ⟨w.heap.size, 0, none⟩) n (grownCap w n 0 5)) (w.drew.alloc (.cells (([] : List Value).toArray ++ Builtin.zeroCells z.cells n ++ Builtin.zeroCells z.cells (grownCap w n 0 5 - n)) 5)) := fun ty => by
    have h := Lib.run_append_grow_zeros w 110 3 ty 5 i0 z .i64 .i64 hts hti hi0 hz0 none 0 0 [] hold n (by omega) hs0 (by omega) (by omega) (by omega) (by rw [Nat.zero_add]; exact growslice_fits (by omega) hbig)
    rw [Nat.zero_add] at h
    exact h
  have hGn : n ≤ grownCap w n 0 5 := grownCap_ge w _ _ _
  obtain ⟨G, hG⟩ : ∃ G, G = grownCap w n 0 5 := ⟨_, rfl⟩
  rw [← hG] at hrz hGn
  obtain ⟨ROW, hROW⟩ : ∃ ROW : Array Value, ROW = ([] : List Value).toArray ++ Builtin.zeroCells z.cells n ++ Builtin.zeroCells z.cells (G - n) := ⟨_, rfl⟩
  rw [← hROW] at hrz
  have hpost : Post n z w (.returned (.slice (some ⟨w.heap.size, 0, none⟩) 0 G)) (w.drew.alloc (.cells ROW 5)) := .inr ⟨by omega, G, _, rfl, rfl, by rw [hROW]; simp, hGn⟩
  clear hROW
  have hG63 : G ≤ 9223372036854775807 := by
    have := grownCap_le_maxLen w n 0 5 (by unfold maxLen; omega)
    rw [← hG] at this
    unfold maxLen at this
    omega
  have hw : IntKind.i64.wrap (n : Int) = (n : Int) := by rw [IntKind.wrap_i64]; omega
  clear hold hG
  go_enter Tryd.func192, Tryd.ntmps192
  go_wp2_with (at_builtin; refine Lib.wpList_append_run _ rfl _ _ _ _ rfl _ _ rfl rfl _ _ (hrz _) ?_)
  all_goals (go_ret; exact hpost)
theorem calls {ei : TInfo} {d : TypeDesc} {i0 : TypeInfo} {z : Value} (E : TypeIs Tryd.prog 5 ei i0 d z) (hs0 : 0 < ei.size) (n : Int) (h0 : 0 ≤ n) (hbig : n * (ei.bytes : Int) ≤ 140737488355328) (h63 : n ≤ 4611686018427387904) :
    CallOK Tryd.prog 192 [.nilsl, .int .i64 n] (.own ei.ty []) := by
  refine .inl ⟨rfl, ⟨_, Tryd.func192, rfl, rfl⟩, fun w pr us hlt hgl ha => ?_⟩
  obtain ⟨u1, u2, rfl⟩ : ∃ u1 u2, us = [u1, u2] := by
    have := ha.len
    match us, this with
    | [u1, u2], _ => exact ⟨u1, u2, rfl⟩
  obtain ⟨p1, p2, _⟩ := ha
  have e1 : u1 = .slice none 0 0 := by
    rcases p1 with h | ⟨cs, us, h, _⟩
    · exact h
    · cases h
  have e2 : u2 = .int .i64 n := by
    rcases p2 with h | ⟨cs, us, h, _⟩
    · exact h
    · cases h
  subst e1 e2
  obtain ⟨m, rfl⟩ : ∃ m : Nat, n = m := ⟨n.toNat, by omega⟩
  have hzsz : z.cells.size = ei.size := by have := (z0s_LR (w := w) (g := ⟨fun _ _ => False, fun _ => none, fun _ => none⟩) E.zrel).len; have := E.zlen; simp at *; omega
  refine (walk i0 z E.info E.zero (by rw [E.size]; exact hs0) m w (by rw [E.bytes]; have : ((m * ei.bytes : Nat) : Int) ≤ 140737488355328 := by rw [Int.natCast_mul]; exact hbig
                                                                      omega) (by omega)).mono ?_
  rintro e w' (⟨rfl, rfl, rfl⟩ | ⟨hm, G, us, rfl, rfl, rfl, hG⟩)
  · exact ⟨_, pr, rfl, Below.refl _ _, fun _ _ _ => Iff.rfl, hlt, none, ⟨.slice none 0 0, none, ei.ty.size⟩, ⟨rfl, .inl ⟨rfl, rfl, rfl⟩⟩, rfl, rfl, fun k hk => by cases hk⟩
  · refine ⟨_, pr, rfl, ((Below.refl _ w).drew).alloc (Nat.le_refl _) _, fun _ _ _ => Iff.rfl, fun k o p => ?_, some w.heap.size, ⟨.slice (some ⟨w.heap.size, 0, none⟩) 0 G, some w.heap.size, ei.ty.size⟩,
      ⟨rfl, .inr ⟨w.heap.size, G, rfl, rfl, ?_⟩⟩, rfl, rfl, fun k hk => ?_⟩
    · have h1 : (w.drew.alloc (.cells (Builtin.zeroCells z.cells m ++ Builtin.zeroCells z.cells (G - m)) 5)).heap.size = w.heap.size + 1 := by show (w.heap.push _).size = _; simp
      rw [h1]; have := hlt k o p; omega
    · refine ⟨bd0_mine.2 (Nat.le_refl _), Nat.zero_le _, ⟨_, 5, (0, 0), alloc_new w.drew _, thawed0 _, ?_, fun j x hj => by simp at hj⟩, fun o p => absurd (hlt _ _ p) (by omega), fun h => (by cases h), fun _ o p => absurd (hlt _ _ p) (by omega)⟩
      rw [E.tysz]
      simp only [Array.size_append, size_zeroCells, hzsz]
      rw [← Nat.add_mul]
      exact Nat.mul_le_mul_right _ (by omega)
    · cases hk; show _ < (w.heap.push _).size; simp
end Go.Proofs.YtjgnpmdbkgeakaaDoor.Grow192
end
section
set_option linter.unusedVariables false
set_option linter.unusedSimpArgs false
namespace Go.Proofs.YtjgnpmdbkgeakaaDoor.G
open Go Go.Proofs.YtjgnpmdbkgeakaaDoor.Th
def til : List (Nat × TInfo) := [
  (3, ⟨.int .i64, 1, 8, (.int .i64), [.int .i64 0], [], [], true, false, [], []⟩),
  (4, ⟨.bool, 1, 1, .bool, [.bool false], [], [], true, false, [], []⟩),
  (5, ⟨.int .u8, 1, 1, (.int .u8), [.int .u8 0], [], [], true, false, [], []⟩),
  (9, ⟨.str, 1, 16, .str, [.str []], [], [], true, false, [], [(229, 8)]⟩),
  (22, ⟨.int .u64, 1, 8, (.int .u64), [.int .u64 0], [], [], true, false, [], []⟩),
  (23, ⟨.int .u32, 1, 4, (.int .u32), [.int .u32 0], [], [], true, false, [], []⟩),
  (25, ⟨.struct, 6, 72, (.st (.cons (.int .i64) (.cons .str (.cons (.int .u64) (.cons (.int .u32) (.cons .str (.cons .str .nil))))))), [.int .i64 0, .str [], .int .u64 0, .int .u32 0, .str [], .str []], [(0, 3), (1, 9), (2, 22), (3, 23), (4, 9), (5, 9)], [1, 1, 1, 1, 1, 1], true, true, [], []⟩),
  (27, ⟨.struct, 2, 24, (.st (.cons (.int .u32) (.cons .str .nil))), [.int .u32 0, .str []], [(0, 23), (1, 9)], [1, 1], true, true, [], []⟩),
  (29, ⟨.other, 1, 8, .bool, [.nilfn], [], [], false, false, [], []⟩),
  (37, ⟨.slice 160, 1, 24, (.slice (.st (.cons (.int .i64) (.cons .str .nil)))), [.nilsl], [], [], true, false, [], []⟩),
  (39, ⟨.struct, 2, 40, (.st (.cons .str (.cons (.slice (.st (.cons (.int .i64) (.cons .str .nil)))) .nil))), [.str [], .nilsl], [(0, 9), (1, 37)], [1, 1], true, false, [], []⟩),
  (41, ⟨.int .i64, 1, 8, (.int .i64), [.int .i64 0], [], [], true, false, [], []⟩),
  (54, ⟨.struct, 8, 88, (.st (.cons (.st (.cons (.int .u32) (.cons .str .nil))) (.cons (.int .i64) (.cons .str (.cons (.int .u64) (.cons .str (.cons (.int .i64) (.cons (.int .i64) .nil)))))))), [.int .u32 0, .str [], .int .i64 0, .str [], .int .u64 0, .str [], .int .i64 0, .int .i64 0], [(0, 27), (2, 3), (3, 9), (4, 22), (5, 9), (6, 3), (7, 3)], [2, 1, 1, 1, 1, 1, 1], true, true, [], []⟩),
  (56, ⟨.struct, 7, 80, (.st (.cons (.int .i64) (.cons (.st (.cons (.int .i64) (.cons .str (.cons (.int .u64) (.cons (.int .u32) (.cons .str (.cons .str .nil))))))) .nil))), [.int .i64 0, .int .i64 0, .str [], .int .u64 0, .int .u32 0, .str [], .str []], [(0, 3), (1, 25)], [1, 6], true, true, [], []⟩),
  (58, ⟨.slice 25, 1, 24, (.slice (.st (.cons (.int .i64) (.cons .str (.cons (.int .u64) (.cons (.int .u32) (.cons .str (.cons .str .nil)))))))), [.nilsl], [], [], true, false, [], []⟩),
  (60, ⟨.struct, 12, 152, (.st (.cons (.st (.cons (.st (.cons (.int .u32) (.cons .str .nil))) (.cons (.int .i64) (.cons .str (.cons (.int .u64) (.cons .str (.cons (.int .i64) (.cons (.int .i64) .nil)))))))) (.cons (.slice (.st (.cons (.int .i64) (.cons .str (.cons (.int .u64) (.cons (.int .u32) (.cons .str (.cons .str .nil)))))))) (.cons (.slice (.st (.cons (.int .i64) (.cons .str (.cons (.int .u64) (.cons (.int .u32) (.cons .str (.cons .str .nil)))))))) (.cons (.int .i64) (.cons .bool .nil)))))), [.int .u32 0, .str [], .int .i64 0, .str [], .int .u64 0, .str [], .int .i64 0, .int .i64 0, .nilsl, .nilsl, .int .i64 0, .bool false], [(0, 54), (8, 58), (9, 58), (10, 3), (11, 4)], [8, 1, 1, 1, 1], true, false, [], []⟩),
  (69, ⟨.slice 56, 1, 24, (.slice (.st (.cons (.int .i64) (.cons (.st (.cons (.int .i64) (.cons .str (.cons (.int .u64) (.cons (.int .u32) (.cons .str (.cons .str .nil))))))) .nil)))), [.nilsl], [], [], true, false, [], []⟩),
  (110, ⟨.slice 5, 1, 24, (.slice (.int .u8)), [.nilsl], [], [], true, false, [], []⟩),
  (115, ⟨.struct, 2, 32, (.st (.cons (.slice (.int .u8)) (.cons .bool .nil))), [.nilsl, .bool false], [(0, 110), (1, 4)], [1, 1], true, false, [], []⟩),
  (121, ⟨.struct, 5, 88, (.st (.cons (.st (.cons (.slice (.int .u8)) (.cons .bool .nil))) (.cons (.slice (.int .u8)) (.cons (.slice (.int .u8)) (.cons (.int .i64) .nil))))), [.nilsl, .bool false, .nilsl, .nilsl, .int .i64 0], [(0, 115), (2, 110), (3, 110), (4, 3)], [2, 1, 1, 1], true, false, [], []⟩),
  (126, ⟨.slice 110, 1, 24, (.slice (.slice (.int .u8))), [.nilsl], [], [], true, false, [], []⟩),
  (136, ⟨.struct, 2, 32, (.st (.cons (.int .i64) (.cons (.slice (.slice (.int .u8))) .nil))), [.int .i64 0, .nilsl], [(0, 3), (1, 126)], [1, 1], true, false, [], []⟩),
  (144, ⟨.struct, 5, 56, (.st (.cons (.slice (.st (.cons (.int .i64) (.cons .str (.cons (.int .u64) (.cons (.int .u32) (.cons .str (.cons .str .nil)))))))) (.cons (.int .i64) (.cons (.int .i64) (.cons (.int .i64) (.cons (.int .i64) .nil)))))), [.nilsl, .int .i64 0, .int .i64 0, .int .i64 0, .int .i64 0], [(0, 58), (1, 3), (2, 3), (3, 3), (4, 3)], [1, 1, 1, 1, 1], true, false, [], []⟩),
  (160, ⟨.struct, 2, 24, (.st (.cons (.int .i64) (.cons .str .nil))), [.int .i64 0, .str []], [(0, 3), (1, 9)], [1, 1], true, true, [], []⟩),
  (161, ⟨.slice 9, 1, 24, (.slice .str), [.nilsl], [], [], true, false, [], []⟩),
  (169, ⟨.slice 3, 1, 24, (.slice (.int .i64)), [.nilsl], [], [], true, false, [], []⟩),
  (175, ⟨.struct, 20, 240, (.st (.cons (.st (.cons (.st (.cons (.st (.cons (.int .u32) (.cons .str .nil))) (.cons (.int .i64) (.cons .str (.cons (.int .u64) (.cons .str (.cons (.int .i64) (.cons (.int .i64) .nil)))))))) (.cons (.slice (.st (.cons (.int .i64) (.cons .str (.cons (.int .u64) (.cons (.int .u32) (.cons .str (.cons .str .nil)))))))) (.cons (.slice (.st (.cons (.int .i64) (.cons .str (.cons (.int .u64) (.cons (.int .u32) (.cons .str (.cons .str .nil)))))))) (.cons (.int .i64) (.cons .bool .nil)))))) (.cons (.st (.cons (.int .i64) (.cons (.st (.cons (.int .i64) (.cons .str (.cons (.int .u64) (.cons (.int .u32) (.cons .str (.cons .str .nil))))))) .nil))) (.cons (.int .i64) .nil)))), [.int .u32 0, .str [], .int .i64 0, .str [], .int .u64 0, .str [], .int .i64 0, .int .i64 0, .nilsl, .nilsl, .int .i64 0, .bool false, .int .i64 0, .int .i64 0, .str [], .int .u64 0, .int .u32 0, .str [], .str [], .int .i64 0], [(0, 60), (12, 56), (19, 3)], [12, 7, 1], true, false, [], []⟩),
  (196, ⟨.struct, 2, 16, (.st (.cons (.int .u64) (.cons (.int .u64) .nil))), [.int .u64 0, .int .u64 0], [(0, 22), (1, 22)], [1, 1], true, true, [], []⟩),
  (222, ⟨.struct, 3, 24, (.st (.cons (.int .i64) (.cons (.int .i64) (.cons (.int .i64) .nil)))), [.int .i64 0, .int .i64 0, .int .i64 0], [(0, 3), (1, 3), (2, 3)], [1, 1, 1], true, true, [], []⟩),
  (261, ⟨.struct, 2, 24, (.st (.cons (.st (.cons (.int .u32) (.cons .str .nil))) .nil)), [.int .u32 0, .str []], [(0, 27)], [2], true, true, [], []⟩),
  (266, ⟨.slice 222, 1, 24, (.slice (.st (.cons (.int .i64) (.cons (.int .i64) (.cons (.int .i64) .nil))))), [.nilsl], [], [], true, false, [], []⟩),
  (268, ⟨.struct, 2, 16, (.st (.cons (.int .i64) (.cons (.int .i64) .nil))), [.int .i64 0, .int .i64 0], [(0, 3), (1, 3)], [1, 1], true, true, [("paydesk/field.ahead", 245), ("paydesk/field.sized", 246)], []⟩),
  (270, ⟨.struct, 1, 8, (.st (.cons (.int .i64) .nil)), [.int .i64 0], [(0, 3)], [1], true, true, [("paydesk/field.ahead", 247), ("paydesk/field.sized", 248)], []⟩)
]
noncomputable def TI : TEnv := tiOf til
theorem hT : TIok Tryd.prog TI := TIok.of (by kernel_rfl)
theorem hm : Tryd.prog.follows .mixedOrders = true := rfl
noncomputable def O_0 (_ : Nat) : Orc := fun _ _ _ _ => none
theorem ok_O_0 (k : Nat) : OrcOK (O_0 k) (CallOK Tryd.prog) := orc_none
noncomputable def c175 : Code := Tryd.f175.body.getD .skip
noncomputable def mi175 : Msk := ⟨[(.tmp 0, .val (.int .i64))], []⟩
noncomputable def mo175 : Msk := ⟨[(.res 2, .val (.st (.cons (.int .i64) (.cons (.int .i64) (.cons (.int .i64) .nil))))), (.tmp 3, .val .bool)], []⟩
noncomputable def L175_2 (k : Nat) : LOrc := fun _ _ _ _ => none
noncomputable def b175_2 : Code := (findLoop 2 c175).getD .skip
noncomputable def m175_2 : Msk := ⟨[(.tmp 0, .val (.int .i64)), (.tmp 2, .ptr 2 0), (.tmp 21, .row false (.st (.cons (.int .i64) (.cons (.int .i64) (.cons (.int .i64) .nil))))), (.tmp 22, .val (.int .i64)), (.tmp 23, .val (.int .i64)), (.cell 2 0, .val (.int .i64)), (.cell 2 1, .val (.int .i64)), (.cell 2 2, .val (.int .i64))], [(2, 3)]⟩
noncomputable def x175_2 : List (X × Msk) := [(.exit 0, ⟨[(.tmp 2, .ptr 2 0), (.cell 2 0, .val (.int .i64)), (.cell 2 1, .val (.int .i64)), (.cell 2 2, .val (.int .i64))], [(2, 3)]⟩), (.ret, ⟨[(.tmp 2, .ptr 2 0), (.tmp 3, .val .bool), (.cell 2 0, .val (.int .i64)), (.cell 2 1, .val (.int .i64)), (.cell 2 2, .val (.int .i64))], [(2, 3)]⟩)]
noncomputable def F175_2 (k : Nat) : Nat → m175_2.den → Option (denE x175_2)
  | 0, _ => none
  | j + 1, v => round TI (O_0 k) (L175_2 k) b175_2 m175_2 x175_2 (F175_2 k j) v
theorem lk175_2_ (k : Nat) : LinksOK Tryd.prog 34 (L175_2 k) b175_2 := (And.intro True.intro (And.intro (And.intro True.intro True.intro) (And.intro (And.intro True.intro (And.intro True.intro (And.intro (And.intro True.intro True.intro) True.intro))) True.intro)))
noncomputable def L175 (k : Nat) : LOrc := fun R lk s K => match lk with
  | .loop r => bif Nat.beq r 2 then link m175_2 x175_2 (F175_2 k k) s K else none
  | .label l => none
theorem lk_L175_2 (k : Nat) : LoopOK Tryd.prog 34 (L175 k) b175_2 := loopOK_of hm hT (ok_O_0 k) (fun _ _ _ h => h) rfl (lk175_2_ k) rfl rfl (F := F175_2 k) (fun _ => rfl) (fun _ _ => rfl) (n := k) fun _ _ _ => rfl
noncomputable def F175 (k : Nat) (v : mi175.den) : Option mo175.den := runF TI (O_0 k) (L175 k) c175 mi175 mo175 v
theorem lk175 (k : Nat) : LinksOK Tryd.prog 34 (L175 k) c175 := (And.intro True.intro (And.intro (And.intro True.intro (lk_L175_2 k)) (And.intro True.intro True.intro)))
theorem fn175 (k : Nat) (args : List AV) (x : mi175.den) (r : mo175.den) (h1 : args.length = mi175.items.length) (h2 : mi175.dec (Th.start args) = some x) (h3 : F175 k x = some r) : CallOK Tryd.prog 175 args (ansOf (outL mo175.items r)) :=
  call_of hm hT (ok_O_0 k) (fn := Tryd.f175) (c := c175) Tryd.func175 rfl rfl rfl (lk175 k) rfl (by decide) rfl h1 h2 h3
noncomputable def O175 (k : Nat) : Orc := fun R f args K => bif Nat.beq f 175 then callF mi175 mo175 (F175 k) args K else O_0 k R f args K
theorem ok_O175 (k : Nat) : OrcOK (O175 k) (CallOK Tryd.prog) := orc_add (fn175 k) (ok_O_0 k)
noncomputable def c176 : Code := Tryd.f176.body.getD .skip
noncomputable def mi176 : Msk := ⟨[(.tmp 0, .val (.st (.cons (.int .i64) (.cons (.int .i64) (.cons (.int .i64) .nil)))))], []⟩
noncomputable def mo176 : List Msk := [⟨[(.tmp 2, .val (.ifc 268 (.st (.cons (.int .i64) (.cons (.int .i64) .nil)))))], []⟩, ⟨[(.tmp 2, .val (.ifc 270 (.st (.cons (.int .i64) .nil))))], []⟩]
noncomputable def L176 (k : Nat) : LOrc := fun _ _ _ _ => none
noncomputable def F176 (k : Nat) (v : mi176.den) : Option (denA mo176) := runA TI (O175 k) (L176 k) c176 mi176 mo176 v
theorem lk176 (k : Nat) : LinksOK Tryd.prog 22 (L176 k) c176 := (And.intro True.intro (And.intro (And.intro True.intro (And.intro (And.intro True.intro (And.intro True.intro True.intro)) (And.intro (And.intro True.intro True.intro) (And.intro True.intro (And.intro (And.intro True.intro True.intro) True.intro))))) (And.intro True.intro True.intro)))
theorem fn176 (k : Nat) (args : List AV) (x : mi176.den) (r : (denA mo176)) (h1 : args.length = mi176.items.length) (h2 : mi176.dec (Th.start args) = some x) (h3 : F176 k x = some r) : CallOK Tryd.prog 176 args (valA mo176 r) :=
  call_ofA hm hT (ok_O175 k) (fn := Tryd.f176) (c := c176) Tryd.func176 rfl rfl rfl (lk176 k) rfl (by decide) rfl h1 h2 h3
noncomputable def O176 (k : Nat) : Orc := fun R f args K => bif Nat.beq f 176 then callA mi176 mo176 (F176 k) args K else O175 k R f args K
theorem ok_O176 (k : Nat) : OrcOK (O176 k) (CallOK Tryd.prog) := orc_addA (fn176 k) (ok_O175 k)
noncomputable def c246 : Code := Tryd.f246.body.getD .skip
noncomputable def mi246 : Msk := ⟨[(.tmp 0, .val (.st (.cons (.int .i64) (.cons (.int .i64) .nil)))), (.tmp 1, .val (.int .i64))], []⟩
noncomputable def mo246 : Msk := ⟨[(.tmp 4, .val .bool)], []⟩
noncomputable def L246 (k : Nat) : LOrc := fun _ _ _ _ => none
noncomputable def F246 (k : Nat) (v : mi246.den) : Option mo246.den := runF TI (O176 k) (L246 k) c246 mi246 mo246 v
theorem lk246 (k : Nat) : LinksOK Tryd.prog 13 (L246 k) c246 := (And.intro True.intro (And.intro True.intro True.intro))
theorem fn246 (k : Nat) (args : List AV) (x : mi246.den) (r : mo246.den) (h1 : args.length = mi246.items.length) (h2 : mi246.dec (Th.start args) = some x) (h3 : F246 k x = some r) : CallOK Tryd.prog 246 args (ansOf (outL mo246.items r)) :=
  call_of hm hT (ok_O176 k) (fn := Tryd.f246) (c := c246) Tryd.func246 rfl rfl rfl (lk246 k) rfl (by decide) rfl h1 h2 h3
noncomputable def O246 (k : Nat) : Orc := fun R f args K => bif Nat.beq f 246 then callF mi246 mo246 (F246 k) args K else O176 k R f args K
theorem ok_O246 (k : Nat) : OrcOK (O246 k) (CallOK Tryd.prog) := orc_add (fn246 k) (ok_O176 k)
noncomputable def c248 : Code := Tryd.f248.body.getD .skip
noncomputable def mi248 : Msk := ⟨[(.tmp 0, .val (.st (.cons (.int .i64) .nil))), (.tmp 1, .val (.int .i64))], []⟩
noncomputable def mo248 : Msk := ⟨[(.tmp 4, .val .bool)], []⟩
noncomputable def L248 (k : Nat) : LOrc := fun _ _ _ _ => none
noncomputable def F248 (k : Nat) (v : mi248.den) : Option mo248.den := runF TI (O246 k) (L248 k) c248 mi248 mo248 v
theorem lk248 (k : Nat) : LinksOK Tryd.prog 9 (L248 k) c248 := (And.intro True.intro (And.intro True.intro True.intro))
theorem fn248 (k : Nat) (args : List AV) (x : mi248.den) (r : mo248.den) (h1 : args.length = mi248.items.length) (h2 : mi248.dec (Th.start args) = some x) (h3 : F248 k x = some r) : CallOK Tryd.prog 248 args (ansOf (outL mo248.items r)) :=
  call_of hm hT (ok_O246 k) (fn := Tryd.f248) (c := c248) Tryd.func248 rfl rfl rfl (lk248 k) rfl (by decide) rfl h1 h2 h3
noncomputable def O248 (k : Nat) : Orc := fun R f args K => bif Nat.beq f 248 then callF mi248 mo248 (F248 k) args K else O246 k R f args K
theorem ok_O248 (k : Nat) : OrcOK (O248 k) (CallOK Tryd.prog) := orc_add (fn248 k) (ok_O246 k)
noncomputable def c169 : Code := Tryd.f169.body.getD .skip
noncomputable def mi169 : Msk := ⟨[(.tmp 0, .val .str)], []⟩
noncomputable def mo169 : Msk := ⟨[(.tmp 2, .val .bool)], []⟩
noncomputable def L169_g0 (k : Nat) : LOrc := fun _ _ _ _ => none
noncomputable def b169_g0 : Code := (findScope 0 c169).getD .skip
noncomputable def l169_g0 : List (X × Msk) := [(.goto 0, ⟨[(.tmp 0, .val .str), (.tmp 3, .val (.int .i64))], []⟩)]
noncomputable def x169_g0 : List (X × Msk) := [(.ret, ⟨[(.tmp 2, .val .bool)], []⟩)]
noncomputable def F169_g0 (k : Nat) : Nat → denE l169_g0 → Option (denE x169_g0)
  | 0, _ => none
  | j + 1, v => pass TI (O248 k) (L169_g0 k) b169_g0 l169_g0 x169_g0 (F169_g0 k j) v
theorem lk169_g0_ (k : Nat) : LinksOK Tryd.prog 22 (L169_g0 k) b169_g0 := (And.intro True.intro (And.intro True.intro (And.intro (And.intro True.intro (And.intro (And.intro True.intro True.intro) True.intro)) (And.intro (And.intro True.intro (And.intro (And.intro True.intro True.intro) True.intro)) (And.intro True.intro True.intro)))))
noncomputable def L169 (k : Nat) : LOrc := fun R lk s K => match lk with
  | .loop r => none
  | .label l => (match findLabel b169_g0 l with | some _ => linkJ l169_g0 x169_g0 (F169_g0 k k) l s K | none => none)
theorem lk_L169_g0 (k : Nat) : JumpsOK Tryd.prog 22 (L169 k) b169_g0 := jumpsOK_of hm hT (ok_O248 k) (fun _ _ _ h => h) rfl (lk169_g0_ k) rfl rfl (F := F169_g0 k) (fun _ => rfl) (fun _ _ => rfl) (n := k) fun R l s K rest hf => by
  show (match findLabel b169_g0 l with | some _ => linkJ l169_g0 x169_g0 (F169_g0 k k) l s K | none => none) = _
  rw [hf]
noncomputable def F169 (k : Nat) (v : mi169.den) : Option mo169.den := runF TI (O248 k) (L169 k) c169 mi169 mo169 v
theorem lk169 (k : Nat) : LinksOK Tryd.prog 22 (L169 k) c169 := (And.intro True.intro (And.intro (lk_L169_g0 k) (And.intro True.intro (And.intro True.intro (And.intro (And.intro True.intro (And.intro (And.intro True.intro True.intro) True.intro)) (And.intro (And.intro True.intro (And.intro (And.intro True.intro True.intro) True.intro)) (And.intro True.intro True.intro)))))))
theorem fn169 (k : Nat) (args : List AV) (x : mi169.den) (r : mo169.den) (h1 : args.length = mi169.items.length) (h2 : mi169.dec (Th.start args) = some x) (h3 : F169 k x = some r) : CallOK Tryd.prog 169 args (ansOf (outL mo169.items r)) :=
  call_of hm hT (ok_O248 k) (fn := Tryd.f169) (c := c169) Tryd.func169 rfl rfl rfl (lk169 k) rfl (by decide) rfl h1 h2 h3
noncomputable def O169 (k : Nat) : Orc := fun R f args K => bif Nat.beq f 169 then callF mi169 mo169 (F169 k) args K else O248 k R f args K
theorem ok_O169 (k : Nat) : OrcOK (O169 k) (CallOK Tryd.prog) := orc_add (fn169 k) (ok_O248 k)
noncomputable def F177 (k : Nat) (v : (Int × Int × Int × Unit) × List UInt8 × Unit) : Option (Bool × Unit) := sel (decide (v.2.1.length ≤ 9223372036854775807)) (ocall (α := Bool × Unit) (F169 k ((v.2.1, ()) : List UInt8 × Unit)) fun r => some (Signs.signsOf v.1.2.1 r.1 v.2.1, ())) none
noncomputable def O177 (k : Nat) : Orc := fun R f args K => bif Nat.beq f 177 then (match args with | [.agg [.int .i64 a, .int .i64 b, .int .i64 c], .str s] => ocall (F177 k ((a, b, c, ()), s, ())) fun r => K (.bool r.1) | _ => none) else O169 k R f args K
theorem ok_O177 (k : Nat) : OrcOK (O177 k) (CallOK Tryd.prog) := by
  intro R f args K r h
  unfold O177 at h
  cases hb : Nat.beq f 177 with
  | false => rw [hb] at h; exact ok_O169 k R f args K r h
  | true =>
    rw [hb] at h
    rw [Nat.eq_of_beq_eq_true hb]
    simp only [cond_true] at h
    split at h
    · rename_i a b c s
      obtain ⟨y, hy, h⟩ := obind_some h
      unfold F177 at hy
      by_cases hl : s.length ≤ 9223372036854775807
      · rw [sel_pos hl] at hy
        obtain ⟨d, hd, hy⟩ := obind_some hy
        cases hy
        exact ⟨_, Signs.fn177 a b c s hl d.1 (fn169 k [.str s] ((s, ()) : List UInt8 × Unit) d rfl rfl hd), h⟩
      · rw [sel_neg hl] at hy; cases hy
    · cases h
noncomputable def c117 : Code := Tryd.f117.body.getD .skip
noncomputable def mi117 : Msk := ⟨[(.tmp 0, .val (.int .i64)), (.tmp 1, .val .str)], []⟩
noncomputable def mo117 : Msk := ⟨[(.tmp 4, .val .bool)], []⟩
noncomputable def L117 (k : Nat) : LOrc := fun _ _ _ _ => none
noncomputable def F117 (k : Nat) (v : mi117.den) : Option mo117.den := runF TI (O177 k) (L117 k) c117 mi117 mo117 v
theorem lk117 (k : Nat) : LinksOK Tryd.prog 25 (L117 k) c117 := (And.intro True.intro (And.intro True.intro (And.intro True.intro True.intro)))
theorem fn117 (k : Nat) (args : List AV) (x : mi117.den) (r : mo117.den) (h1 : args.length = mi117.items.length) (h2 : mi117.dec (Th.start args) = some x) (h3 : F117 k x = some r) : CallOK Tryd.prog 117 args (ansOf (outL mo117.items r)) :=
  call_of hm hT (ok_O177 k) (fn := Tryd.f117) (c := c117) Tryd.func117 rfl rfl rfl (lk117 k) rfl (by decide) rfl h1 h2 h3
noncomputable def O117 (k : Nat) : Orc := fun R f args K => bif Nat.beq f 117 then callF mi117 mo117 (F117 k) args K else O177 k R f args K
theorem ok_O117 (k : Nat) : OrcOK (O117 k) (CallOK Tryd.prog) := orc_add (fn117 k) (ok_O177 k)
noncomputable def c245 : Code := Tryd.f245.body.getD .skip
noncomputable def mi245 : Msk := ⟨[(.tmp 0, .val (.st (.cons (.int .i64) (.cons (.int .i64) .nil))))], []⟩
noncomputable def mo245 : Msk := ⟨[(.tmp 2, .val (.int .i64))], []⟩
noncomputable def L245 (k : Nat) : LOrc := fun _ _ _ _ => none
noncomputable def F245 (k : Nat) (v : mi245.den) : Option mo245.den := runF TI (O117 k) (L245 k) c245 mi245 mo245 v
theorem lk245 (k : Nat) : LinksOK Tryd.prog 5 (L245 k) c245 := (And.intro True.intro (And.intro True.intro True.intro))
theorem fn245 (k : Nat) (args : List AV) (x : mi245.den) (r : mo245.den) (h1 : args.length = mi245.items.length) (h2 : mi245.dec (Th.start args) = some x) (h3 : F245 k x = some r) : CallOK Tryd.prog 245 args (ansOf (outL mo245.items r)) :=
  call_of hm hT (ok_O117 k) (fn := Tryd.f245) (c := c245) Tryd.func245 rfl rfl rfl (lk245 k) rfl (by decide) rfl h1 h2 h3
noncomputable def O245 (k : Nat) : Orc := fun R f args K => bif Nat.beq f 245 then callF mi245 mo245 (F245 k) args K else O117 k R f args K
theorem ok_O245 (k : Nat) : OrcOK (O245 k) (CallOK Tryd.prog) := orc_add (fn245 k) (ok_O117 k)
noncomputable def c247 : Code := Tryd.f247.body.getD .skip
noncomputable def mi247 : Msk := ⟨[(.tmp 0, .val (.st (.cons (.int .i64) .nil)))], []⟩
noncomputable def mo247 : Msk := ⟨[(.tmp 2, .val (.int .i64))], []⟩
noncomputable def L247 (k : Nat) : LOrc := fun _ _ _ _ => none
noncomputable def F247 (k : Nat) (v : mi247.den) : Option mo247.den := runF TI (O245 k) (L247 k) c247 mi247 mo247 v
theorem lk247 (k : Nat) : LinksOK Tryd.prog 3 (L247 k) c247 := (And.intro True.intro (And.intro True.intro True.intro))
theorem fn247 (k : Nat) (args : List AV) (x : mi247.den) (r : mo247.den) (h1 : args.length = mi247.items.length) (h2 : mi247.dec (Th.start args) = some x) (h3 : F247 k x = some r) : CallOK Tryd.prog 247 args (ansOf (outL mo247.items r)) :=
  call_of hm hT (ok_O245 k) (fn := Tryd.f247) (c := c247) Tryd.func247 rfl rfl rfl (lk247 k) rfl (by decide) rfl h1 h2 h3
noncomputable def O247 (k : Nat) : Orc := fun R f args K => bif Nat.beq f 247 then callF mi247 mo247 (F247 k) args K else O245 k R f args K
theorem ok_O247 (k : Nat) : OrcOK (O247 k) (CallOK Tryd.prog) := orc_add (fn247 k) (ok_O245 k)
noncomputable def c105 : Code := Tryd.f105.body.getD .skip
noncomputable def mi105 : Msk := ⟨[(.tmp 0, .val (.int .u64)), (.tmp 1, .val (.int .i64))], []⟩
noncomputable def mo105 : Msk := ⟨[(.tmp 4, .val .str), (.tmp 5, .val (.int .i64))], []⟩
noncomputable def L105_5 (k : Nat) : LOrc := fun _ _ _ _ => none
noncomputable def b105_5 : Code := (findLoop 5 c105).getD .skip
noncomputable def m105_5 : Msk := ⟨[(.tmp 0, .val (.int .u64)), (.tmp 6, .row false (.int .u8)), (.tmp 7, .val (.int .i64))], []⟩
noncomputable def x105_5 : List (X × Msk) := [(.exit 0, ⟨[(.tmp 0, .val (.int .u64)), (.tmp 6, .row false (.int .u8))], []⟩)]
noncomputable def F105_5 (k : Nat) : Nat → m105_5.den → Option (denE x105_5)
  | 0, _ => none
  | j + 1, v => round TI (O247 k) (L105_5 k) b105_5 m105_5 x105_5 (F105_5 k j) v
theorem lk105_5_ (k : Nat) : LinksOK Tryd.prog 35 (L105_5 k) b105_5 := (And.intro (And.intro True.intro (And.intro True.intro True.intro)) (And.intro (And.intro True.intro True.intro) True.intro))
noncomputable def L105 (k : Nat) : LOrc := fun R lk s K => match lk with
  | .loop r => bif Nat.beq r 5 then link m105_5 x105_5 (F105_5 k k) s K else none
  | .label l => none
theorem lk_L105_5 (k : Nat) : LoopOK Tryd.prog 35 (L105 k) b105_5 := loopOK_of hm hT (ok_O247 k) (fun _ _ _ h => h) rfl (lk105_5_ k) rfl rfl (F := F105_5 k) (fun _ => rfl) (fun _ _ => rfl) (n := k) fun _ _ _ => rfl
noncomputable def F105 (k : Nat) (v : mi105.den) : Option mo105.den := runF TI (O247 k) (L105 k) c105 mi105 mo105 v
theorem lk105 (k : Nat) : LinksOK Tryd.prog 35 (L105 k) c105 := (And.intro True.intro (And.intro (And.intro True.intro (And.intro (And.intro True.intro True.intro) True.intro)) (And.intro True.intro (And.intro (And.intro True.intro (lk_L105_5 k)) (And.intro (And.intro True.intro (And.intro (And.intro True.intro True.intro) True.intro)) (And.intro True.intro True.intro))))))
theorem fn105 (k : Nat) (args : List AV) (x : mi105.den) (r : mo105.den) (h1 : args.length = mi105.items.length) (h2 : mi105.dec (Th.start args) = some x) (h3 : F105 k x = some r) : CallOK Tryd.prog 105 args (ansOf (outL mo105.items r)) :=
  call_of hm hT (ok_O247 k) (fn := Tryd.f105) (c := c105) Tryd.func105 rfl rfl rfl (lk105 k) rfl (by decide) rfl h1 h2 h3
noncomputable def O105 (k : Nat) : Orc := fun R f args K => bif Nat.beq f 105 then callF mi105 mo105 (F105 k) args K else O247 k R f args K
theorem ok_O105 (k : Nat) : OrcOK (O105 k) (CallOK Tryd.prog) := orc_add (fn105 k) (ok_O247 k)
noncomputable def c139 : Code := Tryd.f139.body.getD .skip
noncomputable def mi139 : Msk := ⟨[(.tmp 0, .val (.int .i64)), (.tmp 1, .val .str)], []⟩
noncomputable def mo139 : Msk := ⟨[(.tmp 4, .row false (.int .u8)), (.tmp 5, .val (.int .i64))], []⟩
noncomputable def L139 (k : Nat) : LOrc := fun _ _ _ _ => none
noncomputable def F139 (k : Nat) (v : mi139.den) : Option mo139.den := runF TI (O105 k) (L139 k) c139 mi139 mo139 v
theorem lk139 (k : Nat) : LinksOK Tryd.prog 42 (L139 k) c139 := (And.intro True.intro (And.intro True.intro (And.intro (And.intro True.intro (And.intro (And.intro True.intro True.intro) (And.intro True.intro (And.intro (And.intro True.intro True.intro) True.intro)))) (And.intro (And.intro True.intro (And.intro True.intro (And.intro (And.intro True.intro True.intro) True.intro))) (And.intro True.intro True.intro)))))
theorem fn139 (k : Nat) (args : List AV) (x : mi139.den) (r : mo139.den) (h1 : args.length = mi139.items.length) (h2 : mi139.dec (Th.start args) = some x) (h3 : F139 k x = some r) : CallOK Tryd.prog 139 args (ansOf (outL mo139.items r)) :=
  call_of hm hT (ok_O105 k) (fn := Tryd.f139) (c := c139) Tryd.func139 rfl rfl rfl (lk139 k) rfl (by decide) rfl h1 h2 h3
noncomputable def O139 (k : Nat) : Orc := fun R f args K => bif Nat.beq f 139 then callF mi139 mo139 (F139 k) args K else O105 k R f args K
theorem ok_O139 (k : Nat) : OrcOK (O139 k) (CallOK Tryd.prog) := orc_add (fn139 k) (ok_O105 k)
noncomputable def c172 : Code := Tryd.f172.body.getD .skip
noncomputable def mi172 : Msk := ⟨[(.tmp 0, .val .str)], []⟩
noncomputable def mo172 : Msk := ⟨[(.tmp 2, .val (.int .u64)), (.tmp 3, .val (.int .i64))], []⟩
noncomputable def L172_9 (k : Nat) : LOrc := fun _ _ _ _ => none
noncomputable def b172_9 : Code := (findLoop 9 c172).getD .skip
noncomputable def m172_9 : Msk := ⟨[(.tmp 4, .val (.int .u64)), (.tmp 19, .row false (.int .u8)), (.tmp 20, .val (.int .i64)), (.tmp 21, .val (.int .i64))], []⟩
noncomputable def x172_9 : List (X × Msk) := [(.exit 1, ⟨[(.tmp 4, .val (.int .u64))], []⟩)]
noncomputable def F172_9 (k : Nat) : Nat → m172_9.den → Option (denE x172_9)
  | 0, _ => none
  | j + 1, v => round TI (O139 k) (L172_9 k) b172_9 m172_9 x172_9 (F172_9 k j) v
theorem lk172_9_ (k : Nat) : LinksOK Tryd.prog 33 (L172_9 k) b172_9 := (And.intro True.intro (And.intro (And.intro True.intro True.intro) (And.intro (And.intro True.intro True.intro) True.intro)))
noncomputable def L172 (k : Nat) : LOrc := fun R lk s K => match lk with
  | .loop r => bif Nat.beq r 9 then link m172_9 x172_9 (F172_9 k k) s K else none
  | .label l => none
theorem lk_L172_9 (k : Nat) : LoopOK Tryd.prog 33 (L172 k) b172_9 := loopOK_of hm hT (ok_O139 k) (fun _ _ _ h => h) rfl (lk172_9_ k) rfl rfl (F := F172_9 k) (fun _ => rfl) (fun _ _ => rfl) (n := k) fun _ _ _ => rfl
noncomputable def F172 (k : Nat) (v : mi172.den) : Option mo172.den := runF TI (O139 k) (L172 k) c172 mi172 mo172 v
theorem lk172 (k : Nat) : LinksOK Tryd.prog 33 (L172 k) c172 := (And.intro True.intro (And.intro (And.intro True.intro (And.intro (And.intro True.intro True.intro) (And.intro True.intro (And.intro (And.intro True.intro True.intro) (And.intro True.intro (And.intro (And.intro True.intro True.intro) True.intro)))))) (And.intro True.intro (And.intro (And.intro True.intro (lk_L172_9 k)) (And.intro True.intro True.intro)))))
theorem fn172 (k : Nat) (args : List AV) (x : mi172.den) (r : mo172.den) (h1 : args.length = mi172.items.length) (h2 : mi172.dec (Th.start args) = some x) (h3 : F172 k x = some r) : CallOK Tryd.prog 172 args (ansOf (outL mo172.items r)) :=
  call_of hm hT (ok_O139 k) (fn := Tryd.f172) (c := c172) Tryd.func172 rfl rfl rfl (lk172 k) rfl (by decide) rfl h1 h2 h3
noncomputable def O172 (k : Nat) : Orc := fun R f args K => bif Nat.beq f 172 then callF mi172 mo172 (F172 k) args K else O139 k R f args K
theorem ok_O172 (k : Nat) : OrcOK (O172 k) (CallOK Tryd.prog) := orc_add (fn172 k) (ok_O139 k)
noncomputable def c195 : Code := Tryd.f195.body.getD .skip
noncomputable def mi195 : Msk := ⟨[(.tmp 0, .val (.st (.cons (.int .i64) (.cons (.int .i64) (.cons (.int .i64) .nil))))), (.tmp 1, .val (.slice (.int .u8)))], []⟩
noncomputable def mo195 : Msk := ⟨[(.tmp 4, .val (.int .i64)), (.tmp 5, .val (.int .i64))], []⟩
noncomputable def L195 (k : Nat) : LOrc := fun _ _ _ _ => none
noncomputable def F195 (k : Nat) (v : mi195.den) : Option mo195.den := runF TI (O172 k) (L195 k) c195 mi195 mo195 v
theorem lk195 (k : Nat) : LinksOK Tryd.prog 41 (L195 k) c195 := (And.intro True.intro (And.intro True.intro (And.intro (And.intro True.intro (And.intro (And.intro True.intro True.intro) True.intro)) (And.intro (And.intro True.intro (And.intro (And.intro True.intro True.intro) True.intro)) (And.intro True.intro (And.intro (And.intro (And.intro True.intro (And.intro True.intro True.intro)) (And.intro (And.intro True.intro True.intro) (And.intro True.intro (And.intro (And.intro True.intro True.intro) True.intro)))) (And.intro True.intro True.intro)))))))
theorem fn195 (k : Nat) (args : List AV) (x : mi195.den) (r : mo195.den) (h1 : args.length = mi195.items.length) (h2 : mi195.dec (Th.start args) = some x) (h3 : F195 k x = some r) : CallOK Tryd.prog 195 args (ansOf (outL mo195.items r)) :=
  call_of hm hT (ok_O172 k) (fn := Tryd.f195) (c := c195) Tryd.func195 rfl rfl rfl (lk195 k) rfl (by decide) rfl h1 h2 h3
noncomputable def O195 (k : Nat) : Orc := fun R f args K => bif Nat.beq f 195 then callF mi195 mo195 (F195 k) args K else O172 k R f args K
theorem ok_O195 (k : Nat) : OrcOK (O195 k) (CallOK Tryd.prog) := orc_add (fn195 k) (ok_O172 k)
noncomputable def c144 : Code := Tryd.f144.body.getD .skip
noncomputable def mi144 : Msk := ⟨[(.tmp 0, .val (.int .i64)), (.tmp 1, .val (.slice (.int .u8)))], []⟩
noncomputable def mo144 : Msk := ⟨[(.tmp 4, .val .str), (.tmp 5, .val (.int .i64)), (.tmp 6, .val (.int .i64))], []⟩
noncomputable def L144 (k : Nat) : LOrc := fun _ _ _ _ => none
noncomputable def F144 (k : Nat) (v : mi144.den) : Option mo144.den := runF TI (O195 k) (L144 k) c144 mi144 mo144 v
theorem lk144 (k : Nat) : LinksOK Tryd.prog 51 (L144 k) c144 := (And.intro True.intro (And.intro True.intro (And.intro (And.intro True.intro (And.intro (And.intro True.intro True.intro) True.intro)) (And.intro True.intro (And.intro (And.intro True.intro (And.intro (And.intro True.intro True.intro) True.intro)) (And.intro True.intro (And.intro True.intro (And.intro (And.intro True.intro (And.intro (And.intro True.intro True.intro) True.intro)) (And.intro True.intro (And.intro (And.intro True.intro (And.intro (And.intro True.intro True.intro) True.intro)) (And.intro True.intro True.intro)))))))))))
theorem fn144 (k : Nat) (args : List AV) (x : mi144.den) (r : mo144.den) (h1 : args.length = mi144.items.length) (h2 : mi144.dec (Th.start args) = some x) (h3 : F144 k x = some r) : CallOK Tryd.prog 144 args (ansOf (outL mo144.items r)) :=
  call_of hm hT (ok_O195 k) (fn := Tryd.f144) (c := c144) Tryd.func144 rfl rfl rfl (lk144 k) rfl (by decide) rfl h1 h2 h3
noncomputable def O144 (k : Nat) : Orc := fun R f args K => bif Nat.beq f 144 then callF mi144 mo144 (F144 k) args K else O195 k R f args K
theorem ok_O144 (k : Nat) : OrcOK (O144 k) (CallOK Tryd.prog) := orc_add (fn144 k) (ok_O195 k)
noncomputable def c202 : Code := Tryd.f202.body.getD .skip
noncomputable def mi202 : Msk := ⟨[], []⟩
noncomputable def mo202 : Msk := ⟨[(.tmp 0, .row false (.int .i64))], []⟩
noncomputable def L202 (k : Nat) : LOrc := fun _ _ _ _ => none
noncomputable def F202 (k : Nat) (v : mi202.den) : Option mo202.den := runF TI (O144 k) (L202 k) c202 mi202 mo202 v
theorem lk202 (k : Nat) : LinksOK Tryd.prog 2 (L202 k) c202 := (And.intro True.intro (And.intro True.intro True.intro))
theorem fn202 (k : Nat) (args : List AV) (x : mi202.den) (r : mo202.den) (h1 : args.length = mi202.items.length) (h2 : mi202.dec (Th.start args) = some x) (h3 : F202 k x = some r) : CallOK Tryd.prog 202 args (ansOf (outL mo202.items r)) :=
  call_of hm hT (ok_O144 k) (fn := Tryd.f202) (c := c202) Tryd.func202 rfl rfl rfl (lk202 k) rfl (by decide) rfl h1 h2 h3
noncomputable def O202 (k : Nat) : Orc := fun R f args K => bif Nat.beq f 202 then callF mi202 mo202 (F202 k) args K else O144 k R f args K
theorem ok_O202 (k : Nat) : OrcOK (O202 k) (CallOK Tryd.prog) := orc_add (fn202 k) (ok_O144 k)
noncomputable def c164 : Code := Tryd.f164.body.getD .skip
noncomputable def mi164 : Msk := ⟨[(.tmp 0, .val (.int .i64))], []⟩
noncomputable def mo164 : Msk := ⟨[(.res 2, .val (.st (.cons (.int .i64) (.cons (.int .i64) (.cons (.int .i64) .nil))))), (.tmp 3, .val .bool)], []⟩
noncomputable def L164_3 (k : Nat) : LOrc := fun _ _ _ _ => none
noncomputable def b164_3 : Code := (findLoop 3 c164).getD .skip
noncomputable def m164_3 : Msk := ⟨[(.tmp 0, .val (.int .i64)), (.tmp 2, .ptr 2 0), (.tmp 4, .row false (.int .i64)), (.tmp 5, .val (.int .i64)), (.cell 2 0, .val (.int .i64)), (.cell 2 1, .val (.int .i64)), (.cell 2 2, .val (.int .i64))], [(2, 3)]⟩
noncomputable def x164_3 : List (X × Msk) := [(.exit 0, ⟨[(.tmp 2, .ptr 2 0), (.cell 2 0, .val (.int .i64)), (.cell 2 1, .val (.int .i64)), (.cell 2 2, .val (.int .i64))], [(2, 3)]⟩), (.ret, ⟨[(.tmp 2, .ptr 2 0), (.tmp 3, .val .bool), (.cell 2 0, .val (.int .i64)), (.cell 2 1, .val (.int .i64)), (.cell 2 2, .val (.int .i64))], [(2, 3)]⟩)]
noncomputable def F164_3 (k : Nat) : Nat → m164_3.den → Option (denE x164_3)
  | 0, _ => none
  | j + 1, v => round TI (O202 k) (L164_3 k) b164_3 m164_3 x164_3 (F164_3 k j) v
theorem lk164_3_ (k : Nat) : LinksOK Tryd.prog 35 (L164_3 k) b164_3 := (And.intro (And.intro True.intro (And.intro True.intro True.intro)) (And.intro (And.intro True.intro (And.intro (And.intro True.intro True.intro) True.intro)) True.intro))
noncomputable def L164 (k : Nat) : LOrc := fun R lk s K => match lk with
  | .loop r => bif Nat.beq r 3 then link m164_3 x164_3 (F164_3 k k) s K else none
  | .label l => none
theorem lk_L164_3 (k : Nat) : LoopOK Tryd.prog 35 (L164 k) b164_3 := loopOK_of hm hT (ok_O202 k) (fun _ _ _ h => h) rfl (lk164_3_ k) rfl rfl (F := F164_3 k) (fun _ => rfl) (fun _ _ => rfl) (n := k) fun _ _ _ => rfl
noncomputable def F164 (k : Nat) (v : mi164.den) : Option mo164.den := runF TI (O202 k) (L164 k) c164 mi164 mo164 v
theorem lk164 (k : Nat) : LinksOK Tryd.prog 35 (L164 k) c164 := (And.intro True.intro (And.intro True.intro (And.intro (And.intro True.intro (lk_L164_3 k)) (And.intro True.intro True.intro))))
theorem fn164 (k : Nat) (args : List AV) (x : mi164.den) (r : mo164.den) (h1 : args.length = mi164.items.length) (h2 : mi164.dec (Th.start args) = some x) (h3 : F164 k x = some r) : CallOK Tryd.prog 164 args (ansOf (outL mo164.items r)) :=
  call_of hm hT (ok_O202 k) (fn := Tryd.f164) (c := c164) Tryd.func164 rfl rfl rfl (lk164 k) rfl (by decide) rfl h1 h2 h3
noncomputable def O164 (k : Nat) : Orc := fun R f args K => bif Nat.beq f 164 then callF mi164 mo164 (F164 k) args K else O202 k R f args K
theorem ok_O164 (k : Nat) : OrcOK (O164 k) (CallOK Tryd.prog) := orc_add (fn164 k) (ok_O202 k)
noncomputable def c171 : Code := Tryd.f171.body.getD .skip
noncomputable def mi171 : Msk := ⟨[(.tmp 0, .val .str)], []⟩
noncomputable def mo171 : Msk := ⟨[(.tmp 2, .val .bool)], []⟩
noncomputable def L171_2 (k : Nat) : LOrc := fun _ _ _ _ => none
noncomputable def b171_2 : Code := (findLoop 2 c171).getD .skip
noncomputable def m171_2 : Msk := ⟨[(.tmp 0, .val .str), (.tmp 3, .val (.int .i64))], []⟩
noncomputable def x171_2 : List (X × Msk) := [(.exit 0, ⟨[(.tmp 0, .val .str)], []⟩), (.ret, ⟨[(.tmp 2, .val .bool)], []⟩)]
noncomputable def F171_2 (k : Nat) : Nat → m171_2.den → Option (denE x171_2)
  | 0, _ => none
  | j + 1, v => round TI (O164 k) (L171_2 k) b171_2 m171_2 x171_2 (F171_2 k j) v
theorem lk171_2_ (k : Nat) : LinksOK Tryd.prog 23 (L171_2 k) b171_2 := (And.intro (And.intro True.intro (And.intro True.intro True.intro)) (And.intro (And.intro True.intro (And.intro (And.intro True.intro True.intro) True.intro)) True.intro))
noncomputable def L171 (k : Nat) : LOrc := fun R lk s K => match lk with
  | .loop r => bif Nat.beq r 2 then link m171_2 x171_2 (F171_2 k k) s K else none
  | .label l => none
theorem lk_L171_2 (k : Nat) : LoopOK Tryd.prog 23 (L171 k) b171_2 := loopOK_of hm hT (ok_O164 k) (fun _ _ _ h => h) rfl (lk171_2_ k) rfl rfl (F := F171_2 k) (fun _ => rfl) (fun _ _ => rfl) (n := k) fun _ _ _ => rfl
noncomputable def F171 (k : Nat) (v : mi171.den) : Option mo171.den := runF TI (O164 k) (L171 k) c171 mi171 mo171 v
theorem lk171 (k : Nat) : LinksOK Tryd.prog 23 (L171 k) c171 := (And.intro True.intro (And.intro (And.intro True.intro (lk_L171_2 k)) (And.intro True.intro True.intro)))
theorem fn171 (k : Nat) (args : List AV) (x : mi171.den) (r : mo171.den) (h1 : args.length = mi171.items.length) (h2 : mi171.dec (Th.start args) = some x) (h3 : F171 k x = some r) : CallOK Tryd.prog 171 args (ansOf (outL mo171.items r)) :=
  call_of hm hT (ok_O164 k) (fn := Tryd.f171) (c := c171) Tryd.func171 rfl rfl rfl (lk171 k) rfl (by decide) rfl h1 h2 h3
noncomputable def O171 (k : Nat) : Orc := fun R f args K => bif Nat.beq f 171 then callF mi171 mo171 (F171 k) args K else O164 k R f args K
theorem ok_O171 (k : Nat) : OrcOK (O171 k) (CallOK Tryd.prog) := orc_add (fn171 k) (ok_O164 k)
noncomputable def c120 : Code := Tryd.f120.body.getD .skip
noncomputable def mi120 : Msk := ⟨[(.tmp 0, .val .str)], []⟩
noncomputable def mo120 : Msk := ⟨[(.tmp 2, .val (.int .u64)), (.tmp 3, .val (.int .i64))], []⟩
noncomputable def L120_9 (k : Nat) : LOrc := fun _ _ _ _ => none
noncomputable def b120_9 : Code := (findLoop 9 c120).getD .skip
noncomputable def m120_9 : Msk := ⟨[(.tmp 0, .val .str), (.tmp 4, .val (.int .u64)), (.tmp 5, .val (.int .i64))], []⟩
noncomputable def x120_9 : List (X × Msk) := [(.exit 0, ⟨[(.tmp 4, .val (.int .u64))], []⟩)]
noncomputable def F120_9 (k : Nat) : Nat → m120_9.den → Option (denE x120_9)
  | 0, _ => none
  | j + 1, v => round TI (O171 k) (L120_9 k) b120_9 m120_9 x120_9 (F120_9 k j) v
theorem lk120_9_ (k : Nat) : LinksOK Tryd.prog 30 (L120_9 k) b120_9 := (And.intro (And.intro True.intro (And.intro True.intro True.intro)) (And.intro True.intro True.intro))
noncomputable def L120 (k : Nat) : LOrc := fun R lk s K => match lk with
  | .loop r => bif Nat.beq r 9 then link m120_9 x120_9 (F120_9 k k) s K else none
  | .label l => none
theorem lk_L120_9 (k : Nat) : LoopOK Tryd.prog 30 (L120 k) b120_9 := loopOK_of hm hT (ok_O171 k) (fun _ _ _ h => h) rfl (lk120_9_ k) rfl rfl (F := F120_9 k) (fun _ => rfl) (fun _ _ => rfl) (n := k) fun _ _ _ => rfl
noncomputable def F120 (k : Nat) (v : mi120.den) : Option mo120.den := runF TI (O171 k) (L120 k) c120 mi120 mo120 v
theorem lk120 (k : Nat) : LinksOK Tryd.prog 30 (L120 k) c120 := (And.intro True.intro (And.intro (And.intro True.intro (And.intro (And.intro True.intro True.intro) True.intro)) (And.intro (And.intro True.intro (And.intro (And.intro True.intro True.intro) True.intro)) (And.intro (And.intro True.intro (And.intro (And.intro True.intro True.intro) True.intro)) (And.intro True.intro (And.intro (And.intro True.intro (lk_L120_9 k)) (And.intro True.intro True.intro)))))))
theorem fn120 (k : Nat) (args : List AV) (x : mi120.den) (r : mo120.den) (h1 : args.length = mi120.items.length) (h2 : mi120.dec (Th.start args) = some x) (h3 : F120 k x = some r) : CallOK Tryd.prog 120 args (ansOf (outL mo120.items r)) :=
  call_of hm hT (ok_O171 k) (fn := Tryd.f120) (c := c120) Tryd.func120 rfl rfl rfl (lk120 k) rfl (by decide) rfl h1 h2 h3
noncomputable def O120 (k : Nat) : Orc := fun R f args K => bif Nat.beq f 120 then callF mi120 mo120 (F120 k) args K else O171 k R f args K
theorem ok_O120 (k : Nat) : OrcOK (O120 k) (CallOK Tryd.prog) := orc_add (fn120 k) (ok_O171 k)
noncomputable def c165 : Code := Tryd.f165.body.getD .skip
noncomputable def mi165 : Msk := ⟨[(.tmp 0, .val (.int .i64)), (.tmp 1, .val .str)], []⟩
noncomputable def mo165 : Msk := ⟨[(.tmp 4, .val .bool)], []⟩
noncomputable def L165_2 (k : Nat) : LOrc := fun _ _ _ _ => none
noncomputable def b165_2 : Code := (findLoop 2 c165).getD .skip
noncomputable def m165_2 : Msk := ⟨[(.tmp 0, .val (.int .i64)), (.tmp 1, .val .str), (.tmp 5, .val (.int .i64))], []⟩
noncomputable def x165_2 : List (X × Msk) := [(.exit 0, ⟨[], []⟩), (.ret, ⟨[(.tmp 4, .val .bool)], []⟩)]
noncomputable def F165_2 (k : Nat) : Nat → m165_2.den → Option (denE x165_2)
  | 0, _ => none
  | j + 1, v => round TI (O120 k) (L165_2 k) b165_2 m165_2 x165_2 (F165_2 k j) v
theorem lk165_2_ (k : Nat) : LinksOK Tryd.prog 32 (L165_2 k) b165_2 := (And.intro (And.intro True.intro (And.intro True.intro True.intro)) (And.intro (And.intro True.intro (And.intro (And.intro True.intro (And.intro True.intro True.intro)) (And.intro True.intro (And.intro (And.intro True.intro True.intro) True.intro)))) True.intro))
noncomputable def L165 (k : Nat) : LOrc := fun R lk s K => match lk with
  | .loop r => bif Nat.beq r 2 then link m165_2 x165_2 (F165_2 k k) s K else none
  | .label l => none
theorem lk_L165_2 (k : Nat) : LoopOK Tryd.prog 32 (L165 k) b165_2 := loopOK_of hm hT (ok_O120 k) (fun _ _ _ h => h) rfl (lk165_2_ k) rfl rfl (F := F165_2 k) (fun _ => rfl) (fun _ _ => rfl) (n := k) fun _ _ _ => rfl
noncomputable def F165 (k : Nat) (v : mi165.den) : Option mo165.den := runF TI (O120 k) (L165 k) c165 mi165 mo165 v
theorem lk165 (k : Nat) : LinksOK Tryd.prog 32 (L165 k) c165 := (And.intro True.intro (And.intro (And.intro True.intro (lk_L165_2 k)) (And.intro True.intro True.intro)))
theorem fn165 (k : Nat) (args : List AV) (x : mi165.den) (r : mo165.den) (h1 : args.length = mi165.items.length) (h2 : mi165.dec (Th.start args) = some x) (h3 : F165 k x = some r) : CallOK Tryd.prog 165 args (ansOf (outL mo165.items r)) :=
  call_of hm hT (ok_O120 k) (fn := Tryd.f165) (c := c165) Tryd.func165 rfl rfl rfl (lk165 k) rfl (by decide) rfl h1 h2 h3
noncomputable def O165 (k : Nat) : Orc := fun R f args K => bif Nat.beq f 165 then callF mi165 mo165 (F165 k) args K else O120 k R f args K
theorem ok_O165 (k : Nat) : OrcOK (O165 k) (CallOK Tryd.prog) := orc_add (fn165 k) (ok_O120 k)
noncomputable def c42 : Code := Tryd.f42.body.getD .skip
noncomputable def mi42 : Msk := ⟨[(.tmp 0, .val (.int .i64))], []⟩
noncomputable def mo42 : Msk := ⟨[(.tmp 2, .val .bool)], []⟩
noncomputable def L42 (k : Nat) : LOrc := fun _ _ _ _ => none
noncomputable def F42 (k : Nat) (v : mi42.den) : Option mo42.den := runF TI (O165 k) (L42 k) c42 mi42 mo42 v
theorem lk42 (k : Nat) : LinksOK Tryd.prog 9 (L42 k) c42 := (And.intro True.intro (And.intro (And.intro True.intro (And.intro (And.intro True.intro (And.intro True.intro (And.intro True.intro (And.intro True.intro (And.intro True.intro (And.intro True.intro True.intro)))))) (And.intro (And.intro True.intro True.intro) True.intro))) (And.intro True.intro True.intro)))
theorem fn42 (k : Nat) (args : List AV) (x : mi42.den) (r : mo42.den) (h1 : args.length = mi42.items.length) (h2 : mi42.dec (Th.start args) = some x) (h3 : F42 k x = some r) : CallOK Tryd.prog 42 args (ansOf (outL mo42.items r)) :=
  call_of hm hT (ok_O165 k) (fn := Tryd.f42) (c := c42) Tryd.func42 rfl rfl rfl (lk42 k) rfl (by decide) rfl h1 h2 h3
noncomputable def O42 (k : Nat) : Orc := fun R f args K => bif Nat.beq f 42 then callF mi42 mo42 (F42 k) args K else O165 k R f args K
theorem ok_O42 (k : Nat) : OrcOK (O42 k) (CallOK Tryd.prog) := orc_add (fn42 k) (ok_O165 k)
noncomputable def F170 (k : Nat) (v : List UInt8 × Bool × Unit) : Option (Int × Unit) := sel (decide (v.1.length ≤ 9223372036854775807)) (some ((Sum.sumOf (Sum.backs (toBytes v.1)) v.2.1).1, ())) none
noncomputable def O170 (k : Nat) : Orc := fun R f args K => bif Nat.beq f 170 then (match args with | [.str b, .bool t] => ocall (F170 k (b, t, ())) fun r => K (.int .i64 r.1) | _ => none) else O42 k R f args K
theorem ok_O170 (k : Nat) : OrcOK (O170 k) (CallOK Tryd.prog) := by
  intro R f args K r h
  unfold O170 at h
  cases hb : Nat.beq f 170 with
  | false => rw [hb] at h; exact ok_O42 k R f args K r h
  | true =>
    rw [hb] at h
    rw [Nat.eq_of_beq_eq_true hb]
    simp only [cond_true] at h
    split at h
    · rename_i b t
      unfold F170 at h
      by_cases hl : b.length ≤ 9223372036854775807
      · rw [sel_pos hl] at h
        exact ⟨_, Sum.fn170 b hl t, h⟩
      · rw [sel_neg hl] at h; cases h
    · cases h
noncomputable def c107 : Code := Tryd.f107.body.getD .skip
noncomputable def mi107 : Msk := ⟨[(.tmp 0, .val .str)], []⟩
noncomputable def mo107 : Msk := ⟨[(.tmp 2, .val .bool)], []⟩
noncomputable def L107 (k : Nat) : LOrc := fun _ _ _ _ => none
noncomputable def F107 (k : Nat) (v : mi107.den) : Option mo107.den := runF TI (O170 k) (L107 k) c107 mi107 mo107 v
theorem lk107 (k : Nat) : LinksOK Tryd.prog 11 (L107 k) c107 := (And.intro True.intro (And.intro True.intro True.intro))
theorem fn107 (k : Nat) (args : List AV) (x : mi107.den) (r : mo107.den) (h1 : args.length = mi107.items.length) (h2 : mi107.dec (Th.start args) = some x) (h3 : F107 k x = some r) : CallOK Tryd.prog 107 args (ansOf (outL mo107.items r)) :=
  call_of hm hT (ok_O170 k) (fn := Tryd.f107) (c := c107) Tryd.func107 rfl rfl rfl (lk107 k) rfl (by decide) rfl h1 h2 h3
noncomputable def O107 (k : Nat) : Orc := fun R f args K => bif Nat.beq f 107 then callF mi107 mo107 (F107 k) args K else O170 k R f args K
theorem ok_O107 (k : Nat) : OrcOK (O107 k) (CallOK Tryd.prog) := orc_add (fn107 k) (ok_O170 k)
noncomputable def c108 : Code := Tryd.f108.body.getD .skip
noncomputable def mi108 : Msk := ⟨[(.tmp 0, .val (.int .i64))], []⟩
noncomputable def mo108 : Msk := ⟨[(.tmp 2, .val .str)], []⟩
noncomputable def L108 (k : Nat) : LOrc := fun _ _ _ _ => none
noncomputable def F108 (k : Nat) (v : mi108.den) : Option mo108.den := runF TI (O107 k) (L108 k) c108 mi108 mo108 v
theorem lk108 (k : Nat) : LinksOK Tryd.prog 12 (L108 k) c108 := (And.intro True.intro (And.intro (And.intro True.intro (And.intro (And.intro True.intro True.intro) True.intro)) (And.intro True.intro True.intro)))
theorem fn108 (k : Nat) (args : List AV) (x : mi108.den) (r : mo108.den) (h1 : args.length = mi108.items.length) (h2 : mi108.dec (Th.start args) = some x) (h3 : F108 k x = some r) : CallOK Tryd.prog 108 args (ansOf (outL mo108.items r)) :=
  call_of hm hT (ok_O107 k) (fn := Tryd.f108) (c := c108) Tryd.func108 rfl rfl rfl (lk108 k) rfl (by decide) rfl h1 h2 h3
noncomputable def O108 (k : Nat) : Orc := fun R f args K => bif Nat.beq f 108 then callF mi108 mo108 (F108 k) args K else O107 k R f args K
theorem ok_O108 (k : Nat) : OrcOK (O108 k) (CallOK Tryd.prog) := orc_add (fn108 k) (ok_O107 k)
noncomputable def c109 : Code := Tryd.f109.body.getD .skip
noncomputable def mi109 : Msk := ⟨[(.tmp 0, .val (.st (.cons (.int .i64) (.cons .str (.cons (.int .u64) (.cons (.int .u32) (.cons .str (.cons .str .nil))))))))], []⟩
noncomputable def mo109 : Msk := ⟨[(.tmp 2, .row false (.st (.cons (.int .i64) (.cons .str .nil))))], []⟩
noncomputable def L109 (k : Nat) : LOrc := fun _ _ _ _ => none
noncomputable def F109 (k : Nat) (v : mi109.den) : Option mo109.den := runF TI (O108 k) (L109 k) c109 mi109 mo109 v
theorem lk109 (k : Nat) : LinksOK Tryd.prog 57 (L109 k) c109 := (And.intro True.intro (And.intro True.intro (And.intro True.intro (And.intro (And.intro True.intro (And.intro (And.intro True.intro True.intro) True.intro)) (And.intro True.intro (And.intro True.intro (And.intro (And.intro True.intro (And.intro True.intro True.intro)) (And.intro True.intro True.intro))))))))
theorem fn109 (k : Nat) (args : List AV) (x : mi109.den) (r : mo109.den) (h1 : args.length = mi109.items.length) (h2 : mi109.dec (Th.start args) = some x) (h3 : F109 k x = some r) : CallOK Tryd.prog 109 args (ansOf (outL mo109.items r)) :=
  call_of hm hT (ok_O108 k) (fn := Tryd.f109) (c := c109) Tryd.func109 rfl rfl rfl (lk109 k) rfl (by decide) rfl h1 h2 h3
noncomputable def O109 (k : Nat) : Orc := fun R f args K => bif Nat.beq f 109 then callF mi109 mo109 (F109 k) args K else O108 k R f args K
theorem ok_O109 (k : Nat) : OrcOK (O109 k) (CallOK Tryd.prog) := orc_add (fn109 k) (ok_O108 k)
noncomputable def c121 : Code := Tryd.f121.body.getD .skip
noncomputable def mi121 : Msk := ⟨[(.tmp 0, .val .str)], []⟩
noncomputable def mo121 : Msk := ⟨[(.tmp 2, .val .bool)], []⟩
noncomputable def L121 (k : Nat) : LOrc := fun _ _ _ _ => none
noncomputable def F121 (k : Nat) (v : mi121.den) : Option mo121.den := runF TI (O109 k) (L121 k) c121 mi121 mo121 v
theorem lk121 (k : Nat) : LinksOK Tryd.prog 12 (L121 k) c121 := (And.intro True.intro (And.intro (And.intro True.intro (And.intro (And.intro True.intro (And.intro True.intro (And.intro True.intro (And.intro True.intro (And.intro True.intro (And.intro True.intro (And.intro True.intro (And.intro True.intro (And.intro True.intro (And.intro True.intro (And.intro True.intro (And.intro True.intro True.intro)))))))))))) (And.intro (And.intro True.intro True.intro) True.intro))) (And.intro True.intro True.intro)))
theorem fn121 (k : Nat) (args : List AV) (x : mi121.den) (r : mo121.den) (h1 : args.length = mi121.items.length) (h2 : mi121.dec (Th.start args) = some x) (h3 : F121 k x = some r) : CallOK Tryd.prog 121 args (ansOf (outL mo121.items r)) :=
  call_of hm hT (ok_O109 k) (fn := Tryd.f121) (c := c121) Tryd.func121 rfl rfl rfl (lk121 k) rfl (by decide) rfl h1 h2 h3
noncomputable def O121 (k : Nat) : Orc := fun R f args K => bif Nat.beq f 121 then callF mi121 mo121 (F121 k) args K else O109 k R f args K
theorem ok_O121 (k : Nat) : OrcOK (O121 k) (CallOK Tryd.prog) := orc_add (fn121 k) (ok_O109 k)
noncomputable def c44 : Code := Tryd.f44.body.getD .skip
noncomputable def mi44 : Msk := ⟨[(.tmp 0, .val (.st (.cons .str (.cons (.slice (.st (.cons (.int .i64) (.cons .str .nil)))) .nil))))], []⟩
noncomputable def mo44 : Msk := ⟨[(.tmp 2, .val .bool)], []⟩
noncomputable def L44_3 (k : Nat) : LOrc := fun _ _ _ _ => none
noncomputable def b44_3 : Code := (findLoop 3 c44).getD .skip
noncomputable def m44_3 : Msk := ⟨[(.tmp 1, .ptr 1 0), (.tmp 3, .val (.int .i64)), (.tmp 7, .val (.slice (.st (.cons (.int .i64) (.cons .str .nil))))), (.tmp 8, .val (.int .i64)), (.tmp 9, .val (.int .i64)), (.cell 1 0, .val .str), (.cell 1 1, .val (.slice (.st (.cons (.int .i64) (.cons .str .nil)))))], [(1, 2)]⟩
noncomputable def x44_3 : List (X × Msk) := [(.exit 0, ⟨[(.tmp 1, .ptr 1 0), (.cell 1 0, .val .str), (.cell 1 1, .val (.slice (.st (.cons (.int .i64) (.cons .str .nil)))))], [(1, 2)]⟩), (.ret, ⟨[(.tmp 2, .val .bool)], []⟩)]
noncomputable def F44_3 (k : Nat) : Nat → m44_3.den → Option (denE x44_3)
  | 0, _ => none
  | j + 1, v => round TI (O121 k) (L44_3 k) b44_3 m44_3 x44_3 (F44_3 k j) v
theorem lk44_3_ (k : Nat) : LinksOK Tryd.prog 37 (L44_3 k) b44_3 := (And.intro True.intro (And.intro (And.intro True.intro True.intro) (And.intro (And.intro True.intro (And.intro (And.intro True.intro (And.intro (And.intro True.intro True.intro) True.intro)) True.intro)) True.intro)))
noncomputable def L44 (k : Nat) : LOrc := fun R lk s K => match lk with
  | .loop r => bif Nat.beq r 3 then link m44_3 x44_3 (F44_3 k k) s K else none
  | .label l => none
theorem lk_L44_3 (k : Nat) : LoopOK Tryd.prog 37 (L44 k) b44_3 := loopOK_of hm hT (ok_O121 k) (fun _ _ _ h => h) rfl (lk44_3_ k) rfl rfl (F := F44_3 k) (fun _ => rfl) (fun _ _ => rfl) (n := k) fun _ _ _ => rfl
noncomputable def F44 (k : Nat) (v : mi44.den) : Option mo44.den := runF TI (O121 k) (L44 k) c44 mi44 mo44 v
theorem lk44 (k : Nat) : LinksOK Tryd.prog 37 (L44 k) c44 := (And.intro True.intro (And.intro True.intro (And.intro (And.intro True.intro (lk_L44_3 k)) (And.intro True.intro True.intro))))
theorem fn44 (k : Nat) (args : List AV) (x : mi44.den) (r : mo44.den) (h1 : args.length = mi44.items.length) (h2 : mi44.dec (Th.start args) = some x) (h3 : F44 k x = some r) : CallOK Tryd.prog 44 args (ansOf (outL mo44.items r)) :=
  call_of hm hT (ok_O121 k) (fn := Tryd.f44) (c := c44) Tryd.func44 rfl rfl rfl (lk44 k) rfl (by decide) rfl h1 h2 h3
noncomputable def O44 (k : Nat) : Orc := fun R f args K => bif Nat.beq f 44 then callF mi44 mo44 (F44 k) args K else O121 k R f args K
theorem ok_O44 (k : Nat) : OrcOK (O44 k) (CallOK Tryd.prog) := orc_add (fn44 k) (ok_O121 k)
noncomputable def c33 : Code := Tryd.f33.body.getD .skip
noncomputable def mi33 : Msk := ⟨[(.tmp 0, .val (.st (.cons (.int .i64) (.cons .str (.cons (.int .u64) (.cons (.int .u32) (.cons .str (.cons .str .nil))))))))], []⟩
noncomputable def mo33 : Msk := ⟨[(.tmp 2, .val .bool)], []⟩
noncomputable def L33 (k : Nat) : LOrc := fun _ _ _ _ => none
noncomputable def F33 (k : Nat) (v : mi33.den) : Option mo33.den := runF TI (O44 k) (L33 k) c33 mi33 mo33 v
theorem lk33 (k : Nat) : LinksOK Tryd.prog 30 (L33 k) c33 := (And.intro True.intro (And.intro (And.intro True.intro (And.intro (And.intro True.intro (And.intro (And.intro True.intro True.intro) True.intro)) (And.intro True.intro (And.intro (And.intro True.intro True.intro) True.intro)))) (And.intro True.intro True.intro)))
theorem fn33 (k : Nat) (args : List AV) (x : mi33.den) (r : mo33.den) (h1 : args.length = mi33.items.length) (h2 : mi33.dec (Th.start args) = some x) (h3 : F33 k x = some r) : CallOK Tryd.prog 33 args (ansOf (outL mo33.items r)) :=
  call_of hm hT (ok_O44 k) (fn := Tryd.f33) (c := c33) Tryd.func33 rfl rfl rfl (lk33 k) rfl (by decide) rfl h1 h2 h3
noncomputable def O33 (k : Nat) : Orc := fun R f args K => bif Nat.beq f 33 then callF mi33 mo33 (F33 k) args K else O44 k R f args K
theorem ok_O33 (k : Nat) : OrcOK (O33 k) (CallOK Tryd.prog) := orc_add (fn33 k) (ok_O44 k)
noncomputable def c27 : Code := Tryd.f27.body.getD .skip
noncomputable def mi27 : Msk := ⟨[(.tmp 0, .val (.st (.cons (.int .u32) (.cons .str .nil))))], []⟩
noncomputable def mo27 : Msk := ⟨[(.tmp 2, .val .bool)], []⟩
noncomputable def L27 (k : Nat) : LOrc := fun _ _ _ _ => none
noncomputable def F27 (k : Nat) (v : mi27.den) : Option mo27.den := runF TI (O33 k) (L27 k) c27 mi27 mo27 v
theorem lk27 (k : Nat) : LinksOK Tryd.prog 9 (L27 k) c27 := (And.intro True.intro (And.intro True.intro True.intro))
theorem fn27 (k : Nat) (args : List AV) (x : mi27.den) (r : mo27.den) (h1 : args.length = mi27.items.length) (h2 : mi27.dec (Th.start args) = some x) (h3 : F27 k x = some r) : CallOK Tryd.prog 27 args (ansOf (outL mo27.items r)) :=
  call_of hm hT (ok_O33 k) (fn := Tryd.f27) (c := c27) Tryd.func27 rfl rfl rfl (lk27 k) rfl (by decide) rfl h1 h2 h3
noncomputable def O27 (k : Nat) : Orc := fun R f args K => bif Nat.beq f 27 then callF mi27 mo27 (F27 k) args K else O33 k R f args K
theorem ok_O27 (k : Nat) : OrcOK (O27 k) (CallOK Tryd.prog) := orc_add (fn27 k) (ok_O33 k)
noncomputable def c26 : Code := Tryd.f26.body.getD .skip
noncomputable def mi26 : Msk := ⟨[(.tmp 0, .val (.st (.cons (.int .i64) (.cons .str (.cons (.int .u64) (.cons (.int .u32) (.cons .str (.cons .str .nil))))))))], []⟩
noncomputable def mo26 : Msk := ⟨[(.res 2, .val (.st (.cons (.int .u32) (.cons .str .nil))))], []⟩
noncomputable def L26 (k : Nat) : LOrc := fun _ _ _ _ => none
noncomputable def F26 (k : Nat) (v : mi26.den) : Option mo26.den := runF TI (O27 k) (L26 k) c26 mi26 mo26 v
theorem lk26 (k : Nat) : LinksOK Tryd.prog 8 (L26 k) c26 := (And.intro True.intro (And.intro True.intro True.intro))
theorem fn26 (k : Nat) (args : List AV) (x : mi26.den) (r : mo26.den) (h1 : args.length = mi26.items.length) (h2 : mi26.dec (Th.start args) = some x) (h3 : F26 k x = some r) : CallOK Tryd.prog 26 args (ansOf (outL mo26.items r)) :=
  call_of hm hT (ok_O27 k) (fn := Tryd.f26) (c := c26) Tryd.func26 rfl rfl rfl (lk26 k) rfl (by decide) rfl h1 h2 h3
noncomputable def O26 (k : Nat) : Orc := fun R f args K => bif Nat.beq f 26 then callF mi26 mo26 (F26 k) args K else O27 k R f args K
theorem ok_O26 (k : Nat) : OrcOK (O26 k) (CallOK Tryd.prog) := orc_add (fn26 k) (ok_O27 k)
noncomputable def c24 : Code := Tryd.f24.body.getD .skip
noncomputable def mi24 : Msk := ⟨[(.tmp 0, .val (.st (.cons (.int .i64) (.cons .str (.cons (.int .u64) (.cons (.int .u32) (.cons .str (.cons .str .nil))))))))], []⟩
noncomputable def mo24 : Msk := ⟨[(.tmp 2, .val .bool)], []⟩
noncomputable def L24 (k : Nat) : LOrc := fun _ _ _ _ => none
noncomputable def F24 (k : Nat) (v : mi24.den) : Option mo24.den := runF TI (O26 k) (L24 k) c24 mi24 mo24 v
theorem lk24 (k : Nat) : LinksOK Tryd.prog 19 (L24 k) c24 := (And.intro True.intro (And.intro True.intro True.intro))
theorem fn24 (k : Nat) (args : List AV) (x : mi24.den) (r : mo24.den) (h1 : args.length = mi24.items.length) (h2 : mi24.dec (Th.start args) = some x) (h3 : F24 k x = some r) : CallOK Tryd.prog 24 args (ansOf (outL mo24.items r)) :=
  call_of hm hT (ok_O26 k) (fn := Tryd.f24) (c := c24) Tryd.func24 rfl rfl rfl (lk24 k) rfl (by decide) rfl h1 h2 h3
noncomputable def O24 (k : Nat) : Orc := fun R f args K => bif Nat.beq f 24 then callF mi24 mo24 (F24 k) args K else O26 k R f args K
theorem ok_O24 (k : Nat) : OrcOK (O24 k) (CallOK Tryd.prog) := orc_add (fn24 k) (ok_O26 k)
noncomputable def c101 : Code := Tryd.f101.body.getD .skip
noncomputable def mi101 : Msk := ⟨[(.tmp 0, .val (.int .i64)), (.tmp 1, .val .str)], []⟩
noncomputable def mo101 : Msk := ⟨[(.tmp 4, .val .bool)], []⟩
noncomputable def L101 (k : Nat) : LOrc := fun _ _ _ _ => none
noncomputable def F101 (k : Nat) (v : mi101.den) : Option mo101.den := runF TI (O24 k) (L101 k) c101 mi101 mo101 v
theorem lk101 (k : Nat) : LinksOK Tryd.prog 42 (L101 k) c101 := (And.intro True.intro (And.intro True.intro (And.intro (And.intro True.intro (And.intro (And.intro True.intro True.intro) True.intro)) (And.intro True.intro True.intro))))
theorem fn101 (k : Nat) (args : List AV) (x : mi101.den) (r : mo101.den) (h1 : args.length = mi101.items.length) (h2 : mi101.dec (Th.start args) = some x) (h3 : F101 k x = some r) : CallOK Tryd.prog 101 args (ansOf (outL mo101.items r)) :=
  call_of hm hT (ok_O24 k) (fn := Tryd.f101) (c := c101) Tryd.func101 rfl rfl rfl (lk101 k) rfl (by decide) rfl h1 h2 h3
noncomputable def O101 (k : Nat) : Orc := fun R f args K => bif Nat.beq f 101 then callF mi101 mo101 (F101 k) args K else O24 k R f args K
theorem ok_O101 (k : Nat) : OrcOK (O101 k) (CallOK Tryd.prog) := orc_add (fn101 k) (ok_O24 k)
noncomputable def c168 : Code := Tryd.f168.body.getD .skip
noncomputable def mi168 : Msk := ⟨[(.tmp 0, .val (.int .u64)), (.tmp 1, .val (.int .i64))], []⟩
noncomputable def mo168 : Msk := ⟨[(.tmp 4, .val .str), (.tmp 5, .val (.int .i64))], []⟩
noncomputable def L168_5 (k : Nat) : LOrc := fun _ _ _ _ => none
noncomputable def b168_5 : Code := (findLoop 5 c168).getD .skip
noncomputable def m168_5 : Msk := ⟨[(.tmp 0, .val (.int .u64)), (.tmp 1, .val (.int .i64)), (.tmp 6, .val .str), (.tmp 7, .val (.int .i64))], []⟩
noncomputable def x168_5 : List (X × Msk) := [(.exit 0, ⟨[(.tmp 0, .val (.int .u64)), (.tmp 6, .val .str)], []⟩)]
noncomputable def F168_5 (k : Nat) : Nat → m168_5.den → Option (denE x168_5)
  | 0, _ => none
  | j + 1, v => round TI (O101 k) (L168_5 k) b168_5 m168_5 x168_5 (F168_5 k j) v
theorem lk168_5_ (k : Nat) : LinksOK Tryd.prog 32 (L168_5 k) b168_5 := (And.intro (And.intro True.intro (And.intro True.intro True.intro)) (And.intro (And.intro True.intro True.intro) True.intro))
noncomputable def L168 (k : Nat) : LOrc := fun R lk s K => match lk with
  | .loop r => bif Nat.beq r 5 then link m168_5 x168_5 (F168_5 k k) s K else none
  | .label l => none
theorem lk_L168_5 (k : Nat) : LoopOK Tryd.prog 32 (L168 k) b168_5 := loopOK_of hm hT (ok_O101 k) (fun _ _ _ h => h) rfl (lk168_5_ k) rfl rfl (F := F168_5 k) (fun _ => rfl) (fun _ _ => rfl) (n := k) fun _ _ _ => rfl
noncomputable def F168 (k : Nat) (v : mi168.den) : Option mo168.den := runF TI (O101 k) (L168 k) c168 mi168 mo168 v
theorem lk168 (k : Nat) : LinksOK Tryd.prog 32 (L168 k) c168 := (And.intro True.intro (And.intro (And.intro True.intro (And.intro (And.intro True.intro True.intro) True.intro)) (And.intro True.intro (And.intro (And.intro True.intro (lk_L168_5 k)) (And.intro (And.intro True.intro (And.intro (And.intro True.intro True.intro) True.intro)) (And.intro True.intro True.intro))))))
theorem fn168 (k : Nat) (args : List AV) (x : mi168.den) (r : mo168.den) (h1 : args.length = mi168.items.length) (h2 : mi168.dec (Th.start args) = some x) (h3 : F168 k x = some r) : CallOK Tryd.prog 168 args (ansOf (outL mo168.items r)) :=
  call_of hm hT (ok_O101 k) (fn := Tryd.f168) (c := c168) Tryd.func168 rfl rfl rfl (lk168 k) rfl (by decide) rfl h1 h2 h3
noncomputable def O168 (k : Nat) : Orc := fun R f args K => bif Nat.beq f 168 then callF mi168 mo168 (F168 k) args K else O101 k R f args K
theorem ok_O168 (k : Nat) : OrcOK (O168 k) (CallOK Tryd.prog) := orc_add (fn168 k) (ok_O101 k)
noncomputable def c106 : Code := Tryd.f106.body.getD .skip
noncomputable def mi106 : Msk := ⟨[(.tmp 0, .val (.int .u64)), (.tmp 1, .val (.int .i64))], []⟩
noncomputable def mo106 : Msk := ⟨[(.tmp 4, .val .str)], []⟩
noncomputable def L106 (k : Nat) : LOrc := fun _ _ _ _ => none
noncomputable def F106 (k : Nat) (v : mi106.den) : Option mo106.den := runF TI (O168 k) (L106 k) c106 mi106 mo106 v
theorem lk106 (k : Nat) : LinksOK Tryd.prog 14 (L106 k) c106 := (And.intro True.intro (And.intro True.intro (And.intro True.intro True.intro)))
theorem fn106 (k : Nat) (args : List AV) (x : mi106.den) (r : mo106.den) (h1 : args.length = mi106.items.length) (h2 : mi106.dec (Th.start args) = some x) (h3 : F106 k x = some r) : CallOK Tryd.prog 106 args (ansOf (outL mo106.items r)) :=
  call_of hm hT (ok_O168 k) (fn := Tryd.f106) (c := c106) Tryd.func106 rfl rfl rfl (lk106 k) rfl (by decide) rfl h1 h2 h3
noncomputable def O106 (k : Nat) : Orc := fun R f args K => bif Nat.beq f 106 then callF mi106 mo106 (F106 k) args K else O168 k R f args K
theorem ok_O106 (k : Nat) : OrcOK (O106 k) (CallOK Tryd.prog) := orc_add (fn106 k) (ok_O168 k)
noncomputable def c3 : Code := Tryd.f3.body.getD .skip
noncomputable def mi3 : Msk := ⟨[(.tmp 0, .val (.st (.cons (.int .i64) (.cons .str (.cons (.int .u64) (.cons (.int .u32) (.cons .str (.cons .str .nil)))))))), (.tmp 1, .val (.st (.cons (.int .u32) (.cons .str .nil)))), (.tmp 2, .val (.st (.cons (.int .u32) (.cons .str .nil)))), (.tmp 3, .val (.int .i64))], []⟩
noncomputable def mo3 : Msk := ⟨[(.tmp 8, .val .bool)], []⟩
noncomputable def L3 (k : Nat) : LOrc := fun _ _ _ _ => none
noncomputable def F3 (k : Nat) (v : mi3.den) : Option mo3.den := runF TI (O106 k) (L3 k) c3 mi3 mo3 v
theorem lk3 (k : Nat) : LinksOK Tryd.prog 57 (L3 k) c3 := (And.intro True.intro (And.intro (And.intro True.intro (And.intro (And.intro True.intro True.intro) True.intro)) (And.intro (And.intro True.intro (And.intro (And.intro True.intro True.intro) True.intro)) (And.intro True.intro True.intro))))
theorem fn3 (k : Nat) (args : List AV) (x : mi3.den) (r : mo3.den) (h1 : args.length = mi3.items.length) (h2 : mi3.dec (Th.start args) = some x) (h3 : F3 k x = some r) : CallOK Tryd.prog 3 args (ansOf (outL mo3.items r)) :=
  call_of hm hT (ok_O106 k) (fn := Tryd.f3) (c := c3) Tryd.func3 rfl rfl rfl (lk3 k) rfl (by decide) rfl h1 h2 h3
noncomputable def O3 (k : Nat) : Orc := fun R f args K => bif Nat.beq f 3 then callF mi3 mo3 (F3 k) args K else O106 k R f args K
theorem ok_O3 (k : Nat) : OrcOK (O3 k) (CallOK Tryd.prog) := orc_add (fn3 k) (ok_O106 k)
noncomputable def c4 : Code := Tryd.f4.body.getD .skip
noncomputable def mi4 : Msk := ⟨[(.tmp 0, .val (.st (.cons (.int .u32) (.cons .str .nil)))), (.tmp 1, .val (.st (.cons (.int .u32) (.cons .str .nil)))), (.tmp 2, .val (.st (.cons (.int .u32) (.cons .str .nil))))], []⟩
noncomputable def mo4 : Msk := ⟨[(.tmp 6, .val .bool)], []⟩
noncomputable def L4 (k : Nat) : LOrc := fun _ _ _ _ => none
noncomputable def F4 (k : Nat) (v : mi4.den) : Option mo4.den := runF TI (O3 k) (L4 k) c4 mi4 mo4 v
theorem lk4 (k : Nat) : LinksOK Tryd.prog 72 (L4 k) c4 := (And.intro True.intro (And.intro (And.intro True.intro (And.intro (And.intro True.intro True.intro) True.intro)) (And.intro (And.intro True.intro (And.intro (And.intro True.intro True.intro) True.intro)) (And.intro True.intro (And.intro True.intro True.intro)))))
theorem fn4 (k : Nat) (args : List AV) (x : mi4.den) (r : mo4.den) (h1 : args.length = mi4.items.length) (h2 : mi4.dec (Th.start args) = some x) (h3 : F4 k x = some r) : CallOK Tryd.prog 4 args (ansOf (outL mo4.items r)) :=
  call_of hm hT (ok_O3 k) (fn := Tryd.f4) (c := c4) Tryd.func4 rfl rfl rfl (lk4 k) rfl (by decide) rfl h1 h2 h3
noncomputable def O4 (k : Nat) : Orc := fun R f args K => bif Nat.beq f 4 then callF mi4 mo4 (F4 k) args K else O3 k R f args K
theorem ok_O4 (k : Nat) : OrcOK (O4 k) (CallOK Tryd.prog) := orc_add (fn4 k) (ok_O3 k)
noncomputable def c5 : Code := Tryd.f5.body.getD .skip
noncomputable def mi5 : Msk := ⟨[(.tmp 0, .val (.st (.cons (.int .i64) (.cons .str (.cons (.int .u64) (.cons (.int .u32) (.cons .str (.cons .str .nil)))))))), (.tmp 1, .val (.int .u8)), (.tmp 2, .val (.int .u8))], []⟩
noncomputable def mo5 : Msk := ⟨[(.tmp 6, .val .bool)], []⟩
noncomputable def L5 (k : Nat) : LOrc := fun _ _ _ _ => none
noncomputable def F5 (k : Nat) (v : mi5.den) : Option mo5.den := runF TI (O4 k) (L5 k) c5 mi5 mo5 v
theorem lk5 (k : Nat) : LinksOK Tryd.prog 60 (L5 k) c5 := (And.intro True.intro (And.intro (And.intro True.intro (And.intro (And.intro True.intro True.intro) True.intro)) (And.intro (And.intro True.intro (And.intro (And.intro True.intro True.intro) True.intro)) (And.intro True.intro (And.intro True.intro (And.intro True.intro (And.intro True.intro (And.intro True.intro True.intro))))))))
theorem fn5 (k : Nat) (args : List AV) (x : mi5.den) (r : mo5.den) (h1 : args.length = mi5.items.length) (h2 : mi5.dec (Th.start args) = some x) (h3 : F5 k x = some r) : CallOK Tryd.prog 5 args (ansOf (outL mo5.items r)) :=
  call_of hm hT (ok_O4 k) (fn := Tryd.f5) (c := c5) Tryd.func5 rfl rfl rfl (lk5 k) rfl (by decide) rfl h1 h2 h3
noncomputable def O5 (k : Nat) : Orc := fun R f args K => bif Nat.beq f 5 then callF mi5 mo5 (F5 k) args K else O4 k R f args K
theorem ok_O5 (k : Nat) : OrcOK (O5 k) (CallOK Tryd.prog) := orc_add (fn5 k) (ok_O4 k)
noncomputable def c37 : Code := Tryd.f37.body.getD .skip
noncomputable def mi37 : Msk := ⟨[(.tmp 0, .val (.st (.cons (.int .i64) (.cons .str (.cons (.int .u64) (.cons (.int .u32) (.cons .str (.cons .str .nil))))))))], []⟩
noncomputable def mo37 : Msk := ⟨[(.res 2, .val (.st (.cons .str (.cons (.slice (.st (.cons (.int .i64) (.cons .str .nil)))) .nil)))), (.tmp 3, .val (.int .i64))], []⟩
noncomputable def L37 (k : Nat) : LOrc := fun _ _ _ _ => none
noncomputable def F37 (k : Nat) (v : mi37.den) : Option mo37.den := runF TI (O5 k) (L37 k) c37 mi37 mo37 v
theorem lk37 (k : Nat) : LinksOK Tryd.prog 14 (L37 k) c37 := (And.intro True.intro (And.intro (And.intro True.intro (And.intro (And.intro True.intro True.intro) True.intro)) (And.intro True.intro True.intro)))
theorem fn37 (k : Nat) (args : List AV) (x : mi37.den) (r : mo37.den) (h1 : args.length = mi37.items.length) (h2 : mi37.dec (Th.start args) = some x) (h3 : F37 k x = some r) : CallOK Tryd.prog 37 args (ansOf (outL mo37.items r)) :=
  call_of hm hT (ok_O5 k) (fn := Tryd.f37) (c := c37) Tryd.func37 rfl rfl rfl (lk37 k) rfl (by decide) rfl h1 h2 h3
noncomputable def O37 (k : Nat) : Orc := fun R f args K => bif Nat.beq f 37 then callF mi37 mo37 (F37 k) args K else O5 k R f args K
theorem ok_O37 (k : Nat) : OrcOK (O37 k) (CallOK Tryd.prog) := orc_add (fn37 k) (ok_O5 k)
noncomputable def c113 : Code := Tryd.f113.body.getD .skip
noncomputable def mi113 : Msk := ⟨[(.tmp 0, .val .str)], []⟩
noncomputable def mo113 : Msk := ⟨[(.tmp 2, .val (.int .i64))], []⟩
noncomputable def L113_2 (k : Nat) : LOrc := fun _ _ _ _ => none
noncomputable def b113_2 : Code := (findLoop 2 c113).getD .skip
noncomputable def m113_2 : Msk := ⟨[(.tmp 0, .val .str), (.tmp 3, .val (.int .i64))], []⟩
noncomputable def x113_2 : List (X × Msk) := [(.exit 0, ⟨[], []⟩), (.ret, ⟨[(.tmp 2, .val (.int .i64))], []⟩)]
noncomputable def F113_2 (k : Nat) : Nat → m113_2.den → Option (denE x113_2)
  | 0, _ => none
  | j + 1, v => round TI (O37 k) (L113_2 k) b113_2 m113_2 x113_2 (F113_2 k j) v
theorem lk113_2_ (k : Nat) : LinksOK Tryd.prog 13 (L113_2 k) b113_2 := (And.intro (And.intro True.intro (And.intro True.intro True.intro)) (And.intro (And.intro True.intro (And.intro (And.intro True.intro True.intro) True.intro)) True.intro))
noncomputable def L113 (k : Nat) : LOrc := fun R lk s K => match lk with
  | .loop r => bif Nat.beq r 2 then link m113_2 x113_2 (F113_2 k k) s K else none
  | .label l => none
theorem lk_L113_2 (k : Nat) : LoopOK Tryd.prog 13 (L113 k) b113_2 := loopOK_of hm hT (ok_O37 k) (fun _ _ _ h => h) rfl (lk113_2_ k) rfl rfl (F := F113_2 k) (fun _ => rfl) (fun _ _ => rfl) (n := k) fun _ _ _ => rfl
noncomputable def F113 (k : Nat) (v : mi113.den) : Option mo113.den := runF TI (O37 k) (L113 k) c113 mi113 mo113 v
theorem lk113 (k : Nat) : LinksOK Tryd.prog 13 (L113 k) c113 := (And.intro True.intro (And.intro (And.intro True.intro (lk_L113_2 k)) (And.intro True.intro True.intro)))
theorem fn113 (k : Nat) (args : List AV) (x : mi113.den) (r : mo113.den) (h1 : args.length = mi113.items.length) (h2 : mi113.dec (Th.start args) = some x) (h3 : F113 k x = some r) : CallOK Tryd.prog 113 args (ansOf (outL mo113.items r)) :=
  call_of hm hT (ok_O37 k) (fn := Tryd.f113) (c := c113) Tryd.func113 rfl rfl rfl (lk113 k) rfl (by decide) rfl h1 h2 h3
noncomputable def O113 (k : Nat) : Orc := fun R f args K => bif Nat.beq f 113 then callF mi113 mo113 (F113 k) args K else O37 k R f args K
theorem ok_O113 (k : Nat) : OrcOK (O113 k) (CallOK Tryd.prog) := orc_add (fn113 k) (ok_O37 k)
noncomputable def c174 : Code := Tryd.f174.body.getD .skip
noncomputable def mi174 : Msk := ⟨[(.tmp 0, .val (.st (.cons (.int .i64) (.cons .str .nil)))), (.tmp 1, .val (.ref (.cons (.int .i64) .nil)))], []⟩
noncomputable def mo174 : Msk := ⟨[(.tmp 3, .val .bool)], []⟩
noncomputable def L174 (k : Nat) : LOrc := fun _ _ _ _ => none
noncomputable def F174 (k : Nat) (v : mi174.den) : Option mo174.den := runF TI (O113 k) (L174 k) c174 mi174 mo174 v
theorem lk174 (k : Nat) : LinksOK Tryd.prog 8 (L174 k) c174 := (And.intro True.intro (And.intro True.intro True.intro))
theorem fn174 (k : Nat) (args : List AV) (x : mi174.den) (r : mo174.den) (h1 : args.length = mi174.items.length) (h2 : mi174.dec (Th.start args) = some x) (h3 : F174 k x = some r) : CallOK Tryd.prog 174 args (ansOf (outL mo174.items r)) :=
  call_of hm hT (ok_O113 k) (fn := Tryd.f174) (c := c174) Tryd.func174 rfl rfl rfl (lk174 k) rfl (by decide) rfl h1 h2 h3
noncomputable def O174 (k : Nat) : Orc := fun R f args K => bif Nat.beq f 174 then callF mi174 mo174 (F174 k) args K else O113 k R f args K
theorem ok_O174 (k : Nat) : OrcOK (O174 k) (CallOK Tryd.prog) := orc_add (fn174 k) (ok_O113 k)
noncomputable def c7000000 : Code := Tryd.f173.body.getD .skip
noncomputable def mi7000000 : Msk := ⟨[(.tmp 0, .val (.slice (.st (.cons (.int .i64) (.cons .str .nil))))), (.tmp 1, .val (.clo 174 (.cons (.ref (.cons (.int .i64) .nil)) .nil)))], []⟩
noncomputable def mo7000000 : Msk := ⟨[(.tmp 4, .val (.int .i64))], []⟩
noncomputable def L7000000_2 (k : Nat) : LOrc := fun _ _ _ _ => none
noncomputable def b7000000_2 : Code := (findLoop 2 c7000000).getD .skip
noncomputable def m7000000_2 : Msk := ⟨[(.tmp 0, .val (.slice (.st (.cons (.int .i64) (.cons .str .nil))))), (.tmp 1, .val (.clo 174 (.cons (.ref (.cons (.int .i64) .nil)) .nil))), (.tmp 7, .val (.int .i64)), (.tmp 8, .val (.int .i64))], []⟩
noncomputable def x7000000_2 : List (X × Msk) := [(.exit 0, ⟨[], []⟩), (.ret, ⟨[(.tmp 4, .val (.int .i64))], []⟩)]
noncomputable def F7000000_2 (k : Nat) : Nat → m7000000_2.den → Option (denE x7000000_2)
  | 0, _ => none
  | j + 1, v => round TI (O174 k) (L7000000_2 k) b7000000_2 m7000000_2 x7000000_2 (F7000000_2 k j) v
theorem lk7000000_2_ (k : Nat) : LinksOK Tryd.prog 19 (L7000000_2 k) b7000000_2 := (And.intro True.intro (And.intro (And.intro True.intro True.intro) (And.intro (And.intro True.intro (And.intro True.intro (And.intro (And.intro True.intro True.intro) True.intro))) True.intro)))
noncomputable def L7000000 (k : Nat) : LOrc := fun R lk s K => match lk with
  | .loop r => bif Nat.beq r 2 then link m7000000_2 x7000000_2 (F7000000_2 k k) s K else none
  | .label l => none
theorem lk_L7000000_2 (k : Nat) : LoopOK Tryd.prog 19 (L7000000 k) b7000000_2 := loopOK_of hm hT (ok_O174 k) (fun _ _ _ h => h) rfl (lk7000000_2_ k) rfl rfl (F := F7000000_2 k) (fun _ => rfl) (fun _ _ => rfl) (n := k) fun _ _ _ => rfl
noncomputable def F7000000 (k : Nat) (v : mi7000000.den) : Option mo7000000.den := runF TI (O174 k) (L7000000 k) c7000000 mi7000000 mo7000000 v
theorem lk7000000 (k : Nat) : LinksOK Tryd.prog 19 (L7000000 k) c7000000 := (And.intro True.intro (And.intro (And.intro True.intro (lk_L7000000_2 k)) (And.intro True.intro True.intro)))
theorem fn7000000 (k : Nat) (args : List AV) (x : mi7000000.den) (r : mo7000000.den) (h1 : args.length = mi7000000.items.length) (h2 : mi7000000.dec (Th.start args) = some x) (h3 : F7000000 k x = some r) : CallOK Tryd.prog 173 args (ansOf (outL mo7000000.items r)) :=
  call_of hm hT (ok_O174 k) (fn := Tryd.f173) (c := c7000000) Tryd.func173 rfl rfl rfl (lk7000000 k) rfl (by decide) rfl h1 h2 h3
noncomputable def O7000000 (k : Nat) : Orc := fun R f args K => bif (bif Nat.beq f 173 then isClo 1 174 args else false) then callF mi7000000 mo7000000 (F7000000 k) args K else O174 k R f args K
theorem ok_O7000000 (k : Nat) : OrcOK (O7000000 k) (CallOK Tryd.prog) := orc_addP (fn7000000 k) (ok_O174 k)
noncomputable def c115 : Code := Tryd.f115.body.getD .skip
noncomputable def mi115 : Msk := ⟨[(.tmp 0, .val (.st (.cons .str (.cons (.slice (.st (.cons (.int .i64) (.cons .str .nil)))) .nil)))), (.tmp 1, .val (.int .i64))], []⟩
noncomputable def mo115 : Msk := ⟨[(.tmp 4, .val .str), (.tmp 5, .val .bool)], []⟩
noncomputable def L115 (k : Nat) : LOrc := fun _ _ _ _ => none
noncomputable def F115 (k : Nat) (v : mi115.den) : Option mo115.den := runF TI (O7000000 k) (L115 k) c115 mi115 mo115 v
theorem lk115 (k : Nat) : LinksOK Tryd.prog 19 (L115 k) c115 := (And.intro True.intro (And.intro True.intro (And.intro (And.intro True.intro (And.intro (And.intro True.intro True.intro) True.intro)) (And.intro True.intro True.intro))))
theorem fn115 (k : Nat) (args : List AV) (x : mi115.den) (r : mo115.den) (h1 : args.length = mi115.items.length) (h2 : mi115.dec (Th.start args) = some x) (h3 : F115 k x = some r) : CallOK Tryd.prog 115 args (ansOf (outL mo115.items r)) :=
  call_of hm hT (ok_O7000000 k) (fn := Tryd.f115) (c := c115) Tryd.func115 rfl rfl rfl (lk115 k) rfl (by decide) rfl h1 h2 h3
noncomputable def O115 (k : Nat) : Orc := fun R f args K => bif Nat.beq f 115 then callF mi115 mo115 (F115 k) args K else O7000000 k R f args K
theorem ok_O115 (k : Nat) : OrcOK (O115 k) (CallOK Tryd.prog) := orc_add (fn115 k) (ok_O7000000 k)
noncomputable def c114 : Code := Tryd.f114.body.getD .skip
noncomputable def mi114 : Msk := ⟨[(.tmp 0, .val (.st (.cons .str (.cons (.slice (.st (.cons (.int .i64) (.cons .str .nil)))) .nil)))), (.tmp 1, .val (.int .i64))], []⟩
noncomputable def mo114 : Msk := ⟨[(.tmp 4, .val (.int .u64))], []⟩
noncomputable def L114 (k : Nat) : LOrc := fun _ _ _ _ => none
noncomputable def F114 (k : Nat) (v : mi114.den) : Option mo114.den := runF TI (O115 k) (L114 k) c114 mi114 mo114 v
theorem lk114 (k : Nat) : LinksOK Tryd.prog 21 (L114 k) c114 := (And.intro True.intro (And.intro True.intro (And.intro True.intro (And.intro True.intro True.intro))))
theorem fn114 (k : Nat) (args : List AV) (x : mi114.den) (r : mo114.den) (h1 : args.length = mi114.items.length) (h2 : mi114.dec (Th.start args) = some x) (h3 : F114 k x = some r) : CallOK Tryd.prog 114 args (ansOf (outL mo114.items r)) :=
  call_of hm hT (ok_O115 k) (fn := Tryd.f114) (c := c114) Tryd.func114 rfl rfl rfl (lk114 k) rfl (by decide) rfl h1 h2 h3
noncomputable def O114 (k : Nat) : Orc := fun R f args K => bif Nat.beq f 114 then callF mi114 mo114 (F114 k) args K else O115 k R f args K
theorem ok_O114 (k : Nat) : OrcOK (O114 k) (CallOK Tryd.prog) := orc_add (fn114 k) (ok_O115 k)
noncomputable def c116 : Code := Tryd.f116.body.getD .skip
noncomputable def mi116 : Msk := ⟨[(.tmp 0, .val (.st (.cons .str (.cons (.slice (.st (.cons (.int .i64) (.cons .str .nil)))) .nil)))), (.tmp 1, .val (.st (.cons (.int .i64) (.cons .str (.cons (.int .u64) (.cons (.int .u32) (.cons .str (.cons .str .nil))))))))], []⟩
noncomputable def mo116 : Msk := ⟨[(.tmp 4, .val .bool)], []⟩
noncomputable def L116_5 (k : Nat) : LOrc := fun _ _ _ _ => none
noncomputable def b116_5 : Code := (findLoop 5 c116).getD .skip
noncomputable def m116_5 : Msk := ⟨[(.tmp 2, .ptr 2 0), (.tmp 16, .row false (.st (.cons (.int .i64) (.cons .str .nil)))), (.tmp 17, .val (.int .i64)), (.tmp 18, .val (.int .i64)), (.cell 2 0, .val .str), (.cell 2 1, .val (.slice (.st (.cons (.int .i64) (.cons .str .nil)))))], [(2, 2)]⟩
noncomputable def x116_5 : List (X × Msk) := [(.exit 0, ⟨[], []⟩), (.ret, ⟨[(.tmp 4, .val .bool)], []⟩)]
noncomputable def F116_5 (k : Nat) : Nat → m116_5.den → Option (denE x116_5)
  | 0, _ => none
  | j + 1, v => round TI (O114 k) (L116_5 k) b116_5 m116_5 x116_5 (F116_5 k j) v
theorem lk116_5_ (k : Nat) : LinksOK Tryd.prog 33 (L116_5 k) b116_5 := (And.intro True.intro (And.intro (And.intro True.intro True.intro) (And.intro (And.intro True.intro (And.intro True.intro (And.intro (And.intro True.intro True.intro) True.intro))) True.intro)))
noncomputable def L116 (k : Nat) : LOrc := fun R lk s K => match lk with
  | .loop r => bif Nat.beq r 5 then link m116_5 x116_5 (F116_5 k k) s K else none
  | .label l => none
theorem lk_L116_5 (k : Nat) : LoopOK Tryd.prog 33 (L116 k) b116_5 := loopOK_of hm hT (ok_O114 k) (fun _ _ _ h => h) rfl (lk116_5_ k) rfl rfl (F := F116_5 k) (fun _ => rfl) (fun _ _ => rfl) (n := k) fun _ _ _ => rfl
noncomputable def F116 (k : Nat) (v : mi116.den) : Option mo116.den := runF TI (O114 k) (L116 k) c116 mi116 mo116 v
theorem lk116 (k : Nat) : LinksOK Tryd.prog 33 (L116 k) c116 := (And.intro True.intro (And.intro True.intro (And.intro (And.intro True.intro (And.intro (And.intro True.intro True.intro) True.intro)) (And.intro (And.intro True.intro (lk_L116_5 k)) (And.intro True.intro True.intro)))))
theorem fn116 (k : Nat) (args : List AV) (x : mi116.den) (r : mo116.den) (h1 : args.length = mi116.items.length) (h2 : mi116.dec (Th.start args) = some x) (h3 : F116 k x = some r) : CallOK Tryd.prog 116 args (ansOf (outL mo116.items r)) :=
  call_of hm hT (ok_O114 k) (fn := Tryd.f116) (c := c116) Tryd.func116 rfl rfl rfl (lk116 k) rfl (by decide) rfl h1 h2 h3
noncomputable def O116 (k : Nat) : Orc := fun R f args K => bif Nat.beq f 116 then callF mi116 mo116 (F116 k) args K else O114 k R f args K
theorem ok_O116 (k : Nat) : OrcOK (O116 k) (CallOK Tryd.prog) := orc_add (fn116 k) (ok_O114 k)
noncomputable def c40 : Code := Tryd.f40.body.getD .skip
noncomputable def mi40 : Msk := ⟨[(.tmp 0, .val (.st (.cons .str (.cons (.slice (.st (.cons (.int .i64) (.cons .str .nil)))) .nil))))], []⟩
noncomputable def mo40 : Msk := ⟨[(.res 2, .val (.st (.cons (.int .i64) (.cons .str (.cons (.int .u64) (.cons (.int .u32) (.cons .str (.cons .str .nil)))))))), (.tmp 3, .val (.int .i64))], []⟩
noncomputable def L40 (k : Nat) : LOrc := fun _ _ _ _ => none
noncomputable def F40 (k : Nat) (v : mi40.den) : Option mo40.den := runF TI (O116 k) (L40 k) c40 mi40 mo40 v
theorem lk40 (k : Nat) : LinksOK Tryd.prog 84 (L40 k) c40 := (And.intro True.intro (And.intro (And.intro True.intro (And.intro (And.intro True.intro True.intro) True.intro)) (And.intro True.intro (And.intro True.intro (And.intro True.intro (And.intro True.intro (And.intro True.intro (And.intro (And.intro (And.intro True.intro (And.intro True.intro True.intro)) (And.intro (And.intro True.intro True.intro) (And.intro True.intro (And.intro (And.intro True.intro True.intro) (And.intro True.intro (And.intro (And.intro True.intro True.intro) True.intro)))))) (And.intro True.intro True.intro)))))))))
theorem fn40 (k : Nat) (args : List AV) (x : mi40.den) (r : mo40.den) (h1 : args.length = mi40.items.length) (h2 : mi40.dec (Th.start args) = some x) (h3 : F40 k x = some r) : CallOK Tryd.prog 40 args (ansOf (outL mo40.items r)) :=
  call_of hm hT (ok_O116 k) (fn := Tryd.f40) (c := c40) Tryd.func40 rfl rfl rfl (lk40 k) rfl (by decide) rfl h1 h2 h3
noncomputable def O40 (k : Nat) : Orc := fun R f args K => bif Nat.beq f 40 then callF mi40 mo40 (F40 k) args K else O116 k R f args K
theorem ok_O40 (k : Nat) : OrcOK (O40 k) (CallOK Tryd.prog) := orc_add (fn40 k) (ok_O116 k)
noncomputable def c34 : Code := Tryd.f34.body.getD .skip
noncomputable def mi34 : Msk := ⟨[], []⟩
noncomputable def mo34 : Msk := ⟨[(.tmp 0, .val .bool)], []⟩
noncomputable def L34 (k : Nat) : LOrc := fun _ _ _ _ => none
noncomputable def F34 (k : Nat) (v : mi34.den) : Option mo34.den := runF TI (O40 k) (L34 k) c34 mi34 mo34 v
theorem lk34 (k : Nat) : LinksOK Tryd.prog 69 (L34 k) c34 := (And.intro True.intro (And.intro True.intro (And.intro True.intro (And.intro True.intro (And.intro True.intro (And.intro True.intro True.intro))))))
theorem fn34 (k : Nat) (args : List AV) (x : mi34.den) (r : mo34.den) (h1 : args.length = mi34.items.length) (h2 : mi34.dec (Th.start args) = some x) (h3 : F34 k x = some r) : CallOK Tryd.prog 34 args (ansOf (outL mo34.items r)) :=
  call_of hm hT (ok_O40 k) (fn := Tryd.f34) (c := c34) Tryd.func34 rfl rfl rfl (lk34 k) rfl (by decide) rfl h1 h2 h3
noncomputable def O34 (k : Nat) : Orc := fun R f args K => bif Nat.beq f 34 then callF mi34 mo34 (F34 k) args K else O40 k R f args K
theorem ok_O34 (k : Nat) : OrcOK (O34 k) (CallOK Tryd.prog) := orc_add (fn34 k) (ok_O40 k)
noncomputable def c35 : Code := Tryd.f35.body.getD .skip
noncomputable def mi35 : Msk := ⟨[(.tmp 0, .val (.st (.cons .str (.cons (.slice (.st (.cons (.int .i64) (.cons .str .nil)))) .nil))))], []⟩
noncomputable def mo35 : Msk := ⟨[(.tmp 2, .val .bool)], []⟩
noncomputable def L35_2 (k : Nat) : LOrc := fun _ _ _ _ => none
noncomputable def b35_2 : Code := (findLoop 2 c35).getD .skip
noncomputable def m35_2 : Msk := ⟨[(.tmp 1, .ptr 1 0), (.tmp 3, .val (.int .i64)), (.cell 1 0, .val .str), (.cell 1 1, .val (.slice (.st (.cons (.int .i64) (.cons .str .nil)))))], [(1, 2)]⟩
noncomputable def x35_2 : List (X × Msk) := [(.exit 0, ⟨[(.tmp 1, .ptr 1 0), (.cell 1 0, .val .str), (.cell 1 1, .val (.slice (.st (.cons (.int .i64) (.cons .str .nil)))))], [(1, 2)]⟩), (.ret, ⟨[(.tmp 2, .val .bool)], []⟩)]
noncomputable def F35_2 (k : Nat) : Nat → m35_2.den → Option (denE x35_2)
  | 0, _ => none
  | j + 1, v => round TI (O34 k) (L35_2 k) b35_2 m35_2 x35_2 (F35_2 k j) v
theorem lk35_2_ (k : Nat) : LinksOK Tryd.prog 33 (L35_2 k) b35_2 := (And.intro (And.intro True.intro (And.intro True.intro True.intro)) (And.intro (And.intro True.intro (And.intro (And.intro True.intro True.intro) True.intro)) True.intro))
noncomputable def L35 (k : Nat) : LOrc := fun R lk s K => match lk with
  | .loop r => bif Nat.beq r 2 then link m35_2 x35_2 (F35_2 k k) s K else none
  | .label l => none
theorem lk_L35_2 (k : Nat) : LoopOK Tryd.prog 33 (L35 k) b35_2 := loopOK_of hm hT (ok_O34 k) (fun _ _ _ h => h) rfl (lk35_2_ k) rfl rfl (F := F35_2 k) (fun _ => rfl) (fun _ _ => rfl) (n := k) fun _ _ _ => rfl
noncomputable def F35 (k : Nat) (v : mi35.den) : Option mo35.den := runF TI (O34 k) (L35 k) c35 mi35 mo35 v
theorem lk35 (k : Nat) : LinksOK Tryd.prog 33 (L35 k) c35 := (And.intro True.intro (And.intro (And.intro True.intro (lk_L35_2 k)) (And.intro True.intro True.intro)))
theorem fn35 (k : Nat) (args : List AV) (x : mi35.den) (r : mo35.den) (h1 : args.length = mi35.items.length) (h2 : mi35.dec (Th.start args) = some x) (h3 : F35 k x = some r) : CallOK Tryd.prog 35 args (ansOf (outL mo35.items r)) :=
  call_of hm hT (ok_O34 k) (fn := Tryd.f35) (c := c35) Tryd.func35 rfl rfl rfl (lk35 k) rfl (by decide) rfl h1 h2 h3
noncomputable def O35 (k : Nat) : Orc := fun R f args K => bif Nat.beq f 35 then callF mi35 mo35 (F35 k) args K else O34 k R f args K
theorem ok_O35 (k : Nat) : OrcOK (O35 k) (CallOK Tryd.prog) := orc_add (fn35 k) (ok_O34 k)
noncomputable def c43 : Code := Tryd.f43.body.getD .skip
noncomputable def mi43 : Msk := ⟨[(.tmp 0, .val (.int .i64))], []⟩
noncomputable def mo43 : Msk := ⟨[(.tmp 2, .val .bool)], []⟩
noncomputable def L43 (k : Nat) : LOrc := fun _ _ _ _ => none
noncomputable def F43 (k : Nat) (v : mi43.den) : Option mo43.den := runF TI (O35 k) (L43 k) c43 mi43 mo43 v
theorem lk43 (k : Nat) : LinksOK Tryd.prog 17 (L43 k) c43 := (And.intro True.intro (And.intro True.intro True.intro))
theorem fn43 (k : Nat) (args : List AV) (x : mi43.den) (r : mo43.den) (h1 : args.length = mi43.items.length) (h2 : mi43.dec (Th.start args) = some x) (h3 : F43 k x = some r) : CallOK Tryd.prog 43 args (ansOf (outL mo43.items r)) :=
  call_of hm hT (ok_O35 k) (fn := Tryd.f43) (c := c43) Tryd.func43 rfl rfl rfl (lk43 k) rfl (by decide) rfl h1 h2 h3
noncomputable def O43 (k : Nat) : Orc := fun R f args K => bif Nat.beq f 43 then callF mi43 mo43 (F43 k) args K else O35 k R f args K
theorem ok_O43 (k : Nat) : OrcOK (O43 k) (CallOK Tryd.prog) := orc_add (fn43 k) (ok_O35 k)
noncomputable def c110 : Code := Tryd.f110.body.getD .skip
noncomputable def mi110 : Msk := ⟨[(.tmp 0, .val .str)], []⟩
noncomputable def mo110 : Msk := ⟨[(.tmp 2, .val .bool)], []⟩
noncomputable def L110_5 (k : Nat) : LOrc := fun _ _ _ _ => none
noncomputable def b110_5 : Code := (findLoop 5 c110).getD .skip
noncomputable def m110_5 : Msk := ⟨[(.tmp 0, .val .str), (.tmp 3, .val (.int .i64)), (.tmp 4, .val (.int .i64))], []⟩
noncomputable def x110_5 : List (X × Msk) := [(.exit 0, ⟨[(.tmp 3, .val (.int .i64))], []⟩)]
noncomputable def F110_5 (k : Nat) : Nat → m110_5.den → Option (denE x110_5)
  | 0, _ => none
  | j + 1, v => round TI (O43 k) (L110_5 k) b110_5 m110_5 x110_5 (F110_5 k j) v
theorem lk110_5_ (k : Nat) : LinksOK Tryd.prog 38 (L110_5 k) b110_5 := (And.intro (And.intro True.intro (And.intro True.intro True.intro)) (And.intro (And.intro True.intro (And.intro (And.intro True.intro (And.intro (And.intro True.intro (And.intro True.intro (And.intro True.intro True.intro))) True.intro)) True.intro)) True.intro))
noncomputable def L110 (k : Nat) : LOrc := fun R lk s K => match lk with
  | .loop r => bif Nat.beq r 5 then link m110_5 x110_5 (F110_5 k k) s K else none
  | .label l => none
theorem lk_L110_5 (k : Nat) : LoopOK Tryd.prog 38 (L110 k) b110_5 := loopOK_of hm hT (ok_O43 k) (fun _ _ _ h => h) rfl (lk110_5_ k) rfl rfl (F := F110_5 k) (fun _ => rfl) (fun _ _ => rfl) (n := k) fun _ _ _ => rfl
noncomputable def F110 (k : Nat) (v : mi110.den) : Option mo110.den := runF TI (O43 k) (L110 k) c110 mi110 mo110 v
theorem lk110 (k : Nat) : LinksOK Tryd.prog 38 (L110 k) c110 := (And.intro True.intro (And.intro (And.intro True.intro (And.intro (And.intro True.intro True.intro) True.intro)) (And.intro True.intro (And.intro (And.intro True.intro (lk_L110_5 k)) (And.intro True.intro True.intro)))))
theorem fn110 (k : Nat) (args : List AV) (x : mi110.den) (r : mo110.den) (h1 : args.length = mi110.items.length) (h2 : mi110.dec (Th.start args) = some x) (h3 : F110 k x = some r) : CallOK Tryd.prog 110 args (ansOf (outL mo110.items r)) :=
  call_of hm hT (ok_O43 k) (fn := Tryd.f110) (c := c110) Tryd.func110 rfl rfl rfl (lk110 k) rfl (by decide) rfl h1 h2 h3
noncomputable def O110 (k : Nat) : Orc := fun R f args K => bif Nat.beq f 110 then callF mi110 mo110 (F110 k) args K else O43 k R f args K
theorem ok_O110 (k : Nat) : OrcOK (O110 k) (CallOK Tryd.prog) := orc_add (fn110 k) (ok_O43 k)
noncomputable def c36 : Code := Tryd.f36.body.getD .skip
noncomputable def mi36 : Msk := ⟨[(.tmp 0, .val (.st (.cons (.int .i64) (.cons .str (.cons (.int .u64) (.cons (.int .u32) (.cons .str (.cons .str .nil))))))))], []⟩
noncomputable def mo36 : Msk := ⟨[(.tmp 2, .val .bool)], []⟩
noncomputable def L36 (k : Nat) : LOrc := fun _ _ _ _ => none
noncomputable def F36 (k : Nat) (v : mi36.den) : Option mo36.den := runF TI (O110 k) (L36 k) c36 mi36 mo36 v
theorem lk36 (k : Nat) : LinksOK Tryd.prog 57 (L36 k) c36 := (And.intro True.intro (And.intro (And.intro True.intro (And.intro (And.intro True.intro True.intro) True.intro)) (And.intro (And.intro True.intro (And.intro (And.intro True.intro True.intro) True.intro)) (And.intro True.intro True.intro))))
theorem fn36 (k : Nat) (args : List AV) (x : mi36.den) (r : mo36.den) (h1 : args.length = mi36.items.length) (h2 : mi36.dec (Th.start args) = some x) (h3 : F36 k x = some r) : CallOK Tryd.prog 36 args (ansOf (outL mo36.items r)) :=
  call_of hm hT (ok_O110 k) (fn := Tryd.f36) (c := c36) Tryd.func36 rfl rfl rfl (lk36 k) rfl (by decide) rfl h1 h2 h3
noncomputable def O36 (k : Nat) : Orc := fun R f args K => bif Nat.beq f 36 then callF mi36 mo36 (F36 k) args K else O110 k R f args K
theorem ok_O36 (k : Nat) : OrcOK (O36 k) (CallOK Tryd.prog) := orc_add (fn36 k) (ok_O110 k)
noncomputable def c111 : Code := Tryd.f111.body.getD .skip
noncomputable def mi111 : Msk := ⟨[], []⟩
noncomputable def mo111 : Msk := ⟨[(.tmp 0, .row false .str)], []⟩
noncomputable def L111 (k : Nat) : LOrc := fun _ _ _ _ => none
noncomputable def F111 (k : Nat) (v : mi111.den) : Option mo111.den := runF TI (O36 k) (L111 k) c111 mi111 mo111 v
theorem lk111 (k : Nat) : LinksOK Tryd.prog 2 (L111 k) c111 := (And.intro True.intro (And.intro True.intro True.intro))
theorem fn111 (k : Nat) (args : List AV) (x : mi111.den) (r : mo111.den) (h1 : args.length = mi111.items.length) (h2 : mi111.dec (Th.start args) = some x) (h3 : F111 k x = some r) : CallOK Tryd.prog 111 args (ansOf (outL mo111.items r)) :=
  call_of hm hT (ok_O36 k) (fn := Tryd.f111) (c := c111) Tryd.func111 rfl rfl rfl (lk111 k) rfl (by decide) rfl h1 h2 h3
noncomputable def O111 (k : Nat) : Orc := fun R f args K => bif Nat.beq f 111 then callF mi111 mo111 (F111 k) args K else O36 k R f args K
theorem ok_O111 (k : Nat) : OrcOK (O111 k) (CallOK Tryd.prog) := orc_add (fn111 k) (ok_O36 k)
noncomputable def c112 : Code := Tryd.f112.body.getD .skip
noncomputable def mi112 : Msk := ⟨[(.tmp 0, .val .str)], []⟩
noncomputable def mo112 : Msk := ⟨[(.tmp 2, .val .str)], []⟩
noncomputable def L112 (k : Nat) : LOrc := fun _ _ _ _ => none
noncomputable def F112 (k : Nat) (v : mi112.den) : Option mo112.den := runF TI (O111 k) (L112 k) c112 mi112 mo112 v
theorem lk112 (k : Nat) : LinksOK Tryd.prog 6 (L112 k) c112 := (And.intro True.intro (And.intro True.intro True.intro))
theorem fn112 (k : Nat) (args : List AV) (x : mi112.den) (r : mo112.den) (h1 : args.length = mi112.items.length) (h2 : mi112.dec (Th.start args) = some x) (h3 : F112 k x = some r) : CallOK Tryd.prog 112 args (ansOf (outL mo112.items r)) :=
  call_of hm hT (ok_O111 k) (fn := Tryd.f112) (c := c112) Tryd.func112 rfl rfl rfl (lk112 k) rfl (by decide) rfl h1 h2 h3
noncomputable def O112 (k : Nat) : Orc := fun R f args K => bif Nat.beq f 112 then callF mi112 mo112 (F112 k) args K else O111 k R f args K
theorem ok_O112 (k : Nat) : OrcOK (O112 k) (CallOK Tryd.prog) := orc_add (fn112 k) (ok_O111 k)
noncomputable def c39 : Code := Tryd.f39.body.getD .skip
noncomputable def mi39 : Msk := ⟨[(.tmp 0, .val (.st (.cons (.int .i64) (.cons .str (.cons (.int .u64) (.cons (.int .u32) (.cons .str (.cons .str .nil))))))))], []⟩
noncomputable def mo39 : Msk := ⟨[(.res 2, .val (.st (.cons .str (.cons (.slice (.st (.cons (.int .i64) (.cons .str .nil)))) .nil))))], []⟩
noncomputable def L39 (k : Nat) : LOrc := fun _ _ _ _ => none
noncomputable def F39 (k : Nat) (v : mi39.den) : Option mo39.den := runF TI (O112 k) (L39 k) c39 mi39 mo39 v
theorem lk39 (k : Nat) : LinksOK Tryd.prog 70 (L39 k) c39 := (And.intro True.intro (And.intro True.intro (And.intro (And.intro True.intro (And.intro True.intro True.intro)) (And.intro True.intro (And.intro True.intro (And.intro (And.intro True.intro (And.intro True.intro True.intro)) (And.intro (And.intro True.intro (And.intro True.intro True.intro)) (And.intro True.intro True.intro))))))))
theorem fn39 (k : Nat) (args : List AV) (x : mi39.den) (r : mo39.den) (h1 : args.length = mi39.items.length) (h2 : mi39.dec (Th.start args) = some x) (h3 : F39 k x = some r) : CallOK Tryd.prog 39 args (ansOf (outL mo39.items r)) :=
  call_of hm hT (ok_O112 k) (fn := Tryd.f39) (c := c39) Tryd.func39 rfl rfl rfl (lk39 k) rfl (by decide) rfl h1 h2 h3
noncomputable def O39 (k : Nat) : Orc := fun R f args K => bif Nat.beq f 39 then callF mi39 mo39 (F39 k) args K else O112 k R f args K
theorem ok_O39 (k : Nat) : OrcOK (O39 k) (CallOK Tryd.prog) := orc_add (fn39 k) (ok_O112 k)
noncomputable def c38 : Code := Tryd.f38.body.getD .skip
noncomputable def mi38 : Msk := ⟨[(.tmp 0, .val (.st (.cons .str (.cons (.slice (.st (.cons (.int .i64) (.cons .str .nil)))) .nil)))), (.tmp 1, .val (.st (.cons .str (.cons (.slice (.st (.cons (.int .i64) (.cons .str .nil)))) .nil))))], []⟩
noncomputable def mo38 : Msk := ⟨[(.tmp 4, .val .bool)], []⟩
noncomputable def L38_4 (k : Nat) : LOrc := fun _ _ _ _ => none
noncomputable def b38_4 : Code := (findLoop 4 c38).getD .skip
noncomputable def m38_4 : Msk := ⟨[(.tmp 2, .ptr 2 0), (.tmp 3, .ptr 3 0), (.tmp 5, .val (.int .i64)), (.cell 2 0, .val .str), (.cell 2 1, .val (.slice (.st (.cons (.int .i64) (.cons .str .nil))))), (.cell 3 0, .val .str), (.cell 3 1, .val (.slice (.st (.cons (.int .i64) (.cons .str .nil)))))], [(2, 2), (3, 2)]⟩
noncomputable def x38_4 : List (X × Msk) := [(.exit 0, ⟨[], []⟩), (.ret, ⟨[(.tmp 4, .val .bool)], []⟩)]
noncomputable def F38_4 (k : Nat) : Nat → m38_4.den → Option (denE x38_4)
  | 0, _ => none
  | j + 1, v => round TI (O39 k) (L38_4 k) b38_4 m38_4 x38_4 (F38_4 k j) v
theorem lk38_4_ (k : Nat) : LinksOK Tryd.prog 38 (L38_4 k) b38_4 := (And.intro (And.intro True.intro (And.intro True.intro True.intro)) (And.intro (And.intro True.intro (And.intro (And.intro True.intro True.intro) True.intro)) True.intro))
noncomputable def L38 (k : Nat) : LOrc := fun R lk s K => match lk with
  | .loop r => bif Nat.beq r 4 then link m38_4 x38_4 (F38_4 k k) s K else none
  | .label l => none
theorem lk_L38_4 (k : Nat) : LoopOK Tryd.prog 38 (L38 k) b38_4 := loopOK_of hm hT (ok_O39 k) (fun _ _ _ h => h) rfl (lk38_4_ k) rfl rfl (F := F38_4 k) (fun _ => rfl) (fun _ _ => rfl) (n := k) fun _ _ _ => rfl
noncomputable def F38 (k : Nat) (v : mi38.den) : Option mo38.den := runF TI (O39 k) (L38 k) c38 mi38 mo38 v
theorem lk38 (k : Nat) : LinksOK Tryd.prog 38 (L38 k) c38 := (And.intro True.intro (And.intro (And.intro True.intro (And.intro (And.intro True.intro True.intro) True.intro)) (And.intro (And.intro True.intro (lk_L38_4 k)) (And.intro True.intro True.intro))))
theorem fn38 (k : Nat) (args : List AV) (x : mi38.den) (r : mo38.den) (h1 : args.length = mi38.items.length) (h2 : mi38.dec (Th.start args) = some x) (h3 : F38 k x = some r) : CallOK Tryd.prog 38 args (ansOf (outL mo38.items r)) :=
  call_of hm hT (ok_O39 k) (fn := Tryd.f38) (c := c38) Tryd.func38 rfl rfl rfl (lk38 k) rfl (by decide) rfl h1 h2 h3
noncomputable def O38 (k : Nat) : Orc := fun R f args K => bif Nat.beq f 38 then callF mi38 mo38 (F38 k) args K else O39 k R f args K
theorem ok_O38 (k : Nat) : OrcOK (O38 k) (CallOK Tryd.prog) := orc_add (fn38 k) (ok_O39 k)
noncomputable def c178 : Code := Tryd.f178.body.getD .skip
noncomputable def mi178 : Msk := ⟨[(.tmp 0, .val .str)], []⟩
noncomputable def mo178 : Msk := ⟨[(.tmp 2, .val .bool)], []⟩
noncomputable def L178_3 (k : Nat) : LOrc := fun _ _ _ _ => none
noncomputable def b178_3 : Code := (findLoop 3 c178).getD .skip
noncomputable def m178_3 : Msk := ⟨[(.tmp 0, .val .str), (.tmp 3, .row false .str), (.tmp 4, .val (.int .i64))], []⟩
noncomputable def x178_3 : List (X × Msk) := [(.exit 0, ⟨[], []⟩), (.ret, ⟨[(.tmp 2, .val .bool)], []⟩)]
noncomputable def F178_3 (k : Nat) : Nat → m178_3.den → Option (denE x178_3)
  | 0, _ => none
  | j + 1, v => round TI (O38 k) (L178_3 k) b178_3 m178_3 x178_3 (F178_3 k j) v
theorem lk178_3_ (k : Nat) : LinksOK Tryd.prog 18 (L178_3 k) b178_3 := (And.intro (And.intro True.intro (And.intro True.intro True.intro)) (And.intro (And.intro True.intro (And.intro (And.intro True.intro True.intro) True.intro)) True.intro))
noncomputable def L178 (k : Nat) : LOrc := fun R lk s K => match lk with
  | .loop r => bif Nat.beq r 3 then link m178_3 x178_3 (F178_3 k k) s K else none
  | .label l => none
theorem lk_L178_3 (k : Nat) : LoopOK Tryd.prog 18 (L178 k) b178_3 := loopOK_of hm hT (ok_O38 k) (fun _ _ _ h => h) rfl (lk178_3_ k) rfl rfl (F := F178_3 k) (fun _ => rfl) (fun _ _ => rfl) (n := k) fun _ _ _ => rfl
noncomputable def F178 (k : Nat) (v : mi178.den) : Option mo178.den := runF TI (O38 k) (L178 k) c178 mi178 mo178 v
theorem lk178 (k : Nat) : LinksOK Tryd.prog 18 (L178 k) c178 := (And.intro True.intro (And.intro True.intro (And.intro (And.intro True.intro (lk_L178_3 k)) (And.intro True.intro True.intro))))
theorem fn178 (k : Nat) (args : List AV) (x : mi178.den) (r : mo178.den) (h1 : args.length = mi178.items.length) (h2 : mi178.dec (Th.start args) = some x) (h3 : F178 k x = some r) : CallOK Tryd.prog 178 args (ansOf (outL mo178.items r)) :=
  call_of hm hT (ok_O38 k) (fn := Tryd.f178) (c := c178) Tryd.func178 rfl rfl rfl (lk178 k) rfl (by decide) rfl h1 h2 h3
noncomputable def O178 (k : Nat) : Orc := fun R f args K => bif Nat.beq f 178 then callF mi178 mo178 (F178 k) args K else O38 k R f args K
theorem ok_O178 (k : Nat) : OrcOK (O178 k) (CallOK Tryd.prog) := orc_add (fn178 k) (ok_O38 k)
noncomputable def c118 : Code := Tryd.f118.body.getD .skip
noncomputable def mi118 : Msk := ⟨[(.tmp 0, .val (.st (.cons .str (.cons (.slice (.st (.cons (.int .i64) (.cons .str .nil)))) .nil))))], []⟩
noncomputable def mo118 : Msk := ⟨[(.tmp 2, .val .bool)], []⟩
noncomputable def L118_4 (k : Nat) : LOrc := fun _ _ _ _ => none
noncomputable def b118_4 : Code := (findLoop 4 c118).getD .skip
noncomputable def m118_4 : Msk := ⟨[(.tmp 1, .ptr 1 0), (.tmp 3, .val (.int .i64)), (.cell 1 0, .val .str), (.cell 1 1, .val (.slice (.st (.cons (.int .i64) (.cons .str .nil)))))], [(1, 2)]⟩
noncomputable def x118_4 : List (X × Msk) := [(.exit 0, ⟨[], []⟩), (.ret, ⟨[(.tmp 2, .val .bool)], []⟩)]
noncomputable def F118_4 (k : Nat) : Nat → m118_4.den → Option (denE x118_4)
  | 0, _ => none
  | j + 1, v => round TI (O178 k) (L118_4 k) b118_4 m118_4 x118_4 (F118_4 k j) v
theorem lk118_4_ (k : Nat) : LinksOK Tryd.prog 55 (L118_4 k) b118_4 := (And.intro (And.intro True.intro (And.intro True.intro True.intro)) (And.intro (And.intro True.intro (And.intro (And.intro True.intro True.intro) True.intro)) True.intro))
noncomputable def L118 (k : Nat) : LOrc := fun R lk s K => match lk with
  | .loop r => bif Nat.beq r 4 then link m118_4 x118_4 (F118_4 k k) s K else none
  | .label l => none
theorem lk_L118_4 (k : Nat) : LoopOK Tryd.prog 55 (L118 k) b118_4 := loopOK_of hm hT (ok_O178 k) (fun _ _ _ h => h) rfl (lk118_4_ k) rfl rfl (F := F118_4 k) (fun _ => rfl) (fun _ _ => rfl) (n := k) fun _ _ _ => rfl
noncomputable def F118 (k : Nat) (v : mi118.den) : Option mo118.den := runF TI (O178 k) (L118 k) c118 mi118 mo118 v
theorem lk118 (k : Nat) : LinksOK Tryd.prog 55 (L118 k) c118 := (And.intro True.intro (And.intro (And.intro True.intro (And.intro (And.intro True.intro True.intro) True.intro)) (And.intro (And.intro True.intro (lk_L118_4 k)) (And.intro True.intro True.intro))))
theorem fn118 (k : Nat) (args : List AV) (x : mi118.den) (r : mo118.den) (h1 : args.length = mi118.items.length) (h2 : mi118.dec (Th.start args) = some x) (h3 : F118 k x = some r) : CallOK Tryd.prog 118 args (ansOf (outL mo118.items r)) :=
  call_of hm hT (ok_O178 k) (fn := Tryd.f118) (c := c118) Tryd.func118 rfl rfl rfl (lk118 k) rfl (by decide) rfl h1 h2 h3
noncomputable def O118 (k : Nat) : Orc := fun R f args K => bif Nat.beq f 118 then callF mi118 mo118 (F118 k) args K else O178 k R f args K
theorem ok_O118 (k : Nat) : OrcOK (O118 k) (CallOK Tryd.prog) := orc_add (fn118 k) (ok_O178 k)
noncomputable def c119 : Code := Tryd.f119.body.getD .skip
noncomputable def mi119 : Msk := ⟨[(.tmp 0, .val (.int .i64))], []⟩
noncomputable def mo119 : Msk := ⟨[(.tmp 2, .row false (.int .i64))], []⟩
noncomputable def L119 (k : Nat) : LOrc := fun _ _ _ _ => none
noncomputable def F119 (k : Nat) (v : mi119.den) : Option mo119.den := runF TI (O118 k) (L119 k) c119 mi119 mo119 v
theorem lk119 (k : Nat) : LinksOK Tryd.prog 14 (L119 k) c119 := (And.intro True.intro (And.intro (And.intro True.intro (And.intro (And.intro True.intro True.intro) True.intro)) (And.intro (And.intro True.intro (And.intro (And.intro True.intro True.intro) True.intro)) (And.intro True.intro True.intro))))
theorem fn119 (k : Nat) (args : List AV) (x : mi119.den) (r : mo119.den) (h1 : args.length = mi119.items.length) (h2 : mi119.dec (Th.start args) = some x) (h3 : F119 k x = some r) : CallOK Tryd.prog 119 args (ansOf (outL mo119.items r)) :=
  call_of hm hT (ok_O118 k) (fn := Tryd.f119) (c := c119) Tryd.func119 rfl rfl rfl (lk119 k) rfl (by decide) rfl h1 h2 h3
noncomputable def O119 (k : Nat) : Orc := fun R f args K => bif Nat.beq f 119 then callF mi119 mo119 (F119 k) args K else O118 k R f args K
theorem ok_O119 (k : Nat) : OrcOK (O119 k) (CallOK Tryd.prog) := orc_add (fn119 k) (ok_O118 k)
noncomputable def c41 : Code := Tryd.f41.body.getD .skip
noncomputable def mi41 : Msk := ⟨[(.tmp 0, .val (.st (.cons .str (.cons (.slice (.st (.cons (.int .i64) (.cons .str .nil)))) .nil))))], []⟩
noncomputable def mo41 : Msk := ⟨[(.res 2, .val (.st (.cons (.int .i64) (.cons .str (.cons (.int .u64) (.cons (.int .u32) (.cons .str (.cons .str .nil)))))))), (.tmp 3, .val (.int .i64))], []⟩
noncomputable def L41_5 (k : Nat) : LOrc := fun _ _ _ _ => none
noncomputable def b41_5 : Code := (findLoop 5 c41).getD .skip
noncomputable def m41_5 : Msk := ⟨[(.tmp 1, .ptr 1 0), (.tmp 2, .ptr 2 0), (.tmp 4, .ptr 4 0), (.tmp 5, .val (.int .i64)), (.cell 1 0, .val .str), (.cell 1 1, .val (.slice (.st (.cons (.int .i64) (.cons .str .nil))))), (.cell 2 0, .val (.int .i64)), (.cell 2 1, .val .str), (.cell 2 2, .val (.int .u64)), (.cell 2 3, .val (.int .u32)), (.cell 2 4, .val .str), (.cell 2 5, .val .str), (.cell 4 0, .val (.int .i64)), (.cell 4 1, .val .str), (.cell 4 2, .val (.int .u64)), (.cell 4 3, .val (.int .u32)), (.cell 4 4, .val .str), (.cell 4 5, .val .str)], [(1, 2), (2, 6), (4, 6)]⟩
noncomputable def x41_5 : List (X × Msk) := [(.exit 0, ⟨[(.tmp 1, .ptr 1 0), (.tmp 2, .ptr 2 0), (.tmp 4, .ptr 4 0), (.cell 1 0, .val .str), (.cell 1 1, .val (.slice (.st (.cons (.int .i64) (.cons .str .nil))))), (.cell 2 0, .val (.int .i64)), (.cell 2 1, .val .str), (.cell 2 2, .val (.int .u64)), (.cell 2 3, .val (.int .u32)), (.cell 2 4, .val .str), (.cell 2 5, .val .str), (.cell 4 0, .val (.int .i64)), (.cell 4 1, .val .str), (.cell 4 2, .val (.int .u64)), (.cell 4 3, .val (.int .u32)), (.cell 4 4, .val .str), (.cell 4 5, .val .str)], [(1, 2), (2, 6), (4, 6)]⟩)]
noncomputable def F41_5 (k : Nat) : Nat → m41_5.den → Option (denE x41_5)
  | 0, _ => none
  | j + 1, v => round TI (O119 k) (L41_5 k) b41_5 m41_5 x41_5 (F41_5 k j) v
theorem lk41_5_ (k : Nat) : LinksOK Tryd.prog 120 (L41_5 k) b41_5 := (And.intro (And.intro True.intro (And.intro True.intro True.intro)) (And.intro (And.intro True.intro (And.intro True.intro True.intro)) True.intro))
noncomputable def L41_13 (k : Nat) : LOrc := fun _ _ _ _ => none
noncomputable def b41_13 : Code := (findLoop 13 c41).getD .skip
noncomputable def m41_13 : Msk := ⟨[(.tmp 1, .ptr 1 0), (.tmp 2, .ptr 2 0), (.tmp 4, .ptr 4 0), (.tmp 6, .row false (.int .i64)), (.tmp 7, .val (.int .i64)), (.cell 1 0, .val .str), (.cell 1 1, .val (.slice (.st (.cons (.int .i64) (.cons .str .nil))))), (.cell 2 0, .val (.int .i64)), (.cell 2 1, .val .str), (.cell 2 2, .val (.int .u64)), (.cell 2 3, .val (.int .u32)), (.cell 2 4, .val .str), (.cell 2 5, .val .str), (.cell 4 0, .val (.int .i64)), (.cell 4 1, .val .str), (.cell 4 2, .val (.int .u64)), (.cell 4 3, .val (.int .u32)), (.cell 4 4, .val .str), (.cell 4 5, .val .str)], [(1, 2), (2, 6), (4, 6)]⟩
noncomputable def x41_13 : List (X × Msk) := [(.exit 2, ⟨[(.tmp 1, .ptr 1 0), (.tmp 2, .ptr 2 0), (.tmp 4, .ptr 4 0), (.tmp 6, .row false (.int .i64)), (.cell 1 0, .val .str), (.cell 1 1, .val (.slice (.st (.cons (.int .i64) (.cons .str .nil))))), (.cell 2 0, .val (.int .i64)), (.cell 2 1, .val .str), (.cell 2 2, .val (.int .u64)), (.cell 2 3, .val (.int .u32)), (.cell 2 4, .val .str), (.cell 2 5, .val .str), (.cell 4 0, .val (.int .i64)), (.cell 4 1, .val .str), (.cell 4 2, .val (.int .u64)), (.cell 4 3, .val (.int .u32)), (.cell 4 4, .val .str), (.cell 4 5, .val .str)], [(1, 2), (2, 6), (4, 6)]⟩), (.ret, ⟨[(.tmp 2, .ptr 2 0), (.tmp 3, .val (.int .i64)), (.cell 2 0, .val (.int .i64)), (.cell 2 1, .val .str), (.cell 2 2, .val (.int .u64)), (.cell 2 3, .val (.int .u32)), (.cell 2 4, .val .str), (.cell 2 5, .val .str)], [(2, 6)]⟩)]
noncomputable def F41_13 (k : Nat) : Nat → m41_13.den → Option (denE x41_13)
  | 0, _ => none
  | j + 1, v => round TI (O119 k) (L41_13 k) b41_13 m41_13 x41_13 (F41_13 k j) v
theorem lk41_13_ (k : Nat) : LinksOK Tryd.prog 120 (L41_13 k) b41_13 := (And.intro (And.intro True.intro (And.intro True.intro True.intro)) (And.intro (And.intro True.intro (And.intro (And.intro True.intro (And.intro (And.intro True.intro True.intro) True.intro)) (And.intro True.intro (And.intro True.intro (And.intro True.intro (And.intro True.intro (And.intro True.intro (And.intro True.intro (And.intro True.intro (And.intro True.intro (And.intro True.intro (And.intro True.intro (And.intro True.intro (And.intro True.intro True.intro)))))))))))))) True.intro))
noncomputable def L41 (k : Nat) : LOrc := fun R lk s K => match lk with
  | .loop r => bif Nat.beq r 5 then link m41_5 x41_5 (F41_5 k k) s K else bif Nat.beq r 13 then link m41_13 x41_13 (F41_13 k k) s K else none
  | .label l => none
theorem lk_L41_5 (k : Nat) : LoopOK Tryd.prog 120 (L41 k) b41_5 := loopOK_of hm hT (ok_O119 k) (fun _ _ _ h => h) rfl (lk41_5_ k) rfl rfl (F := F41_5 k) (fun _ => rfl) (fun _ _ => rfl) (n := k) fun _ _ _ => rfl
theorem lk_L41_13 (k : Nat) : LoopOK Tryd.prog 120 (L41 k) b41_13 := loopOK_of hm hT (ok_O119 k) (fun _ _ _ h => h) rfl (lk41_13_ k) rfl rfl (F := F41_13 k) (fun _ => rfl) (fun _ _ => rfl) (n := k) fun _ _ _ => rfl
noncomputable def F41 (k : Nat) (v : mi41.den) : Option mo41.den := runF TI (O119 k) (L41 k) c41 mi41 mo41 v
theorem lk41 (k : Nat) : LinksOK Tryd.prog 120 (L41 k) c41 := (And.intro True.intro (And.intro (And.intro True.intro (And.intro (And.intro True.intro True.intro) True.intro)) (And.intro True.intro (And.intro (And.intro True.intro (lk_L41_5 k)) (And.intro True.intro (And.intro (And.intro True.intro (And.intro (And.intro True.intro True.intro) True.intro)) (And.intro (And.intro True.intro (lk_L41_13 k)) (And.intro (And.intro True.intro (And.intro (And.intro True.intro True.intro) True.intro)) (And.intro (And.intro True.intro (And.intro (And.intro True.intro True.intro) True.intro)) (And.intro True.intro True.intro))))))))))
theorem fn41 (k : Nat) (args : List AV) (x : mi41.den) (r : mo41.den) (h1 : args.length = mi41.items.length) (h2 : mi41.dec (Th.start args) = some x) (h3 : F41 k x = some r) : CallOK Tryd.prog 41 args (ansOf (outL mo41.items r)) :=
  call_of hm hT (ok_O119 k) (fn := Tryd.f41) (c := c41) Tryd.func41 rfl rfl rfl (lk41 k) rfl (by decide) rfl h1 h2 h3
noncomputable def O41 (k : Nat) : Orc := fun R f args K => bif Nat.beq f 41 then callF mi41 mo41 (F41 k) args K else O119 k R f args K
theorem ok_O41 (k : Nat) : OrcOK (O41 k) (CallOK Tryd.prog) := orc_add (fn41 k) (ok_O119 k)
noncomputable def c6 : Code := Tryd.f6.body.getD .skip
noncomputable def mi6 : Msk := ⟨[(.tmp 0, .val (.st (.cons (.int .i64) (.cons .str (.cons (.int .u64) (.cons (.int .u32) (.cons .str (.cons .str .nil)))))))), (.tmp 1, .val (.st (.cons .str (.cons (.slice (.st (.cons (.int .i64) (.cons .str .nil)))) .nil)))), (.tmp 2, .val (.int .i64))], []⟩
noncomputable def mo6 : Msk := ⟨[(.tmp 6, .val .bool)], []⟩
noncomputable def L6 (k : Nat) : LOrc := fun _ _ _ _ => none
noncomputable def F6 (k : Nat) (v : mi6.den) : Option mo6.den := runF TI (O41 k) (L6 k) c6 mi6 mo6 v
theorem lk6 (k : Nat) : LinksOK Tryd.prog 88 (L6 k) c6 := (And.intro True.intro (And.intro (And.intro True.intro (And.intro (And.intro True.intro True.intro) True.intro)) (And.intro (And.intro True.intro (And.intro (And.intro True.intro True.intro) True.intro)) (And.intro True.intro (And.intro True.intro (And.intro (And.intro True.intro (And.intro (And.intro True.intro True.intro) True.intro)) (And.intro True.intro (And.intro True.intro (And.intro True.intro True.intro)))))))))
theorem fn6 (k : Nat) (args : List AV) (x : mi6.den) (r : mo6.den) (h1 : args.length = mi6.items.length) (h2 : mi6.dec (Th.start args) = some x) (h3 : F6 k x = some r) : CallOK Tryd.prog 6 args (ansOf (outL mo6.items r)) :=
  call_of hm hT (ok_O41 k) (fn := Tryd.f6) (c := c6) Tryd.func6 rfl rfl rfl (lk6 k) rfl (by decide) rfl h1 h2 h3
noncomputable def O6 (k : Nat) : Orc := fun R f args K => bif Nat.beq f 6 then callF mi6 mo6 (F6 k) args K else O41 k R f args K
theorem ok_O6 (k : Nat) : OrcOK (O6 k) (CallOK Tryd.prog) := orc_add (fn6 k) (ok_O41 k)
noncomputable def c7 : Code := Tryd.f7.body.getD .skip
noncomputable def mi7 : Msk := ⟨[(.tmp 0, .val (.st (.cons (.int .i64) (.cons .str (.cons (.int .u64) (.cons (.int .u32) (.cons .str (.cons .str .nil)))))))), (.tmp 1, .val (.st (.cons (.int .i64) (.cons .str (.cons (.int .u64) (.cons (.int .u32) (.cons .str (.cons .str .nil)))))))), (.tmp 2, .val (.st (.cons .str (.cons (.slice (.st (.cons (.int .i64) (.cons .str .nil)))) .nil))))], []⟩
noncomputable def mo7 : Msk := ⟨[(.tmp 6, .val .bool)], []⟩
noncomputable def L7 (k : Nat) : LOrc := fun _ _ _ _ => none
noncomputable def F7 (k : Nat) (v : mi7.den) : Option mo7.den := runF TI (O6 k) (L7 k) c7 mi7 mo7 v
theorem lk7 (k : Nat) : LinksOK Tryd.prog 100 (L7 k) c7 := (And.intro True.intro (And.intro (And.intro True.intro (And.intro (And.intro True.intro True.intro) True.intro)) (And.intro (And.intro True.intro (And.intro (And.intro True.intro True.intro) True.intro)) (And.intro True.intro (And.intro True.intro (And.intro (And.intro True.intro (And.intro (And.intro True.intro (And.intro True.intro (And.intro (And.intro True.intro True.intro) True.intro))) True.intro)) (And.intro True.intro (And.intro (And.intro True.intro (And.intro (And.intro True.intro True.intro) True.intro)) (And.intro True.intro (And.intro True.intro True.intro))))))))))
theorem fn7 (k : Nat) (args : List AV) (x : mi7.den) (r : mo7.den) (h1 : args.length = mi7.items.length) (h2 : mi7.dec (Th.start args) = some x) (h3 : F7 k x = some r) : CallOK Tryd.prog 7 args (ansOf (outL mo7.items r)) :=
  call_of hm hT (ok_O6 k) (fn := Tryd.f7) (c := c7) Tryd.func7 rfl rfl rfl (lk7 k) rfl (by decide) rfl h1 h2 h3
noncomputable def O7 (k : Nat) : Orc := fun R f args K => bif Nat.beq f 7 then callF mi7 mo7 (F7 k) args K else O6 k R f args K
theorem ok_O7 (k : Nat) : OrcOK (O7 k) (CallOK Tryd.prog) := orc_add (fn7 k) (ok_O6 k)
noncomputable def c128 : Code := Tryd.f128.body.getD .skip
noncomputable def mi128 : Msk := ⟨[(.tmp 0, .val (.int .i64))], []⟩
noncomputable def mo128 : Msk := ⟨[(.tmp 2, .val (.int .i64))], []⟩
noncomputable def L128 (k : Nat) : LOrc := fun _ _ _ _ => none
noncomputable def F128 (k : Nat) (v : mi128.den) : Option mo128.den := runF TI (O7 k) (L128 k) c128 mi128 mo128 v
theorem lk128 (k : Nat) : LinksOK Tryd.prog 12 (L128 k) c128 := (And.intro True.intro (And.intro (And.intro True.intro (And.intro True.intro (And.intro (And.intro True.intro True.intro) (And.intro True.intro (And.intro (And.intro True.intro True.intro) (And.intro True.intro (And.intro (And.intro True.intro True.intro) (And.intro True.intro (And.intro (And.intro True.intro True.intro) True.intro))))))))) (And.intro True.intro True.intro)))
theorem fn128 (k : Nat) (args : List AV) (x : mi128.den) (r : mo128.den) (h1 : args.length = mi128.items.length) (h2 : mi128.dec (Th.start args) = some x) (h3 : F128 k x = some r) : CallOK Tryd.prog 128 args (ansOf (outL mo128.items r)) :=
  call_of hm hT (ok_O7 k) (fn := Tryd.f128) (c := c128) Tryd.func128 rfl rfl rfl (lk128 k) rfl (by decide) rfl h1 h2 h3
noncomputable def O128 (k : Nat) : Orc := fun R f args K => bif Nat.beq f 128 then callF mi128 mo128 (F128 k) args K else O7 k R f args K
theorem ok_O128 (k : Nat) : OrcOK (O128 k) (CallOK Tryd.prog) := orc_add (fn128 k) (ok_O7 k)
noncomputable def c49 : Code := Tryd.f49.body.getD .skip
noncomputable def mi49 : Msk := ⟨[(.tmp 0, .val (.st (.cons (.int .i64) (.cons (.st (.cons (.int .i64) (.cons .str (.cons (.int .u64) (.cons (.int .u32) (.cons .str (.cons .str .nil))))))) .nil))))], []⟩
noncomputable def mo49 : Msk := ⟨[(.tmp 2, .val .bool)], []⟩
noncomputable def L49 (k : Nat) : LOrc := fun _ _ _ _ => none
noncomputable def F49 (k : Nat) (v : mi49.den) : Option mo49.den := runF TI (O128 k) (L49 k) c49 mi49 mo49 v
theorem lk49 (k : Nat) : LinksOK Tryd.prog 40 (L49 k) c49 := (And.intro True.intro (And.intro (And.intro True.intro (And.intro (And.intro True.intro True.intro) True.intro)) (And.intro True.intro True.intro)))
theorem fn49 (k : Nat) (args : List AV) (x : mi49.den) (r : mo49.den) (h1 : args.length = mi49.items.length) (h2 : mi49.dec (Th.start args) = some x) (h3 : F49 k x = some r) : CallOK Tryd.prog 49 args (ansOf (outL mo49.items r)) :=
  call_of hm hT (ok_O128 k) (fn := Tryd.f49) (c := c49) Tryd.func49 rfl rfl rfl (lk49 k) rfl (by decide) rfl h1 h2 h3
noncomputable def O49 (k : Nat) : Orc := fun R f args K => bif Nat.beq f 49 then callF mi49 mo49 (F49 k) args K else O128 k R f args K
theorem ok_O49 (k : Nat) : OrcOK (O49 k) (CallOK Tryd.prog) := orc_add (fn49 k) (ok_O128 k)
noncomputable def c8 : Code := Tryd.f8.body.getD .skip
noncomputable def mi8 : Msk := ⟨[(.tmp 0, .val (.st (.cons (.st (.cons (.int .u32) (.cons .str .nil))) (.cons (.int .i64) (.cons .str (.cons (.int .u64) (.cons .str (.cons (.int .i64) (.cons (.int .i64) .nil))))))))), (.tmp 1, .val (.st (.cons (.int .i64) (.cons (.st (.cons (.int .i64) (.cons .str (.cons (.int .u64) (.cons (.int .u32) (.cons .str (.cons .str .nil))))))) .nil)))), (.tmp 2, .val (.int .i64)), (.tmp 3, .val (.int .i64))], []⟩
noncomputable def mo8 : Msk := ⟨[(.tmp 8, .val .bool)], []⟩
noncomputable def L8 (k : Nat) : LOrc := fun _ _ _ _ => none
noncomputable def F8 (k : Nat) (v : mi8.den) : Option mo8.den := runF TI (O49 k) (L8 k) c8 mi8 mo8 v
theorem lk8 (k : Nat) : LinksOK Tryd.prog 84 (L8 k) c8 := (And.intro True.intro (And.intro (And.intro True.intro (And.intro (And.intro True.intro True.intro) True.intro)) (And.intro (And.intro True.intro (And.intro (And.intro True.intro True.intro) True.intro)) (And.intro True.intro (And.intro True.intro (And.intro True.intro (And.intro True.intro True.intro)))))))
theorem fn8 (k : Nat) (args : List AV) (x : mi8.den) (r : mo8.den) (h1 : args.length = mi8.items.length) (h2 : mi8.dec (Th.start args) = some x) (h3 : F8 k x = some r) : CallOK Tryd.prog 8 args (ansOf (outL mo8.items r)) :=
  call_of hm hT (ok_O49 k) (fn := Tryd.f8) (c := c8) Tryd.func8 rfl rfl rfl (lk8 k) rfl (by decide) rfl h1 h2 h3
noncomputable def O8 (k : Nat) : Orc := fun R f args K => bif Nat.beq f 8 then callF mi8 mo8 (F8 k) args K else O49 k R f args K
theorem ok_O8 (k : Nat) : OrcOK (O8 k) (CallOK Tryd.prog) := orc_add (fn8 k) (ok_O49 k)
noncomputable def c9 : Code := Tryd.f9.body.getD .skip
noncomputable def mi9 : Msk := ⟨[(.tmp 0, .val (.st (.cons (.st (.cons (.int .u32) (.cons .str .nil))) (.cons (.int .i64) (.cons .str (.cons (.int .u64) (.cons .str (.cons (.int .i64) (.cons (.int .i64) .nil))))))))), (.tmp 1, .val (.st (.cons (.int .i64) (.cons (.st (.cons (.int .i64) (.cons .str (.cons (.int .u64) (.cons (.int .u32) (.cons .str (.cons .str .nil))))))) .nil)))), (.tmp 2, .val (.int .i64))], []⟩
noncomputable def mo9 : Msk := ⟨[(.tmp 6, .val .bool)], []⟩
noncomputable def L9_12 (k : Nat) : LOrc := fun _ _ _ _ => none
noncomputable def b9_12 : Code := (findLoop 12 c9).getD .skip
noncomputable def m9_12 : Msk := ⟨[(.tmp 3, .ptr 3 0), (.tmp 4, .ptr 4 0), (.tmp 7, .ptr 7 0), (.tmp 10, .val (.int .i64)), (.cell 3 0, .val (.int .u32)), (.cell 3 1, .val .str), (.cell 3 2, .val (.int .i64)), (.cell 3 3, .val .str), (.cell 3 4, .val (.int .u64)), (.cell 3 5, .val .str), (.cell 3 6, .val (.int .i64)), (.cell 3 7, .val (.int .i64)), (.cell 4 0, .val (.int .i64)), (.cell 4 1, .val (.int .i64)), (.cell 4 2, .val .str), (.cell 4 3, .val (.int .u64)), (.cell 4 4, .val (.int .u32)), (.cell 4 5, .val .str), (.cell 4 6, .val .str), (.cell 7 0, .val (.int .u32)), (.cell 7 1, .val .str), (.cell 7 2, .val (.int .i64)), (.cell 7 3, .val .str), (.cell 7 4, .val (.int .u64)), (.cell 7 5, .val .str), (.cell 7 6, .val (.int .i64)), (.cell 7 7, .val (.int .i64)), (.cell 7 8, .val (.slice (.st (.cons (.int .i64) (.cons .str (.cons (.int .u64) (.cons (.int .u32) (.cons .str (.cons .str .nil))))))))), (.cell 7 9, .val (.slice (.st (.cons (.int .i64) (.cons .str (.cons (.int .u64) (.cons (.int .u32) (.cons .str (.cons .str .nil))))))))), (.cell 7 10, .val (.int .i64)), (.cell 7 11, .val .bool)], [(3, 8), (4, 7), (7, 12)]⟩
noncomputable def x9_12 : List (X × Msk) := [(.exit 0, ⟨[(.tmp 3, .ptr 3 0), (.tmp 4, .ptr 4 0), (.tmp 7, .ptr 7 0), (.cell 3 0, .val (.int .u32)), (.cell 3 1, .val .str), (.cell 3 2, .val (.int .i64)), (.cell 3 3, .val .str), (.cell 3 4, .val (.int .u64)), (.cell 3 5, .val .str), (.cell 3 6, .val (.int .i64)), (.cell 3 7, .val (.int .i64)), (.cell 4 0, .val (.int .i64)), (.cell 4 1, .val (.int .i64)), (.cell 4 2, .val .str), (.cell 4 3, .val (.int .u64)), (.cell 4 4, .val (.int .u32)), (.cell 4 5, .val .str), (.cell 4 6, .val .str), (.cell 7 0, .val (.int .u32)), (.cell 7 1, .val .str), (.cell 7 2, .val (.int .i64)), (.cell 7 3, .val .str), (.cell 7 4, .val (.int .u64)), (.cell 7 5, .val .str), (.cell 7 6, .val (.int .i64)), (.cell 7 7, .val (.int .i64)), (.cell 7 8, .val (.slice (.st (.cons (.int .i64) (.cons .str (.cons (.int .u64) (.cons (.int .u32) (.cons .str (.cons .str .nil))))))))), (.cell 7 9, .val (.slice (.st (.cons (.int .i64) (.cons .str (.cons (.int .u64) (.cons (.int .u32) (.cons .str (.cons .str .nil))))))))), (.cell 7 10, .val (.int .i64)), (.cell 7 11, .val .bool)], [(3, 8), (4, 7), (7, 12)]⟩), (.ret, ⟨[(.tmp 6, .val .bool)], []⟩)]
noncomputable def F9_12 (k : Nat) : Nat → m9_12.den → Option (denE x9_12)
  | 0, _ => none
  | j + 1, v => round TI (O8 k) (L9_12 k) b9_12 m9_12 x9_12 (F9_12 k j) v
theorem lk9_12_ (k : Nat) : LinksOK Tryd.prog 222 (L9_12 k) b9_12 := (And.intro (And.intro True.intro (And.intro True.intro True.intro)) (And.intro (And.intro True.intro (And.intro True.intro (And.intro (And.intro True.intro True.intro) True.intro))) True.intro))
noncomputable def L9_18 (k : Nat) : LOrc := fun _ _ _ _ => none
noncomputable def b9_18 : Code := (findLoop 18 c9).getD .skip
noncomputable def m9_18 : Msk := ⟨[(.tmp 3, .ptr 3 0), (.tmp 4, .ptr 4 0), (.tmp 7, .ptr 7 0), (.tmp 12, .val (.int .i64)), (.cell 3 0, .val (.int .u32)), (.cell 3 1, .val .str), (.cell 3 2, .val (.int .i64)), (.cell 3 3, .val .str), (.cell 3 4, .val (.int .u64)), (.cell 3 5, .val .str), (.cell 3 6, .val (.int .i64)), (.cell 3 7, .val (.int .i64)), (.cell 4 0, .val (.int .i64)), (.cell 4 1, .val (.int .i64)), (.cell 4 2, .val .str), (.cell 4 3, .val (.int .u64)), (.cell 4 4, .val (.int .u32)), (.cell 4 5, .val .str), (.cell 4 6, .val .str), (.cell 7 0, .val (.int .u32)), (.cell 7 1, .val .str), (.cell 7 2, .val (.int .i64)), (.cell 7 3, .val .str), (.cell 7 4, .val (.int .u64)), (.cell 7 5, .val .str), (.cell 7 6, .val (.int .i64)), (.cell 7 7, .val (.int .i64)), (.cell 7 8, .val (.slice (.st (.cons (.int .i64) (.cons .str (.cons (.int .u64) (.cons (.int .u32) (.cons .str (.cons .str .nil))))))))), (.cell 7 9, .val (.slice (.st (.cons (.int .i64) (.cons .str (.cons (.int .u64) (.cons (.int .u32) (.cons .str (.cons .str .nil))))))))), (.cell 7 10, .val (.int .i64)), (.cell 7 11, .val .bool)], [(3, 8), (4, 7), (7, 12)]⟩
noncomputable def x9_18 : List (X × Msk) := [(.exit 2, ⟨[(.tmp 3, .ptr 3 0), (.tmp 7, .ptr 7 0), (.cell 3 0, .val (.int .u32)), (.cell 3 1, .val .str), (.cell 3 2, .val (.int .i64)), (.cell 3 3, .val .str), (.cell 3 4, .val (.int .u64)), (.cell 3 5, .val .str), (.cell 3 6, .val (.int .i64)), (.cell 3 7, .val (.int .i64)), (.cell 7 0, .val (.int .u32)), (.cell 7 1, .val .str), (.cell 7 2, .val (.int .i64)), (.cell 7 3, .val .str), (.cell 7 4, .val (.int .u64)), (.cell 7 5, .val .str), (.cell 7 6, .val (.int .i64)), (.cell 7 7, .val (.int .i64)), (.cell 7 8, .val (.slice (.st (.cons (.int .i64) (.cons .str (.cons (.int .u64) (.cons (.int .u32) (.cons .str (.cons .str .nil))))))))), (.cell 7 9, .val (.slice (.st (.cons (.int .i64) (.cons .str (.cons (.int .u64) (.cons (.int .u32) (.cons .str (.cons .str .nil))))))))), (.cell 7 10, .val (.int .i64)), (.cell 7 11, .val .bool)], [(3, 8), (7, 12)]⟩), (.ret, ⟨[(.tmp 6, .val .bool)], []⟩)]
noncomputable def F9_18 (k : Nat) : Nat → m9_18.den → Option (denE x9_18)
  | 0, _ => none
  | j + 1, v => round TI (O8 k) (L9_18 k) b9_18 m9_18 x9_18 (F9_18 k j) v
theorem lk9_18_ (k : Nat) : LinksOK Tryd.prog 222 (L9_18 k) b9_18 := (And.intro (And.intro True.intro (And.intro True.intro True.intro)) (And.intro (And.intro True.intro (And.intro True.intro (And.intro (And.intro True.intro True.intro) True.intro))) True.intro))
noncomputable def L9 (k : Nat) : LOrc := fun R lk s K => match lk with
  | .loop r => bif Nat.beq r 12 then link m9_12 x9_12 (F9_12 k k) s K else bif Nat.beq r 18 then link m9_18 x9_18 (F9_18 k k) s K else none
  | .label l => none
theorem lk_L9_12 (k : Nat) : LoopOK Tryd.prog 222 (L9 k) b9_12 := loopOK_of hm hT (ok_O8 k) (fun _ _ _ h => h) rfl (lk9_12_ k) rfl rfl (F := F9_12 k) (fun _ => rfl) (fun _ _ => rfl) (n := k) fun _ _ _ => rfl
theorem lk_L9_18 (k : Nat) : LoopOK Tryd.prog 222 (L9 k) b9_18 := loopOK_of hm hT (ok_O8 k) (fun _ _ _ h => h) rfl (lk9_18_ k) rfl rfl (F := F9_18 k) (fun _ => rfl) (fun _ _ => rfl) (n := k) fun _ _ _ => rfl
noncomputable def F9 (k : Nat) (v : mi9.den) : Option mo9.den := runF TI (O8 k) (L9 k) c9 mi9 mo9 v
theorem lk9 (k : Nat) : LinksOK Tryd.prog 222 (L9 k) c9 := (And.intro True.intro (And.intro (And.intro True.intro (And.intro (And.intro True.intro True.intro) True.intro)) (And.intro (And.intro True.intro (And.intro (And.intro True.intro True.intro) True.intro)) (And.intro True.intro (And.intro (And.intro True.intro (And.intro (And.intro True.intro True.intro) True.intro)) (And.intro True.intro (And.intro (And.intro True.intro (And.intro (And.intro True.intro True.intro) True.intro)) (And.intro (And.intro True.intro (lk_L9_12 k)) (And.intro (And.intro True.intro (lk_L9_18 k)) (And.intro True.intro True.intro))))))))))
theorem fn9 (k : Nat) (args : List AV) (x : mi9.den) (r : mo9.den) (h1 : args.length = mi9.items.length) (h2 : mi9.dec (Th.start args) = some x) (h3 : F9 k x = some r) : CallOK Tryd.prog 9 args (ansOf (outL mo9.items r)) :=
  call_of hm hT (ok_O8 k) (fn := Tryd.f9) (c := c9) Tryd.func9 rfl rfl rfl (lk9 k) rfl (by decide) rfl h1 h2 h3
noncomputable def O9 (k : Nat) : Orc := fun R f args K => bif Nat.beq f 9 then callF mi9 mo9 (F9 k) args K else O8 k R f args K
theorem ok_O9 (k : Nat) : OrcOK (O9 k) (CallOK Tryd.prog) := orc_add (fn9 k) (ok_O8 k)
noncomputable def c11 : Code := Tryd.f11.body.getD .skip
noncomputable def mi11 : Msk := ⟨[(.tmp 0, .val (.st (.cons (.st (.cons (.int .u32) (.cons .str .nil))) (.cons (.int .i64) (.cons .str (.cons (.int .u64) (.cons .str (.cons (.int .i64) (.cons (.int .i64) .nil))))))))), (.tmp 1, .val (.st (.cons (.int .i64) (.cons (.st (.cons (.int .i64) (.cons .str (.cons (.int .u64) (.cons (.int .u32) (.cons .str (.cons .str .nil))))))) .nil)))), (.tmp 2, .val (.int .i64))], []⟩
noncomputable def mo11 : Msk := ⟨[(.tmp 6, .val .bool)], []⟩
noncomputable def L11 (k : Nat) : LOrc := fun _ _ _ _ => none
noncomputable def F11 (k : Nat) (v : mi11.den) : Option mo11.den := runF TI (O9 k) (L11 k) c11 mi11 mo11 v
theorem lk11 (k : Nat) : LinksOK Tryd.prog 73 (L11 k) c11 := (And.intro True.intro (And.intro (And.intro True.intro (And.intro (And.intro True.intro True.intro) True.intro)) (And.intro (And.intro True.intro (And.intro (And.intro True.intro True.intro) True.intro)) (And.intro True.intro (And.intro (And.intro True.intro (And.intro (And.intro True.intro True.intro) True.intro)) (And.intro (And.intro True.intro (And.intro (And.intro True.intro True.intro) True.intro)) (And.intro True.intro True.intro)))))))
theorem fn11 (k : Nat) (args : List AV) (x : mi11.den) (r : mo11.den) (h1 : args.length = mi11.items.length) (h2 : mi11.dec (Th.start args) = some x) (h3 : F11 k x = some r) : CallOK Tryd.prog 11 args (ansOf (outL mo11.items r)) :=
  call_of hm hT (ok_O9 k) (fn := Tryd.f11) (c := c11) Tryd.func11 rfl rfl rfl (lk11 k) rfl (by decide) rfl h1 h2 h3
noncomputable def O11 (k : Nat) : Orc := fun R f args K => bif Nat.beq f 11 then callF mi11 mo11 (F11 k) args K else O9 k R f args K
theorem ok_O11 (k : Nat) : OrcOK (O11 k) (CallOK Tryd.prog) := orc_add (fn11 k) (ok_O9 k)
noncomputable def c213 : Code := Tryd.f213.body.getD .skip
noncomputable def mi213 : Msk := ⟨[(.tmp 0, .ptr 900 0), (.tmp 1, .val (.int .i64)), (.cell 900 0, .val (.int .u64)), (.cell 900 1, .val (.int .u64))], [(900, 2)]⟩
noncomputable def mo213 : List Msk := [⟨[(.tmp 4, .ptr 900 0), (.tmp 5, .val (.int .u64)), (.cell 900 0, .val (.int .u64)), (.cell 900 1, .val (.int .u64))], [(900, 2)]⟩, ⟨[(.tmp 4, .ptr 900 1), (.tmp 5, .val (.int .u64)), (.cell 900 0, .val (.int .u64)), (.cell 900 1, .val (.int .u64))], [(900, 2)]⟩]
noncomputable def L213 (k : Nat) : LOrc := fun _ _ _ _ => none
noncomputable def F213 (k : Nat) (v : mi213.den) : Option (denA mo213) := runA TI (O11 k) (L213 k) c213 mi213 mo213 v
theorem lk213 (k : Nat) : LinksOK Tryd.prog 21 (L213 k) c213 := (And.intro True.intro (And.intro (And.intro True.intro (And.intro (And.intro True.intro True.intro) True.intro)) (And.intro True.intro True.intro)))
theorem fn213 (k : Nat) (vs cs : List AV) (x : mi213.den) (r : denA mo213) (h1 : vs.length = 2) (h2 : mi213.dec (startL vs cs) = some x) (h3 : F213 k x = some r) : CallOK Tryd.prog 213 (vs ++ [.lent cs]) (valB 2 mo213 r) :=
  call_ofL hm hT (ok_O11 k) (fn := Tryd.f213) (c := c213) Tryd.func213 rfl rfl rfl (lk213 k) rfl (by decide) (by decide) rfl h1 h2 h3
noncomputable def O213 (k : Nat) : Orc := fun R f args K => bif Nat.beq f 213 then callB mi213 2 2 mo213 (F213 k) args K else O11 k R f args K
theorem ok_O213 (k : Nat) : OrcOK (O213 k) (CallOK Tryd.prog) := orc_addL (fn213 k) (ok_O11 k)
noncomputable def c214 : Code := Tryd.f214.body.getD .skip
noncomputable def mi214 : Msk := ⟨[(.tmp 0, .val (.st (.cons (.int .u64) (.cons (.int .u64) .nil)))), (.tmp 1, .val (.int .i64))], []⟩
noncomputable def mo214 : Msk := ⟨[(.tmp 4, .val .bool)], []⟩
noncomputable def L214 (k : Nat) : LOrc := fun _ _ _ _ => none
noncomputable def F214 (k : Nat) (v : mi214.den) : Option mo214.den := runF TI (O213 k) (L214 k) c214 mi214 mo214 v
theorem lk214 (k : Nat) : LinksOK Tryd.prog 18 (L214 k) c214 := (And.intro True.intro (And.intro True.intro (And.intro True.intro True.intro)))
theorem fn214 (k : Nat) (args : List AV) (x : mi214.den) (r : mo214.den) (h1 : args.length = mi214.items.length) (h2 : mi214.dec (Th.start args) = some x) (h3 : F214 k x = some r) : CallOK Tryd.prog 214 args (ansOf (outL mo214.items r)) :=
  call_of hm hT (ok_O213 k) (fn := Tryd.f214) (c := c214) Tryd.func214 rfl rfl rfl (lk214 k) rfl (by decide) rfl h1 h2 h3
noncomputable def O214 (k : Nat) : Orc := fun R f args K => bif Nat.beq f 214 then callF mi214 mo214 (F214 k) args K else O213 k R f args K
theorem ok_O214 (k : Nat) : OrcOK (O214 k) (CallOK Tryd.prog) := orc_add (fn214 k) (ok_O213 k)
noncomputable def c190 : Code := Tryd.f190.body.getD .skip
noncomputable def mi190 : Msk := ⟨[(.tmp 0, .val (.st (.cons (.int .u64) (.cons (.int .u64) .nil))))], []⟩
noncomputable def mo190 : Msk := ⟨[(.tmp 2, .val .bool)], []⟩
noncomputable def L190 (k : Nat) : LOrc := fun _ _ _ _ => none
noncomputable def F190 (k : Nat) (v : mi190.den) : Option mo190.den := runF TI (O214 k) (L190 k) c190 mi190 mo190 v
theorem lk190 (k : Nat) : LinksOK Tryd.prog 14 (L190 k) c190 := (And.intro True.intro (And.intro True.intro True.intro))
theorem fn190 (k : Nat) (args : List AV) (x : mi190.den) (r : mo190.den) (h1 : args.length = mi190.items.length) (h2 : mi190.dec (Th.start args) = some x) (h3 : F190 k x = some r) : CallOK Tryd.prog 190 args (ansOf (outL mo190.items r)) :=
  call_of hm hT (ok_O214 k) (fn := Tryd.f190) (c := c190) Tryd.func190 rfl rfl rfl (lk190 k) rfl (by decide) rfl h1 h2 h3
noncomputable def O190 (k : Nat) : Orc := fun R f args K => bif Nat.beq f 190 then callF mi190 mo190 (F190 k) args K else O214 k R f args K
theorem ok_O190 (k : Nat) : OrcOK (O190 k) (CallOK Tryd.prog) := orc_add (fn190 k) (ok_O214 k)
noncomputable def c212 : Code := Tryd.f212.body.getD .skip
noncomputable def mi212 : Msk := ⟨[(.tmp 0, .val (.int .i64))], []⟩
noncomputable def mo212 : Msk := ⟨[(.tmp 2, .val .bool)], []⟩
noncomputable def L212 (k : Nat) : LOrc := fun _ _ _ _ => none
noncomputable def F212 (k : Nat) (v : mi212.den) : Option mo212.den := runF TI (O190 k) (L212 k) c212 mi212 mo212 v
theorem lk212 (k : Nat) : LinksOK Tryd.prog 13 (L212 k) c212 := (And.intro True.intro (And.intro True.intro True.intro))
theorem fn212 (k : Nat) (args : List AV) (x : mi212.den) (r : mo212.den) (h1 : args.length = mi212.items.length) (h2 : mi212.dec (Th.start args) = some x) (h3 : F212 k x = some r) : CallOK Tryd.prog 212 args (ansOf (outL mo212.items r)) :=
  call_of hm hT (ok_O190 k) (fn := Tryd.f212) (c := c212) Tryd.func212 rfl rfl rfl (lk212 k) rfl (by decide) rfl h1 h2 h3
noncomputable def O212 (k : Nat) : Orc := fun R f args K => bif Nat.beq f 212 then callF mi212 mo212 (F212 k) args K else O190 k R f args K
theorem ok_O212 (k : Nat) : OrcOK (O212 k) (CallOK Tryd.prog) := orc_add (fn212 k) (ok_O190 k)
noncomputable def c189 : Code := Tryd.f189.body.getD .skip
noncomputable def mi189 : Msk := ⟨[(.tmp 0, .val (.st (.cons (.int .u64) (.cons (.int .u64) .nil)))), (.tmp 1, .val (.int .i64))], []⟩
noncomputable def mo189 : Msk := ⟨[(.res 4, .val (.st (.cons (.int .u64) (.cons (.int .u64) .nil)))), (.tmp 5, .val (.int .i64))], []⟩
noncomputable def L189 (k : Nat) : LOrc := fun _ _ _ _ => none
noncomputable def F189 (k : Nat) (v : mi189.den) : Option mo189.den := runF TI (O212 k) (L189 k) c189 mi189 mo189 v
theorem lk189 (k : Nat) : LinksOK Tryd.prog 36 (L189 k) c189 := (And.intro True.intro (And.intro (And.intro True.intro (And.intro (And.intro True.intro True.intro) True.intro)) (And.intro True.intro (And.intro True.intro (And.intro (And.intro True.intro (And.intro True.intro True.intro)) (And.intro True.intro True.intro))))))
theorem fn189 (k : Nat) (args : List AV) (x : mi189.den) (r : mo189.den) (h1 : args.length = mi189.items.length) (h2 : mi189.dec (Th.start args) = some x) (h3 : F189 k x = some r) : CallOK Tryd.prog 189 args (ansOf (outL mo189.items r)) :=
  call_of hm hT (ok_O212 k) (fn := Tryd.f189) (c := c189) Tryd.func189 rfl rfl rfl (lk189 k) rfl (by decide) rfl h1 h2 h3
noncomputable def O189 (k : Nat) : Orc := fun R f args K => bif Nat.beq f 189 then callF mi189 mo189 (F189 k) args K else O212 k R f args K
theorem ok_O189 (k : Nat) : OrcOK (O189 k) (CallOK Tryd.prog) := orc_add (fn189 k) (ok_O212 k)
noncomputable def c140 : Code := Tryd.f140.body.getD .skip
noncomputable def mi140 : Msk := ⟨[(.tmp 0, .val (.slice (.int .i64)))], []⟩
noncomputable def mo140 : Msk := ⟨[(.res 2, .val (.st (.cons (.int .u64) (.cons (.int .u64) .nil)))), (.tmp 3, .val (.int .i64))], []⟩
noncomputable def L140_3 (k : Nat) : LOrc := fun _ _ _ _ => none
noncomputable def b140_3 : Code := (findLoop 3 c140).getD .skip
noncomputable def m140_3 : Msk := ⟨[(.tmp 2, .ptr 2 0), (.tmp 4, .ptr 4 0), (.tmp 9, .val (.slice (.int .i64))), (.tmp 10, .val (.int .i64)), (.tmp 11, .val (.int .i64)), (.cell 2 0, .val (.int .u64)), (.cell 2 1, .val (.int .u64)), (.cell 4 0, .val (.int .u64)), (.cell 4 1, .val (.int .u64))], [(2, 2), (4, 2)]⟩
noncomputable def x140_3 : List (X × Msk) := [(.exit 0, ⟨[(.tmp 2, .ptr 2 0), (.tmp 4, .ptr 4 0), (.cell 2 0, .val (.int .u64)), (.cell 2 1, .val (.int .u64)), (.cell 4 0, .val (.int .u64)), (.cell 4 1, .val (.int .u64))], [(2, 2), (4, 2)]⟩), (.ret, ⟨[(.tmp 2, .ptr 2 0), (.tmp 3, .val (.int .i64)), (.cell 2 0, .val (.int .u64)), (.cell 2 1, .val (.int .u64))], [(2, 2)]⟩)]
noncomputable def F140_3 (k : Nat) : Nat → m140_3.den → Option (denE x140_3)
  | 0, _ => none
  | j + 1, v => round TI (O189 k) (L140_3 k) b140_3 m140_3 x140_3 (F140_3 k j) v
theorem lk140_3_ (k : Nat) : LinksOK Tryd.prog 28 (L140_3 k) b140_3 := (And.intro True.intro (And.intro (And.intro True.intro True.intro) (And.intro (And.intro True.intro (And.intro True.intro (And.intro (And.intro True.intro (And.intro (And.intro True.intro True.intro) True.intro)) True.intro))) True.intro)))
noncomputable def L140 (k : Nat) : LOrc := fun R lk s K => match lk with
  | .loop r => bif Nat.beq r 3 then link m140_3 x140_3 (F140_3 k k) s K else none
  | .label l => none
theorem lk_L140_3 (k : Nat) : LoopOK Tryd.prog 28 (L140 k) b140_3 := loopOK_of hm hT (ok_O189 k) (fun _ _ _ h => h) rfl (lk140_3_ k) rfl rfl (F := F140_3 k) (fun _ => rfl) (fun _ _ => rfl) (n := k) fun _ _ _ => rfl
noncomputable def F140 (k : Nat) (v : mi140.den) : Option mo140.den := runF TI (O189 k) (L140 k) c140 mi140 mo140 v
theorem lk140 (k : Nat) : LinksOK Tryd.prog 28 (L140 k) c140 := (And.intro True.intro (And.intro True.intro (And.intro (And.intro True.intro (lk_L140_3 k)) (And.intro True.intro True.intro))))
theorem fn140 (k : Nat) (args : List AV) (x : mi140.den) (r : mo140.den) (h1 : args.length = mi140.items.length) (h2 : mi140.dec (Th.start args) = some x) (h3 : F140 k x = some r) : CallOK Tryd.prog 140 args (ansOf (outL mo140.items r)) :=
  call_of hm hT (ok_O189 k) (fn := Tryd.f140) (c := c140) Tryd.func140 rfl rfl rfl (lk140 k) rfl (by decide) rfl h1 h2 h3
noncomputable def O140 (k : Nat) : Orc := fun R f args K => bif Nat.beq f 140 then callF mi140 mo140 (F140 k) args K else O189 k R f args K
theorem ok_O140 (k : Nat) : OrcOK (O140 k) (CallOK Tryd.prog) := orc_add (fn140 k) (ok_O189 k)
noncomputable def c191 : Code := Tryd.f191.body.getD .skip
noncomputable def mi191 : Msk := ⟨[(.tmp 0, .row false (.int .u8)), (.tmp 1, .val (.int .u64))], []⟩
noncomputable def mo191 : Msk := ⟨[(.tmp 4, .row false (.int .u8))], []⟩
noncomputable def L191_2 (k : Nat) : LOrc := fun _ _ _ _ => none
noncomputable def b191_2 : Code := (findLoop 2 c191).getD .skip
noncomputable def m191_2 : Msk := ⟨[(.tmp 0, .row false (.int .u8)), (.tmp 1, .val (.int .u64)), (.tmp 6, .val (.int .i64))], []⟩
noncomputable def x191_2 : List (X × Msk) := [(.exit 0, ⟨[(.tmp 0, .row false (.int .u8))], []⟩)]
noncomputable def F191_2 (k : Nat) : Nat → m191_2.den → Option (denE x191_2)
  | 0, _ => none
  | j + 1, v => round TI (O140 k) (L191_2 k) b191_2 m191_2 x191_2 (F191_2 k j) v
theorem lk191_2_ (k : Nat) : LinksOK Tryd.prog 21 (L191_2 k) b191_2 := (And.intro True.intro (And.intro (And.intro True.intro True.intro) (And.intro (And.intro True.intro True.intro) True.intro)))
noncomputable def L191 (k : Nat) : LOrc := fun R lk s K => match lk with
  | .loop r => bif Nat.beq r 2 then link m191_2 x191_2 (F191_2 k k) s K else none
  | .label l => none
theorem lk_L191_2 (k : Nat) : LoopOK Tryd.prog 21 (L191 k) b191_2 := loopOK_of hm hT (ok_O140 k) (fun _ _ _ h => h) rfl (lk191_2_ k) rfl rfl (F := F191_2 k) (fun _ => rfl) (fun _ _ => rfl) (n := k) fun _ _ _ => rfl
noncomputable def F191 (k : Nat) (v : mi191.den) : Option mo191.den := runF TI (O140 k) (L191 k) c191 mi191 mo191 v
theorem lk191 (k : Nat) : LinksOK Tryd.prog 21 (L191 k) c191 := (And.intro True.intro (And.intro (And.intro True.intro (lk_L191_2 k)) (And.intro True.intro True.intro)))
theorem fn191 (k : Nat) (a0 : AV) (rest : List AV) (x : mi191.den) (r : mo191.den) (h1 : (a0 :: rest).length = mi191.items.length) (h2 : mi191.dec (startE a0 rest) = some x) (h3 : F191 k x = some r) : CallOK Tryd.prog 191 (a0 :: rest) (.back (ansOf (outL mo191.items r)) [.lent []]) :=
  call_ofE hm hT (ok_O140 k) (fn := Tryd.f191) (c := c191) Tryd.func191 rfl rfl rfl (lk191 k) rfl (by decide) rfl h1 h2 h3
noncomputable def O191 (k : Nat) : Orc := fun R f args K => bif Nat.beq f 191 then callE mi191 mo191 (F191 k) args K else O140 k R f args K
theorem ok_O191 (k : Nat) : OrcOK (O191 k) (CallOK Tryd.prog) := orc_addE (fn191 k) (ok_O140 k)
noncomputable def c141 : Code := Tryd.f141.body.getD .skip
noncomputable def mi141 : Msk := ⟨[(.tmp 0, .val (.st (.cons (.int .u64) (.cons (.int .u64) .nil))))], []⟩
noncomputable def mo141 : Msk := ⟨[(.tmp 2, .row false (.int .u8)), (.tmp 3, .val (.int .i64))], []⟩
noncomputable def L141 (k : Nat) : LOrc := fun _ _ _ _ => none
noncomputable def F141 (k : Nat) (v : mi141.den) : Option mo141.den := runF TI (O191 k) (L141 k) c141 mi141 mo141 v
theorem lk141 (k : Nat) : LinksOK Tryd.prog 19 (L141 k) c141 := (And.intro True.intro (And.intro (And.intro True.intro (And.intro (And.intro True.intro True.intro) True.intro)) (And.intro True.intro (And.intro (And.intro True.intro (And.intro True.intro True.intro)) (And.intro True.intro True.intro)))))
theorem fn141 (k : Nat) (args : List AV) (x : mi141.den) (r : mo141.den) (h1 : args.length = mi141.items.length) (h2 : mi141.dec (Th.start args) = some x) (h3 : F141 k x = some r) : CallOK Tryd.prog 141 args (ansOf (outL mo141.items r)) :=
  call_of hm hT (ok_O191 k) (fn := Tryd.f141) (c := c141) Tryd.func141 rfl rfl rfl (lk141 k) rfl (by decide) rfl h1 h2 h3
noncomputable def O141 (k : Nat) : Orc := fun R f args K => bif Nat.beq f 141 then callF mi141 mo141 (F141 k) args K else O191 k R f args K
theorem ok_O141 (k : Nat) : OrcOK (O141 k) (CallOK Tryd.prog) := orc_add (fn141 k) (ok_O191 k)
noncomputable def F192 (k : Nat) (v : Int × Unit) : Option (List (Ty.den (.int .u8)) × Unit) := sel (decide (0 ≤ v.1)) (sel (decide (v.1 * 1 ≤ 140737488355328)) (some ([], ())) none) none
noncomputable def O192 (k : Nat) : Orc := fun R f args K => bif Nat.beq f 192 then (match args with | [.nilsl, .int .i64 n] => ocall (F192 k (n, ())) fun r => K (.own (.int .u8) r.1) | _ => none) else O141 k R f args K
theorem ok_O192 (k : Nat) : OrcOK (O192 k) (CallOK Tryd.prog) := by
  intro R f args K r h
  unfold O192 at h
  cases hb : Nat.beq f 192 with
  | false => rw [hb] at h; exact ok_O141 k R f args K r h
  | true =>
    rw [hb] at h
    rw [Nat.eq_of_beq_eq_true hb]
    simp only [cond_true] at h
    split at h
    · rename_i m
      unfold F192 at h
      by_cases h0 : 0 ≤ m
      · rw [sel_pos h0] at h
        by_cases h1 : m * 1 ≤ 140737488355328
        · rw [sel_pos h1] at h
          obtain ⟨ti, d, z, E⟩ := hT.get (t := 5) (i := ⟨.int .u8, 1, 1, (.int .u8), [.int .u8 0], [], [], true, false, [], []⟩) rfl
          exact ⟨_, Grow192.calls E (by decide) m h0 h1 (by omega), h⟩
        · rw [sel_neg h1] at h; cases h
      · rw [sel_neg h0] at h; cases h
    · cases h
noncomputable def c142 : Code := Tryd.f142.body.getD .skip
noncomputable def mi142 : Msk := ⟨[(.tmp 0, .val (.slice (.slice (.int .u8))))], []⟩
noncomputable def mo142 : Msk := ⟨[(.tmp 2, .row false (.int .u8))], []⟩
noncomputable def L142_3 (k : Nat) : LOrc := fun _ _ _ _ => none
noncomputable def b142_3 : Code := (findLoop 3 c142).getD .skip
noncomputable def m142_3 : Msk := ⟨[(.tmp 0, .val (.slice (.slice (.int .u8)))), (.tmp 3, .val (.int .i64)), (.tmp 9, .val (.slice (.slice (.int .u8)))), (.tmp 10, .val (.int .i64)), (.tmp 11, .val (.int .i64))], []⟩
noncomputable def x142_3 : List (X × Msk) := [(.exit 0, ⟨[(.tmp 0, .val (.slice (.slice (.int .u8)))), (.tmp 3, .val (.int .i64))], []⟩)]
noncomputable def F142_3 (k : Nat) : Nat → m142_3.den → Option (denE x142_3)
  | 0, _ => none
  | j + 1, v => round TI (O192 k) (L142_3 k) b142_3 m142_3 x142_3 (F142_3 k j) v
theorem lk142_3_ (k : Nat) : LinksOK Tryd.prog 36 (L142_3 k) b142_3 := (And.intro True.intro (And.intro (And.intro True.intro True.intro) (And.intro (And.intro True.intro (And.intro True.intro (And.intro True.intro (And.intro True.intro True.intro)))) True.intro)))
noncomputable def L142_11 (k : Nat) : LOrc := fun _ _ _ _ => none
noncomputable def b142_11 : Code := (findLoop 11 c142).getD .skip
noncomputable def m142_11 : Msk := ⟨[(.tmp 6, .row false (.int .u8)), (.tmp 25, .val (.slice (.slice (.int .u8)))), (.tmp 26, .val (.int .i64)), (.tmp 27, .val (.int .i64))], []⟩
noncomputable def x142_11 : List (X × Msk) := [(.exit 2, ⟨[(.tmp 6, .row false (.int .u8))], []⟩)]
noncomputable def F142_11 (k : Nat) : Nat → m142_11.den → Option (denE x142_11)
  | 0, _ => none
  | j + 1, v => round TI (O192 k) (L142_11 k) b142_11 m142_11 x142_11 (F142_11 k j) v
theorem lk142_11_ (k : Nat) : LinksOK Tryd.prog 36 (L142_11 k) b142_11 := (And.intro True.intro (And.intro (And.intro True.intro True.intro) (And.intro (And.intro True.intro True.intro) True.intro)))
noncomputable def L142 (k : Nat) : LOrc := fun R lk s K => match lk with
  | .loop r => bif Nat.beq r 3 then link m142_3 x142_3 (F142_3 k k) s K else bif Nat.beq r 11 then link m142_11 x142_11 (F142_11 k k) s K else none
  | .label l => none
theorem lk_L142_3 (k : Nat) : LoopOK Tryd.prog 36 (L142 k) b142_3 := loopOK_of hm hT (ok_O192 k) (fun _ _ _ h => h) rfl (lk142_3_ k) rfl rfl (F := F142_3 k) (fun _ => rfl) (fun _ _ => rfl) (n := k) fun _ _ _ => rfl
theorem lk_L142_11 (k : Nat) : LoopOK Tryd.prog 36 (L142 k) b142_11 := loopOK_of hm hT (ok_O192 k) (fun _ _ _ h => h) rfl (lk142_11_ k) rfl rfl (F := F142_11 k) (fun _ => rfl) (fun _ _ => rfl) (n := k) fun _ _ _ => rfl
noncomputable def F142 (k : Nat) (v : mi142.den) : Option mo142.den := runF TI (O192 k) (L142 k) c142 mi142 mo142 v
theorem lk142 (k : Nat) : LinksOK Tryd.prog 36 (L142 k) c142 := (And.intro True.intro (And.intro True.intro (And.intro (And.intro True.intro (lk_L142_3 k)) (And.intro True.intro (And.intro (And.intro True.intro (lk_L142_11 k)) (And.intro True.intro True.intro))))))
theorem fn142 (k : Nat) (args : List AV) (x : mi142.den) (r : mo142.den) (h1 : args.length = mi142.items.length) (h2 : mi142.dec (Th.start args) = some x) (h3 : F142 k x = some r) : CallOK Tryd.prog 142 args (ansOf (outL mo142.items r)) :=
  call_of hm hT (ok_O192 k) (fn := Tryd.f142) (c := c142) Tryd.func142 rfl rfl rfl (lk142 k) rfl (by decide) rfl h1 h2 h3
noncomputable def O142 (k : Nat) : Orc := fun R f args K => bif Nat.beq f 142 then callF mi142 mo142 (F142 k) args K else O192 k R f args K
theorem ok_O142 (k : Nat) : OrcOK (O142 k) (CallOK Tryd.prog) := orc_add (fn142 k) (ok_O192 k)
noncomputable def c79 : Code := Tryd.f79.body.getD .skip
noncomputable def mi79 : Msk := ⟨[(.tmp 0, .val (.st (.cons .str (.cons (.slice (.st (.cons (.int .i64) (.cons .str .nil)))) .nil))))], []⟩
noncomputable def mo79 : Msk := ⟨[(.tmp 2, .row false (.int .u8)), (.tmp 3, .val (.int .i64))], []⟩
noncomputable def L79_6 (k : Nat) : LOrc := fun _ _ _ _ => none
noncomputable def b79_6 : Code := (findLoop 6 c79).getD .skip
noncomputable def m79_6 : Msk := ⟨[(.tmp 1, .ptr 1 0), (.tmp 4, .row false (.int .i64)), (.tmp 5, .row false (.int .u8)), (.tmp 18, .val (.slice (.st (.cons (.int .i64) (.cons .str .nil))))), (.tmp 19, .val (.int .i64)), (.tmp 20, .val (.int .i64)), (.cell 1 0, .val .str), (.cell 1 1, .val (.slice (.st (.cons (.int .i64) (.cons .str .nil)))))], [(1, 2)]⟩
noncomputable def x79_6 : List (X × Msk) := [(.exit 0, ⟨[(.tmp 1, .ptr 1 0), (.tmp 4, .row false (.int .i64)), (.tmp 5, .row false (.int .u8)), (.cell 1 0, .val .str), (.cell 1 1, .val (.slice (.st (.cons (.int .i64) (.cons .str .nil)))))], [(1, 2)]⟩)]
noncomputable def F79_6 (k : Nat) : Nat → m79_6.den → Option (denE x79_6)
  | 0, _ => none
  | j + 1, v => round TI (O142 k) (L79_6 k) b79_6 m79_6 x79_6 (F79_6 k j) v
theorem lk79_6_ (k : Nat) : LinksOK Tryd.prog 58 (L79_6 k) b79_6 := (And.intro True.intro (And.intro (And.intro True.intro True.intro) (And.intro (And.intro True.intro (And.intro True.intro True.intro)) True.intro)))
noncomputable def L79 (k : Nat) : LOrc := fun R lk s K => match lk with
  | .loop r => bif Nat.beq r 6 then link m79_6 x79_6 (F79_6 k k) s K else none
  | .label l => none
theorem lk_L79_6 (k : Nat) : LoopOK Tryd.prog 58 (L79 k) b79_6 := loopOK_of hm hT (ok_O142 k) (fun _ _ _ h => h) rfl (lk79_6_ k) rfl rfl (F := F79_6 k) (fun _ => rfl) (fun _ _ => rfl) (n := k) fun _ _ _ => rfl
noncomputable def F79 (k : Nat) (v : mi79.den) : Option mo79.den := runF TI (O142 k) (L79 k) c79 mi79 mo79 v
theorem lk79 (k : Nat) : LinksOK Tryd.prog 58 (L79 k) c79 := (And.intro True.intro (And.intro (And.intro True.intro (And.intro (And.intro True.intro True.intro) True.intro)) (And.intro True.intro (And.intro True.intro (And.intro (And.intro True.intro (lk_L79_6 k)) (And.intro True.intro (And.intro True.intro (And.intro True.intro True.intro))))))))
theorem fn79 (k : Nat) (args : List AV) (x : mi79.den) (r : mo79.den) (h1 : args.length = mi79.items.length) (h2 : mi79.dec (Th.start args) = some x) (h3 : F79 k x = some r) : CallOK Tryd.prog 79 args (ansOf (outL mo79.items r)) :=
  call_of hm hT (ok_O142 k) (fn := Tryd.f79) (c := c79) Tryd.func79 rfl rfl rfl (lk79 k) rfl (by decide) rfl h1 h2 h3
noncomputable def O79 (k : Nat) : Orc := fun R f args K => bif Nat.beq f 79 then callF mi79 mo79 (F79 k) args K else O142 k R f args K
theorem ok_O79 (k : Nat) : OrcOK (O79 k) (CallOK Tryd.prog) := orc_add (fn79 k) (ok_O142 k)
noncomputable def c215 : Code := Tryd.f215.body.getD .skip
noncomputable def mi215 : Msk := ⟨[(.tmp 0, .val (.slice (.int .u8)))], []⟩
noncomputable def mo215 : Msk := ⟨[(.tmp 2, .val (.int .u64))], []⟩
noncomputable def L215_3 (k : Nat) : LOrc := fun _ _ _ _ => none
noncomputable def b215_3 : Code := (findLoop 3 c215).getD .skip
noncomputable def m215_3 : Msk := ⟨[(.tmp 3, .val (.int .u64)), (.tmp 7, .val (.slice (.int .u8))), (.tmp 8, .val (.int .i64)), (.tmp 9, .val (.int .i64))], []⟩
noncomputable def x215_3 : List (X × Msk) := [(.exit 0, ⟨[(.tmp 3, .val (.int .u64))], []⟩)]
noncomputable def F215_3 (k : Nat) : Nat → m215_3.den → Option (denE x215_3)
  | 0, _ => none
  | j + 1, v => round TI (O79 k) (L215_3 k) b215_3 m215_3 x215_3 (F215_3 k j) v
theorem lk215_3_ (k : Nat) : LinksOK Tryd.prog 20 (L215_3 k) b215_3 := (And.intro True.intro (And.intro (And.intro True.intro True.intro) (And.intro (And.intro True.intro True.intro) True.intro)))
noncomputable def L215 (k : Nat) : LOrc := fun R lk s K => match lk with
  | .loop r => bif Nat.beq r 3 then link m215_3 x215_3 (F215_3 k k) s K else none
  | .label l => none
theorem lk_L215_3 (k : Nat) : LoopOK Tryd.prog 20 (L215 k) b215_3 := loopOK_of hm hT (ok_O79 k) (fun _ _ _ h => h) rfl (lk215_3_ k) rfl rfl (F := F215_3 k) (fun _ => rfl) (fun _ _ => rfl) (n := k) fun _ _ _ => rfl
noncomputable def F215 (k : Nat) (v : mi215.den) : Option mo215.den := runF TI (O79 k) (L215 k) c215 mi215 mo215 v
theorem lk215 (k : Nat) : LinksOK Tryd.prog 20 (L215 k) c215 := (And.intro True.intro (And.intro True.intro (And.intro (And.intro True.intro (lk_L215_3 k)) (And.intro True.intro True.intro))))
theorem fn215 (k : Nat) (args : List AV) (x : mi215.den) (r : mo215.den) (h1 : args.length = mi215.items.length) (h2 : mi215.dec (Th.start args) = some x) (h3 : F215 k x = some r) : CallOK Tryd.prog 215 args (ansOf (outL mo215.items r)) :=
  call_of hm hT (ok_O79 k) (fn := Tryd.f215) (c := c215) Tryd.func215 rfl rfl rfl (lk215 k) rfl (by decide) rfl h1 h2 h3
noncomputable def O215 (k : Nat) : Orc := fun R f args K => bif Nat.beq f 215 then callF mi215 mo215 (F215 k) args K else O79 k R f args K
theorem ok_O215 (k : Nat) : OrcOK (O215 k) (CallOK Tryd.prog) := orc_add (fn215 k) (ok_O79 k)
noncomputable def c193 : Code := Tryd.f193.body.getD .skip
noncomputable def mi193 : Msk := ⟨[(.tmp 0, .val (.slice (.int .u8)))], []⟩
noncomputable def mo193 : Msk := ⟨[(.res 2, .val (.st (.cons (.int .u64) (.cons (.int .u64) .nil)))), (.tmp 3, .val (.int .i64)), (.tmp 4, .val (.int .i64))], []⟩
noncomputable def L193 (k : Nat) : LOrc := fun _ _ _ _ => none
noncomputable def F193 (k : Nat) (v : mi193.den) : Option mo193.den := runF TI (O215 k) (L193 k) c193 mi193 mo193 v
theorem lk193 (k : Nat) : LinksOK Tryd.prog 30 (L193 k) c193 := (And.intro True.intro (And.intro (And.intro True.intro (And.intro (And.intro True.intro True.intro) True.intro)) (And.intro True.intro (And.intro True.intro (And.intro (And.intro True.intro (And.intro (And.intro (And.intro True.intro (And.intro (And.intro True.intro True.intro) True.intro)) (And.intro True.intro True.intro)) True.intro)) (And.intro (And.intro True.intro (And.intro (And.intro True.intro True.intro) True.intro)) (And.intro True.intro True.intro)))))))
theorem fn193 (k : Nat) (args : List AV) (x : mi193.den) (r : mo193.den) (h1 : args.length = mi193.items.length) (h2 : mi193.dec (Th.start args) = some x) (h3 : F193 k x = some r) : CallOK Tryd.prog 193 args (ansOf (outL mo193.items r)) :=
  call_of hm hT (ok_O215 k) (fn := Tryd.f193) (c := c193) Tryd.func193 rfl rfl rfl (lk193 k) rfl (by decide) rfl h1 h2 h3
noncomputable def O193 (k : Nat) : Orc := fun R f args K => bif Nat.beq f 193 then callF mi193 mo193 (F193 k) args K else O215 k R f args K
theorem ok_O193 (k : Nat) : OrcOK (O193 k) (CallOK Tryd.prog) := orc_add (fn193 k) (ok_O215 k)
noncomputable def c216 : Code := Tryd.f216.body.getD .skip
noncomputable def mi216 : Msk := ⟨[(.tmp 0, .val (.st (.cons (.int .u64) (.cons (.int .u64) .nil)))), (.tmp 1, .val (.int .i64))], []⟩
noncomputable def mo216 : Msk := ⟨[(.tmp 4, .val .bool)], []⟩
noncomputable def L216 (k : Nat) : LOrc := fun _ _ _ _ => none
noncomputable def F216 (k : Nat) (v : mi216.den) : Option mo216.den := runF TI (O193 k) (L216 k) c216 mi216 mo216 v
theorem lk216 (k : Nat) : LinksOK Tryd.prog 12 (L216 k) c216 := (And.intro True.intro (And.intro True.intro True.intro))
theorem fn216 (k : Nat) (args : List AV) (x : mi216.den) (r : mo216.den) (h1 : args.length = mi216.items.length) (h2 : mi216.dec (Th.start args) = some x) (h3 : F216 k x = some r) : CallOK Tryd.prog 216 args (ansOf (outL mo216.items r)) :=
  call_of hm hT (ok_O193 k) (fn := Tryd.f216) (c := c216) Tryd.func216 rfl rfl rfl (lk216 k) rfl (by decide) rfl h1 h2 h3
noncomputable def O216 (k : Nat) : Orc := fun R f args K => bif Nat.beq f 216 then callF mi216 mo216 (F216 k) args K else O193 k R f args K
theorem ok_O216 (k : Nat) : OrcOK (O216 k) (CallOK Tryd.prog) := orc_add (fn216 k) (ok_O193 k)
noncomputable def c194 : Code := Tryd.f194.body.getD .skip
noncomputable def mi194 : Msk := ⟨[(.tmp 0, .val (.st (.cons (.int .u64) (.cons (.int .u64) .nil))))], []⟩
noncomputable def mo194 : Msk := ⟨[(.tmp 2, .row false (.int .i64))], []⟩
noncomputable def L194_g0 (k : Nat) : LOrc := fun _ _ _ _ => none
noncomputable def b194_g0 : Code := (findScope 0 c194).getD .skip
noncomputable def l194_g0 : List (X × Msk) := [(.goto 0, ⟨[(.tmp 1, .ptr 1 0), (.tmp 3, .row false (.int .i64)), (.tmp 4, .val (.int .i64)), (.cell 1 0, .val (.int .u64)), (.cell 1 1, .val (.int .u64))], [(1, 2)]⟩)]
noncomputable def x194_g0 : List (X × Msk) := [(.ret, ⟨[(.tmp 2, .row false (.int .i64))], []⟩)]
noncomputable def F194_g0 (k : Nat) : Nat → denE l194_g0 → Option (denE x194_g0)
  | 0, _ => none
  | j + 1, v => pass TI (O216 k) (L194_g0 k) b194_g0 l194_g0 x194_g0 (F194_g0 k j) v
theorem lk194_g0_ (k : Nat) : LinksOK Tryd.prog 17 (L194_g0 k) b194_g0 := (And.intro True.intro (And.intro True.intro (And.intro True.intro (And.intro (And.intro True.intro (And.intro True.intro True.intro)) (And.intro True.intro (And.intro (And.intro True.intro (And.intro True.intro True.intro)) (And.intro True.intro True.intro)))))))
noncomputable def L194 (k : Nat) : LOrc := fun R lk s K => match lk with
  | .loop r => none
  | .label l => (match findLabel b194_g0 l with | some _ => linkJ l194_g0 x194_g0 (F194_g0 k k) l s K | none => none)
theorem lk_L194_g0 (k : Nat) : JumpsOK Tryd.prog 17 (L194 k) b194_g0 := jumpsOK_of hm hT (ok_O216 k) (fun _ _ _ h => h) rfl (lk194_g0_ k) rfl rfl (F := F194_g0 k) (fun _ => rfl) (fun _ _ => rfl) (n := k) fun R l s K rest hf => by
  show (match findLabel b194_g0 l with | some _ => linkJ l194_g0 x194_g0 (F194_g0 k k) l s K | none => none) = _
  rw [hf]
noncomputable def F194 (k : Nat) (v : mi194.den) : Option mo194.den := runF TI (O216 k) (L194 k) c194 mi194 mo194 v
theorem lk194 (k : Nat) : LinksOK Tryd.prog 17 (L194 k) c194 := (And.intro True.intro (And.intro (lk_L194_g0 k) (And.intro True.intro (And.intro True.intro (And.intro True.intro (And.intro (And.intro True.intro (And.intro True.intro True.intro)) (And.intro True.intro (And.intro (And.intro True.intro (And.intro True.intro True.intro)) (And.intro True.intro True.intro)))))))))
theorem fn194 (k : Nat) (args : List AV) (x : mi194.den) (r : mo194.den) (h1 : args.length = mi194.items.length) (h2 : mi194.dec (Th.start args) = some x) (h3 : F194 k x = some r) : CallOK Tryd.prog 194 args (ansOf (outL mo194.items r)) :=
  call_of hm hT (ok_O216 k) (fn := Tryd.f194) (c := c194) Tryd.func194 rfl rfl rfl (lk194 k) rfl (by decide) rfl h1 h2 h3
noncomputable def O194 (k : Nat) : Orc := fun R f args K => bif Nat.beq f 194 then callF mi194 mo194 (F194 k) args K else O216 k R f args K
theorem ok_O194 (k : Nat) : OrcOK (O194 k) (CallOK Tryd.prog) := orc_add (fn194 k) (ok_O216 k)
noncomputable def c143 : Code := Tryd.f143.body.getD .skip
noncomputable def mi143 : Msk := ⟨[(.tmp 0, .val (.slice (.int .u8)))], []⟩
noncomputable def mo143 : Msk := ⟨[(.tmp 2, .val .str), (.tmp 3, .row false (.int .i64)), (.tmp 4, .val (.slice (.int .u8))), (.tmp 5, .val (.int .i64))], []⟩
noncomputable def L143 (k : Nat) : LOrc := fun _ _ _ _ => none
noncomputable def F143 (k : Nat) (v : mi143.den) : Option mo143.den := runF TI (O194 k) (L143 k) c143 mi143 mo143 v
theorem lk143 (k : Nat) : LinksOK Tryd.prog 36 (L143 k) c143 := (And.intro True.intro (And.intro (And.intro True.intro (And.intro (And.intro True.intro True.intro) (And.intro True.intro (And.intro (And.intro True.intro True.intro) True.intro)))) (And.intro True.intro (And.intro True.intro True.intro))))
theorem fn143 (k : Nat) (args : List AV) (x : mi143.den) (r : mo143.den) (h1 : args.length = mi143.items.length) (h2 : mi143.dec (Th.start args) = some x) (h3 : F143 k x = some r) : CallOK Tryd.prog 143 args (ansOf (outL mo143.items r)) :=
  call_of hm hT (ok_O194 k) (fn := Tryd.f143) (c := c143) Tryd.func143 rfl rfl rfl (lk143 k) rfl (by decide) rfl h1 h2 h3
noncomputable def O143 (k : Nat) : Orc := fun R f args K => bif Nat.beq f 143 then callF mi143 mo143 (F143 k) args K else O194 k R f args K
theorem ok_O143 (k : Nat) : OrcOK (O143 k) (CallOK Tryd.prog) := orc_add (fn143 k) (ok_O194 k)
noncomputable def c80 : Code := Tryd.f80.body.getD .skip
noncomputable def mi80 : Msk := ⟨[(.tmp 0, .val (.slice (.int .u8)))], []⟩
noncomputable def mo80 : Msk := ⟨[(.res 2, .val (.st (.cons .str (.cons (.slice (.st (.cons (.int .i64) (.cons .str .nil)))) .nil)))), (.tmp 3, .val (.int .i64))], []⟩
noncomputable def L80_8 (k : Nat) : LOrc := fun _ _ _ _ => none
noncomputable def b80_8 : Code := (findLoop 8 c80).getD .skip
noncomputable def m80_8 : Msk := ⟨[(.tmp 2, .ptr 2 0), (.tmp 6, .val (.slice (.int .u8))), (.tmp 8, .ptr 8 0), (.tmp 33, .row false (.int .i64)), (.tmp 34, .val (.int .i64)), (.tmp 35, .val (.int .i64)), (.cell 2 0, .val .str), (.cell 2 1, .row false (.st (.cons (.int .i64) (.cons .str .nil)))), (.cell 8 0, .val .str), (.cell 8 1, .row false (.st (.cons (.int .i64) (.cons .str .nil))))], [(2, 2), (8, 2)]⟩
noncomputable def x80_8 : List (X × Msk) := [(.exit 1, ⟨[(.tmp 2, .ptr 2 0), (.tmp 6, .val (.slice (.int .u8))), (.tmp 8, .ptr 8 0), (.cell 2 0, .val .str), (.cell 2 1, .row false (.st (.cons (.int .i64) (.cons .str .nil)))), (.cell 8 0, .val .str), (.cell 8 1, .row false (.st (.cons (.int .i64) (.cons .str .nil))))], [(2, 2), (8, 2)]⟩), (.ret, ⟨[(.tmp 2, .ptr 2 0), (.tmp 3, .val (.int .i64)), (.cell 2 0, .val .str), (.cell 2 1, .row false (.st (.cons (.int .i64) (.cons .str .nil))))], [(2, 2)]⟩)]
noncomputable def F80_8 (k : Nat) : Nat → m80_8.den → Option (denE x80_8)
  | 0, _ => none
  | j + 1, v => round TI (O143 k) (L80_8 k) b80_8 m80_8 x80_8 (F80_8 k j) v
theorem lk80_8_ (k : Nat) : LinksOK Tryd.prog 67 (L80_8 k) b80_8 := (And.intro True.intro (And.intro (And.intro True.intro True.intro) (And.intro (And.intro True.intro (And.intro True.intro (And.intro (And.intro True.intro (And.intro (And.intro True.intro True.intro) True.intro)) True.intro))) True.intro)))
noncomputable def L80 (k : Nat) : LOrc := fun R lk s K => match lk with
  | .loop r => bif Nat.beq r 8 then link m80_8 x80_8 (F80_8 k k) s K else none
  | .label l => none
theorem lk_L80_8 (k : Nat) : LoopOK Tryd.prog 67 (L80 k) b80_8 := loopOK_of hm hT (ok_O143 k) (fun _ _ _ h => h) rfl (lk80_8_ k) rfl rfl (F := F80_8 k) (fun _ => rfl) (fun _ _ => rfl) (n := k) fun _ _ _ => rfl
noncomputable def F80 (k : Nat) (v : mi80.den) : Option mo80.den := runF TI (O143 k) (L80 k) c80 mi80 mo80 v
theorem lk80 (k : Nat) : LinksOK Tryd.prog 67 (L80 k) c80 := (And.intro True.intro (And.intro True.intro (And.intro (And.intro True.intro (And.intro (And.intro True.intro True.intro) (And.intro True.intro (And.intro (And.intro True.intro True.intro) True.intro)))) (And.intro True.intro (And.intro (And.intro True.intro (lk_L80_8 k)) (And.intro (And.intro True.intro (And.intro (And.intro True.intro True.intro) True.intro)) (And.intro True.intro True.intro)))))))
theorem fn80 (k : Nat) (args : List AV) (x : mi80.den) (r : mo80.den) (h1 : args.length = mi80.items.length) (h2 : mi80.dec (Th.start args) = some x) (h3 : F80 k x = some r) : CallOK Tryd.prog 80 args (ansOf (outL mo80.items r)) :=
  call_of hm hT (ok_O143 k) (fn := Tryd.f80) (c := c80) Tryd.func80 rfl rfl rfl (lk80 k) rfl (by decide) rfl h1 h2 h3
noncomputable def O80 (k : Nat) : Orc := fun R f args K => bif Nat.beq f 80 then callF mi80 mo80 (F80 k) args K else O143 k R f args K
theorem ok_O80 (k : Nat) : OrcOK (O80 k) (CallOK Tryd.prog) := orc_add (fn80 k) (ok_O143 k)
noncomputable def c17 : Code := Tryd.f17.body.getD .skip
noncomputable def mi17 : Msk := ⟨[(.tmp 0, .val (.st (.cons (.int .i64) (.cons .str (.cons (.int .u64) (.cons (.int .u32) (.cons .str (.cons .str .nil)))))))), (.tmp 1, .val (.int .u8)), (.tmp 2, .val (.int .u8))], []⟩
noncomputable def mo17 : Msk := ⟨[(.tmp 6, .val .bool)], []⟩
noncomputable def L17 (k : Nat) : LOrc := fun _ _ _ _ => none
noncomputable def F17 (k : Nat) (v : mi17.den) : Option mo17.den := runF TI (O80 k) (L17 k) c17 mi17 mo17 v
theorem lk17 (k : Nat) : LinksOK Tryd.prog 108 (L17 k) c17 := (And.intro True.intro (And.intro (And.intro True.intro (And.intro (And.intro True.intro True.intro) True.intro)) (And.intro (And.intro True.intro (And.intro (And.intro True.intro True.intro) True.intro)) (And.intro True.intro (And.intro True.intro (And.intro (And.intro True.intro (And.intro (And.intro True.intro True.intro) True.intro)) (And.intro True.intro (And.intro True.intro (And.intro (And.intro True.intro (And.intro (And.intro True.intro True.intro) True.intro)) (And.intro True.intro (And.intro True.intro (And.intro True.intro (And.intro (And.intro True.intro (And.intro (And.intro True.intro True.intro) True.intro)) (And.intro True.intro (And.intro True.intro True.intro)))))))))))))))
theorem fn17 (k : Nat) (args : List AV) (x : mi17.den) (r : mo17.den) (h1 : args.length = mi17.items.length) (h2 : mi17.dec (Th.start args) = some x) (h3 : F17 k x = some r) : CallOK Tryd.prog 17 args (ansOf (outL mo17.items r)) :=
  call_of hm hT (ok_O80 k) (fn := Tryd.f17) (c := c17) Tryd.func17 rfl rfl rfl (lk17 k) rfl (by decide) rfl h1 h2 h3
noncomputable def O17 (k : Nat) : Orc := fun R f args K => bif Nat.beq f 17 then callF mi17 mo17 (F17 k) args K else O80 k R f args K
theorem ok_O17 (k : Nat) : OrcOK (O17 k) (CallOK Tryd.prog) := orc_add (fn17 k) (ok_O80 k)
noncomputable def c145 : Code := Tryd.f145.body.getD .skip
noncomputable def mi145 : Msk := ⟨[(.tmp 0, .val (.int .i64))], []⟩
noncomputable def mo145 : Msk := ⟨[(.tmp 2, .row false (.int .i64))], []⟩
noncomputable def L145 (k : Nat) : LOrc := fun _ _ _ _ => none
noncomputable def F145 (k : Nat) (v : mi145.den) : Option mo145.den := runF TI (O17 k) (L145 k) c145 mi145 mo145 v
theorem lk145 (k : Nat) : LinksOK Tryd.prog 10 (L145 k) c145 := (And.intro True.intro (And.intro (And.intro True.intro (And.intro True.intro (And.intro (And.intro True.intro True.intro) (And.intro True.intro (And.intro (And.intro True.intro True.intro) True.intro))))) (And.intro True.intro True.intro)))
theorem fn145 (k : Nat) (args : List AV) (x : mi145.den) (r : mo145.den) (h1 : args.length = mi145.items.length) (h2 : mi145.dec (Th.start args) = some x) (h3 : F145 k x = some r) : CallOK Tryd.prog 145 args (ansOf (outL mo145.items r)) :=
  call_of hm hT (ok_O17 k) (fn := Tryd.f145) (c := c145) Tryd.func145 rfl rfl rfl (lk145 k) rfl (by decide) rfl h1 h2 h3
noncomputable def O145 (k : Nat) : Orc := fun R f args K => bif Nat.beq f 145 then callF mi145 mo145 (F145 k) args K else O17 k R f args K
theorem ok_O145 (k : Nat) : OrcOK (O145 k) (CallOK Tryd.prog) := orc_add (fn145 k) (ok_O17 k)
noncomputable def c82 : Code := Tryd.f82.body.getD .skip
noncomputable def mi82 : Msk := ⟨[(.tmp 0, .val (.int .i64)), (.tmp 1, .val (.slice (.int .u8)))], []⟩
noncomputable def mo82 : Msk := ⟨[(.res 4, .val (.st (.cons (.int .i64) (.cons (.st (.cons (.int .i64) (.cons .str (.cons (.int .u64) (.cons (.int .u32) (.cons .str (.cons .str .nil))))))) .nil)))), (.tmp 5, .val .bool)], []⟩
noncomputable def L82_8 (k : Nat) : LOrc := fun _ _ _ _ => none
noncomputable def b82_8 : Code := (findLoop 8 c82).getD .skip
noncomputable def m82_8 : Msk := ⟨[(.tmp 4, .ptr 4 0), (.tmp 8, .ptr 8 0), (.tmp 29, .row false (.int .i64)), (.tmp 30, .val (.int .i64)), (.tmp 31, .val (.int .i64)), (.cell 4 0, .val (.int .i64)), (.cell 4 1, .val (.int .i64)), (.cell 4 2, .val .str), (.cell 4 3, .val (.int .u64)), (.cell 4 4, .val (.int .u32)), (.cell 4 5, .val .str), (.cell 4 6, .val .str), (.cell 8 0, .val (.int .i64)), (.cell 8 1, .val .str), (.cell 8 2, .val (.int .u64)), (.cell 8 3, .val (.int .u32)), (.cell 8 4, .val .str), (.cell 8 5, .val .str)], [(4, 7), (8, 6)]⟩
noncomputable def x82_8 : List (X × Msk) := [(.exit 0, ⟨[(.tmp 4, .ptr 4 0), (.cell 4 0, .val (.int .i64)), (.cell 4 1, .val (.int .i64)), (.cell 4 2, .val .str), (.cell 4 3, .val (.int .u64)), (.cell 4 4, .val (.int .u32)), (.cell 4 5, .val .str), (.cell 4 6, .val .str)], [(4, 7)]⟩), (.ret, ⟨[(.tmp 4, .ptr 4 0), (.tmp 5, .val .bool), (.cell 4 0, .val (.int .i64)), (.cell 4 1, .val (.int .i64)), (.cell 4 2, .val .str), (.cell 4 3, .val (.int .u64)), (.cell 4 4, .val (.int .u32)), (.cell 4 5, .val .str), (.cell 4 6, .val .str)], [(4, 7)]⟩)]
noncomputable def F82_8 (k : Nat) : Nat → m82_8.den → Option (denE x82_8)
  | 0, _ => none
  | j + 1, v => round TI (O145 k) (L82_8 k) b82_8 m82_8 x82_8 (F82_8 k j) v
theorem lk82_8_ (k : Nat) : LinksOK Tryd.prog 43 (L82_8 k) b82_8 := (And.intro True.intro (And.intro (And.intro True.intro True.intro) (And.intro (And.intro True.intro (And.intro True.intro (And.intro True.intro (And.intro (And.intro True.intro True.intro) True.intro)))) True.intro)))
noncomputable def L82 (k : Nat) : LOrc := fun R lk s K => match lk with
  | .loop r => bif Nat.beq r 8 then link m82_8 x82_8 (F82_8 k k) s K else none
  | .label l => none
theorem lk_L82_8 (k : Nat) : LoopOK Tryd.prog 43 (L82 k) b82_8 := loopOK_of hm hT (ok_O145 k) (fun _ _ _ h => h) rfl (lk82_8_ k) rfl rfl (F := F82_8 k) (fun _ => rfl) (fun _ _ => rfl) (n := k) fun _ _ _ => rfl
noncomputable def F82 (k : Nat) (v : mi82.den) : Option mo82.den := runF TI (O145 k) (L82 k) c82 mi82 mo82 v
theorem lk82 (k : Nat) : LinksOK Tryd.prog 43 (L82 k) c82 := (And.intro True.intro (And.intro True.intro (And.intro (And.intro True.intro (And.intro (And.intro True.intro True.intro) True.intro)) (And.intro True.intro (And.intro (And.intro True.intro (And.intro (And.intro True.intro True.intro) True.intro)) (And.intro (And.intro True.intro (lk_L82_8 k)) (And.intro True.intro True.intro)))))))
theorem fn82 (k : Nat) (args : List AV) (x : mi82.den) (r : mo82.den) (h1 : args.length = mi82.items.length) (h2 : mi82.dec (Th.start args) = some x) (h3 : F82 k x = some r) : CallOK Tryd.prog 82 args (ansOf (outL mo82.items r)) :=
  call_of hm hT (ok_O145 k) (fn := Tryd.f82) (c := c82) Tryd.func82 rfl rfl rfl (lk82 k) rfl (by decide) rfl h1 h2 h3
noncomputable def O82 (k : Nat) : Orc := fun R f args K => bif Nat.beq f 82 then callF mi82 mo82 (F82 k) args K else O145 k R f args K
theorem ok_O82 (k : Nat) : OrcOK (O82 k) (CallOK Tryd.prog) := orc_add (fn82 k) (ok_O145 k)
noncomputable def c150 : Code := Tryd.f150.body.getD .skip
noncomputable def mi150 : Msk := ⟨[(.tmp 0, .val (.slice (.int .u8)))], []⟩
noncomputable def mo150 : Msk := ⟨[(.tmp 2, .val (.int .i64))], []⟩
noncomputable def L150 (k : Nat) : LOrc := fun _ _ _ _ => none
noncomputable def F150 (k : Nat) (v : mi150.den) : Option mo150.den := runF TI (O82 k) (L150 k) c150 mi150 mo150 v
theorem lk150 (k : Nat) : LinksOK Tryd.prog 30 (L150 k) c150 := (And.intro True.intro (And.intro (And.intro True.intro (And.intro (And.intro True.intro True.intro) True.intro)) (And.intro True.intro (And.intro (And.intro (And.intro True.intro (And.intro True.intro True.intro)) (And.intro (And.intro True.intro True.intro) (And.intro True.intro (And.intro (And.intro True.intro True.intro) True.intro)))) (And.intro True.intro True.intro)))))
theorem fn150 (k : Nat) (args : List AV) (x : mi150.den) (r : mo150.den) (h1 : args.length = mi150.items.length) (h2 : mi150.dec (Th.start args) = some x) (h3 : F150 k x = some r) : CallOK Tryd.prog 150 args (ansOf (outL mo150.items r)) :=
  call_of hm hT (ok_O82 k) (fn := Tryd.f150) (c := c150) Tryd.func150 rfl rfl rfl (lk150 k) rfl (by decide) rfl h1 h2 h3
noncomputable def O150 (k : Nat) : Orc := fun R f args K => bif Nat.beq f 150 then callF mi150 mo150 (F150 k) args K else O82 k R f args K
theorem ok_O150 (k : Nat) : OrcOK (O150 k) (CallOK Tryd.prog) := orc_add (fn150 k) (ok_O82 k)
noncomputable def c87 : Code := Tryd.f87.body.getD .skip
noncomputable def mi87 : Msk := ⟨[(.tmp 0, .val (.st (.cons (.slice (.int .u8)) (.cons .bool .nil))))], []⟩
noncomputable def mo87 : Msk := ⟨[(.tmp 2, .val .bool)], []⟩
noncomputable def L87 (k : Nat) : LOrc := fun _ _ _ _ => none
noncomputable def F87 (k : Nat) (v : mi87.den) : Option mo87.den := runF TI (O150 k) (L87 k) c87 mi87 mo87 v
theorem lk87 (k : Nat) : LinksOK Tryd.prog 13 (L87 k) c87 := (And.intro True.intro (And.intro (And.intro True.intro (And.intro (And.intro True.intro True.intro) True.intro)) (And.intro True.intro True.intro)))
theorem fn87 (k : Nat) (args : List AV) (x : mi87.den) (r : mo87.den) (h1 : args.length = mi87.items.length) (h2 : mi87.dec (Th.start args) = some x) (h3 : F87 k x = some r) : CallOK Tryd.prog 87 args (ansOf (outL mo87.items r)) :=
  call_of hm hT (ok_O150 k) (fn := Tryd.f87) (c := c87) Tryd.func87 rfl rfl rfl (lk87 k) rfl (by decide) rfl h1 h2 h3
noncomputable def O87 (k : Nat) : Orc := fun R f args K => bif Nat.beq f 87 then callF mi87 mo87 (F87 k) args K else O150 k R f args K
theorem ok_O87 (k : Nat) : OrcOK (O87 k) (CallOK Tryd.prog) := orc_add (fn87 k) (ok_O150 k)
noncomputable def c147 : Code := Tryd.f147.body.getD .skip
noncomputable def mo147 : Msk := ⟨[(.tmp 2, .row false (.int .u8))], []⟩
noncomputable def L147 : LOrc := fun _ _ _ _ => none
noncomputable def F147 (k : Nat) (l : List (Ty.den (.int .u8))) : Option mo147.den := run TI (O87 k) L147 c147 (Th.start [.nsl (.int .u8) l]) (endF mo147)
theorem fn147 (k : Nat) (l : List (Ty.den (.int .u8))) (r : mo147.den) (h : F147 k l = some r) : CallOK Tryd.prog 147 [.sl (.int .u8) l] (ansOf (outL mo147.items r)) :=
  call_nil hm hT (ok_O87 k) (fn := Tryd.f147) (c := c147) Tryd.func147 rfl rfl rfl ((And.intro True.intro (And.intro (And.intro True.intro (And.intro (And.intro True.intro True.intro) True.intro)) (And.intro True.intro True.intro))) : LinksOK Tryd.prog 8 L147 c147) (by decide) rfl (fun e => by subst e; exact h) h
noncomputable def O147 (k : Nat) : Orc := fun R f args K => bif Nat.beq f 147 then callN (.int .u8) mo147 (F147 k) args K else O87 k R f args K
theorem ok_O147 (k : Nat) : OrcOK (O147 k) (CallOK Tryd.prog) := orc_addN (fn147 k) (ok_O87 k)
noncomputable def c88 : Code := Tryd.f88.body.getD .skip
noncomputable def mi88 : Msk := ⟨[(.tmp 0, .val (.st (.cons (.slice (.int .u8)) (.cons .bool .nil)))), (.tmp 1, .val (.slice (.int .u8)))], []⟩
noncomputable def mo88 : Msk := ⟨[(.res 4, .val (.st (.cons (.slice (.int .u8)) (.cons .bool .nil)))), (.tmp 5, .row false (.slice (.int .u8))), (.tmp 6, .val (.int .i64))], []⟩
noncomputable def L88_g0 (k : Nat) : LOrc := fun _ _ _ _ => none
noncomputable def b88_g0 : Code := (findScope 0 c88).getD .skip
noncomputable def l88_g0 : List (X × Msk) := [(.goto 0, ⟨[(.tmp 4, .ptr 4 0), (.tmp 7, .val (.slice (.int .u8))), (.tmp 8, .row false (.slice (.int .u8))), (.cell 4 0, .row false (.int .u8)), (.cell 4 1, .val .bool)], [(4, 2)]⟩)]
noncomputable def x88_g0 : List (X × Msk) := [(.ret, ⟨[(.tmp 4, .ptr 4 0), (.tmp 5, .row false (.slice (.int .u8))), (.tmp 6, .val (.int .i64)), (.cell 4 0, .val (.slice (.int .u8))), (.cell 4 1, .val .bool)], [(4, 2)]⟩)]
noncomputable def F88_g0 (k : Nat) : Nat → denE l88_g0 → Option (denE x88_g0)
  | 0, _ => none
  | j + 1, v => pass TI (O147 k) (L88_g0 k) b88_g0 l88_g0 x88_g0 (F88_g0 k j) v
theorem lk88_g0_ (k : Nat) : LinksOK Tryd.prog 46 (L88_g0 k) b88_g0 := (And.intro (And.intro True.intro (And.intro (And.intro True.intro True.intro) (And.intro True.intro (And.intro (And.intro True.intro True.intro) True.intro)))) (And.intro True.intro (And.intro True.intro (And.intro True.intro (And.intro True.intro (And.intro (And.intro True.intro (And.intro (And.intro True.intro (And.intro True.intro True.intro)) True.intro)) (And.intro (And.intro True.intro (And.intro (And.intro True.intro True.intro) True.intro)) (And.intro True.intro True.intro))))))))
noncomputable def L88 (k : Nat) : LOrc := fun R lk s K => match lk with
  | .loop r => none
  | .label l => (match findLabel b88_g0 l with | some _ => linkJ l88_g0 x88_g0 (F88_g0 k k) l s K | none => none)
theorem lk_L88_g0 (k : Nat) : JumpsOK Tryd.prog 46 (L88 k) b88_g0 := jumpsOK_of hm hT (ok_O147 k) (fun _ _ _ h => h) rfl (lk88_g0_ k) rfl rfl (F := F88_g0 k) (fun _ => rfl) (fun _ _ => rfl) (n := k) fun R l s K rest hf => by
  show (match findLabel b88_g0 l with | some _ => linkJ l88_g0 x88_g0 (F88_g0 k k) l s K | none => none) = _
  rw [hf]
noncomputable def F88 (k : Nat) (v : mi88.den) : Option mo88.den := runF TI (O147 k) (L88 k) c88 mi88 mo88 v
theorem lk88 (k : Nat) : LinksOK Tryd.prog 46 (L88 k) c88 := (And.intro True.intro (And.intro (lk_L88_g0 k) (And.intro (And.intro True.intro (And.intro (And.intro True.intro True.intro) (And.intro True.intro (And.intro (And.intro True.intro True.intro) True.intro)))) (And.intro True.intro (And.intro True.intro (And.intro True.intro (And.intro True.intro (And.intro (And.intro True.intro (And.intro (And.intro True.intro (And.intro True.intro True.intro)) True.intro)) (And.intro (And.intro True.intro (And.intro (And.intro True.intro True.intro) True.intro)) (And.intro True.intro True.intro))))))))))
theorem fn88 (k : Nat) (args : List AV) (x : mi88.den) (r : mo88.den) (h1 : args.length = mi88.items.length) (h2 : mi88.dec (Th.start args) = some x) (h3 : F88 k x = some r) : CallOK Tryd.prog 88 args (ansOf (outL mo88.items r)) :=
  call_of hm hT (ok_O147 k) (fn := Tryd.f88) (c := c88) Tryd.func88 rfl rfl rfl (lk88 k) rfl (by decide) rfl h1 h2 h3
noncomputable def O88 (k : Nat) : Orc := fun R f args K => bif Nat.beq f 88 then callF mi88 mo88 (F88 k) args K else O147 k R f args K
theorem ok_O88 (k : Nat) : OrcOK (O88 k) (CallOK Tryd.prog) := orc_add (fn88 k) (ok_O147 k)
noncomputable def c84 : Code := Tryd.f84.body.getD .skip
noncomputable def mi84 : Msk := ⟨[(.tmp 0, .val (.st (.cons (.slice (.int .u8)) (.cons .bool .nil)))), (.tmp 1, .val (.slice (.int .u8)))], []⟩
noncomputable def mo84 : Msk := ⟨[(.res 4, .val (.st (.cons (.slice (.int .u8)) (.cons .bool .nil)))), (.tmp 5, .val (.slice (.int .u8))), (.tmp 6, .val (.slice (.int .u8))), (.tmp 7, .val (.int .i64))], []⟩
noncomputable def L84_g0 (k : Nat) : LOrc := fun _ _ _ _ => none
noncomputable def b84_g0 : Code := (findScope 0 c84).getD .skip
noncomputable def l84_g0 : List (X × Msk) := [(.goto 0, ⟨[(.tmp 1, .val (.slice (.int .u8))), (.tmp 2, .ptr 2 0), (.tmp 4, .ptr 4 0), (.tmp 8, .val (.int .i64)), (.cell 2 0, .val (.slice (.int .u8))), (.cell 2 1, .val .bool), (.cell 4 0, .row false (.int .u8)), (.cell 4 1, .val .bool)], [(2, 2), (4, 2)]⟩)]
noncomputable def x84_g0 : List (X × Msk) := [(.ret, ⟨[(.tmp 4, .ptr 4 0), (.tmp 5, .row false (.int .u8)), (.tmp 6, .val (.slice (.int .u8))), (.tmp 7, .val (.int .i64)), (.cell 4 0, .val (.slice (.int .u8))), (.cell 4 1, .val .bool)], [(4, 2)]⟩)]
noncomputable def F84_g0 (k : Nat) : Nat → denE l84_g0 → Option (denE x84_g0)
  | 0, _ => none
  | j + 1, v => pass TI (O88 k) (L84_g0 k) b84_g0 l84_g0 x84_g0 (F84_g0 k j) v
theorem lk84_g0_ (k : Nat) : LinksOK Tryd.prog 59 (L84_g0 k) b84_g0 := (And.intro (And.intro True.intro (And.intro (And.intro True.intro True.intro) (And.intro True.intro (And.intro (And.intro True.intro True.intro) True.intro)))) (And.intro True.intro (And.intro True.intro (And.intro (And.intro True.intro (And.intro (And.intro True.intro True.intro) True.intro)) (And.intro True.intro (And.intro True.intro (And.intro True.intro (And.intro (And.intro True.intro (And.intro (And.intro True.intro True.intro) (And.intro True.intro (And.intro True.intro True.intro)))) (And.intro True.intro True.intro)))))))))
noncomputable def L84 (k : Nat) : LOrc := fun R lk s K => match lk with
  | .loop r => none
  | .label l => (match findLabel b84_g0 l with | some _ => linkJ l84_g0 x84_g0 (F84_g0 k k) l s K | none => none)
theorem lk_L84_g0 (k : Nat) : JumpsOK Tryd.prog 59 (L84 k) b84_g0 := jumpsOK_of hm hT (ok_O88 k) (fun _ _ _ h => h) rfl (lk84_g0_ k) rfl rfl (F := F84_g0 k) (fun _ => rfl) (fun _ _ => rfl) (n := k) fun R l s K rest hf => by
  show (match findLabel b84_g0 l with | some _ => linkJ l84_g0 x84_g0 (F84_g0 k k) l s K | none => none) = _
  rw [hf]
noncomputable def F84 (k : Nat) (v : mi84.den) : Option mo84.den := runF TI (O88 k) (L84 k) c84 mi84 mo84 v
theorem lk84 (k : Nat) : LinksOK Tryd.prog 59 (L84 k) c84 := (And.intro True.intro (And.intro (lk_L84_g0 k) (And.intro (And.intro True.intro (And.intro (And.intro True.intro True.intro) (And.intro True.intro (And.intro (And.intro True.intro True.intro) True.intro)))) (And.intro True.intro (And.intro True.intro (And.intro (And.intro True.intro (And.intro (And.intro True.intro True.intro) True.intro)) (And.intro True.intro (And.intro True.intro (And.intro True.intro (And.intro (And.intro True.intro (And.intro (And.intro True.intro True.intro) (And.intro True.intro (And.intro True.intro True.intro)))) (And.intro True.intro True.intro)))))))))))
theorem fn84 (k : Nat) (args : List AV) (x : mi84.den) (r : mo84.den) (h1 : args.length = mi84.items.length) (h2 : mi84.dec (Th.start args) = some x) (h3 : F84 k x = some r) : CallOK Tryd.prog 84 args (ansOf (outL mo84.items r)) :=
  call_of hm hT (ok_O88 k) (fn := Tryd.f84) (c := c84) Tryd.func84 rfl rfl rfl (lk84 k) rfl (by decide) rfl h1 h2 h3
noncomputable def O84 (k : Nat) : Orc := fun R f args K => bif Nat.beq f 84 then callF mi84 mo84 (F84 k) args K else O88 k R f args K
theorem ok_O84 (k : Nat) : OrcOK (O84 k) (CallOK Tryd.prog) := orc_add (fn84 k) (ok_O88 k)
noncomputable def c81 : Code := Tryd.f81.body.getD .skip
noncomputable def mi81 : Msk := ⟨[], []⟩
noncomputable def mo81 : Msk := ⟨[(.tmp 0, .val .bool)], []⟩
noncomputable def L81 (k : Nat) : LOrc := fun _ _ _ _ => none
noncomputable def F81 (k : Nat) (v : mi81.den) : Option mo81.den := runF TI (O84 k) (L81 k) c81 mi81 mo81 v
theorem lk81 (k : Nat) : LinksOK Tryd.prog 103 (L81 k) c81 := (And.intro True.intro (And.intro True.intro (And.intro True.intro (And.intro True.intro (And.intro True.intro (And.intro True.intro (And.intro True.intro (And.intro True.intro True.intro))))))))
theorem fn81 (k : Nat) (args : List AV) (x : mi81.den) (r : mo81.den) (h1 : args.length = mi81.items.length) (h2 : mi81.dec (Th.start args) = some x) (h3 : F81 k x = some r) : CallOK Tryd.prog 81 args (ansOf (outL mo81.items r)) :=
  call_of hm hT (ok_O84 k) (fn := Tryd.f81) (c := c81) Tryd.func81 rfl rfl rfl (lk81 k) rfl (by decide) rfl h1 h2 h3
noncomputable def O81 (k : Nat) : Orc := fun R f args K => bif Nat.beq f 81 then callF mi81 mo81 (F81 k) args K else O84 k R f args K
theorem ok_O81 (k : Nat) : OrcOK (O81 k) (CallOK Tryd.prog) := orc_add (fn81 k) (ok_O84 k)
noncomputable def c20 : Code := Tryd.f20.body.getD .skip
noncomputable def mi20 : Msk := ⟨[(.tmp 0, .val (.st (.cons (.int .i64) (.cons .str (.cons (.int .u64) (.cons (.int .u32) (.cons .str (.cons .str .nil)))))))), (.tmp 1, .val (.int .i64))], []⟩
noncomputable def mo20 : Msk := ⟨[(.tmp 4, .val .bool)], []⟩
noncomputable def L20 (k : Nat) : LOrc := fun _ _ _ _ => none
noncomputable def F20 (k : Nat) (v : mi20.den) : Option mo20.den := runF TI (O81 k) (L20 k) c20 mi20 mo20 v
theorem lk20 (k : Nat) : LinksOK Tryd.prog 121 (L20 k) c20 := (And.intro True.intro (And.intro (And.intro True.intro (And.intro (And.intro True.intro True.intro) True.intro)) (And.intro (And.intro True.intro (And.intro (And.intro True.intro True.intro) True.intro)) (And.intro True.intro (And.intro True.intro (And.intro (And.intro True.intro (And.intro (And.intro True.intro True.intro) True.intro)) (And.intro True.intro (And.intro True.intro (And.intro True.intro (And.intro True.intro (And.intro True.intro (And.intro True.intro True.intro))))))))))))
theorem fn20 (k : Nat) (args : List AV) (x : mi20.den) (r : mo20.den) (h1 : args.length = mi20.items.length) (h2 : mi20.dec (Th.start args) = some x) (h3 : F20 k x = some r) : CallOK Tryd.prog 20 args (ansOf (outL mo20.items r)) :=
  call_of hm hT (ok_O81 k) (fn := Tryd.f20) (c := c20) Tryd.func20 rfl rfl rfl (lk20 k) rfl (by decide) rfl h1 h2 h3
noncomputable def O20 (k : Nat) : Orc := fun R f args K => bif Nat.beq f 20 then callF mi20 mo20 (F20 k) args K else O81 k R f args K
theorem ok_O20 (k : Nat) : OrcOK (O20 k) (CallOK Tryd.prog) := orc_add (fn20 k) (ok_O81 k)
end Go.Proofs.YtjgnpmdbkgeakaaDoor.G
end
section
set_option maxRecDepth 1000000
set_option linter.unusedVariables false
set_option linter.unusedSimpArgs false
namespace Go.Proofs.YtjgnpmdbkgeakaaDoor.G
open Go Go.Proofs.YtjgnpmdbkgeakaaDoor Th
noncomputable def G175_2 (k : Nat) (j : Nat) (v : Int × List (Int × Int × Int × Unit) × Int × Int × Int × Int × Int × Unit) : Option (Int × Int × Int × Unit ⊕ Bool × Int × Int × Int × Unit) := F175_2 k j v
theorem G175_2_eq (k : Nat) (j : Nat) (v0 : Int) (v1 : List (Int × Int × Int × Unit)) (v2 v3 v4 v5 v6 : Int) : G175_2 k (j + 1) (v0, v1, v2, v3, v4, v5, v6, ()) = sel (decide (v3 < v2)) (sel (decide (0 ≤ v3)) (sel (decide (v3 < Int.ofNat v1.length)) (sel (decide (v3.toNat < v1.length)) (sel
 (decide ((v1.getD v3.toNat (0, 0, 0, ())).1 = v0)) (some (Sum.inr (true, (v1.getD v3.toNat (0, 0, 0, ())).1, (v1.getD v3.toNat (0, 0, 0, ())).2.1, (v1.getD v3.toNat (0, 0, 0, ())).2.2.1, ()))) (G175_2 k j (v0, v1, v2, IntKind.i64.wrap (v3 + 1), v4, v5, v6,
 ()))) none) none) none) (some (Sum.inl (v4, v5, v6, ()))) := by kernel_rfl
noncomputable def G175 (k : Nat) (v : Int × Unit) : Option ((Int × Int × Int × Unit) × Bool × Unit) := F175 k v
theorem G175_eq (k : Nat) (v0 : Int) : G175 k (v0, ()) = ocall (G175_2 k k (v0, [(2, 3, 19, ()), (3, 1, 6, ()), (4, 1, 12, ()), (7, 1, 10, ()), (11, 1, 6, ()), (12, 1, 6, ()), (37, 2, 12, ()), (38, 2, 6, ()), (39, 2, 2,
 ()), (41, 2, 8, ()), (44, 4, 25, ()), (48, 5, 999, ()), (49, 1, 3, ()), (90, 1, 42, ()), (120, 5, 999, ())], Int.ofNat 15, 0, 0, 0, 0, ())) fun e => esel e (fun v => some ((0, 0, 0, ()), false, ())) fun e => some
 ((e.2.1, e.2.2.1, e.2.2.2.1, ()), e.1, ()) := by kernel_rfl
noncomputable def G176 (k : Nat) (v : (Int × Int × Int × Unit) × Unit) : Option ((Int × Int × Unit) × Unit ⊕ (Int × Unit) × Unit) := F176 k v
theorem G176_eq (k : Nat) (v0 v1 v2 : Int) : G176 k ((v0, v1, v2, ()), ()) = sel (decide (v1 = 3)) (sel (decide (v1 = 3)) (some (Sum.inl ((2, v2, ()), ()))) (sel (decide (v1 = 5)) (some (Sum.inl ((3, v2, ()), ()))) (some (Sum.inr ((v2, ()),
 ()))))) (sel (decide (v1 = 4)) (some (Sum.inl ((2, v2, ()), ()))) (sel (decide (v1 = 5)) (some (Sum.inl ((3, v2, ()), ()))) (some (Sum.inr ((v2, ()), ()))))) := by kernel_rfl
noncomputable def G246 (k : Nat) (v : (Int × Int × Unit) × Int × Unit) : Option (Bool × Unit) := F246 k v
theorem G246_eq (k : Nat) (v0 v1 v2 : Int) : G246 k ((v0, v1, ()), v2, ()) = sel (decide (1 ≤ v2)) (some (decide (v2 ≤ v1), ())) (some (false, ())) := by kernel_rfl
noncomputable def G248 (k : Nat) (v : (Int × Unit) × Int × Unit) : Option (Bool × Unit) := F248 k v
theorem G248_eq (k : Nat) (v0 v1 : Int) : G248 k ((v0, ()), v1, ()) = some (decide (v1 = v0), ()) := by kernel_rfl
noncomputable def G169_g0 (k : Nat) (j : Nat) (v : List UInt8 × Int × Unit) : Option (Bool × Unit) := F169_g0 k j v
theorem G169_g0_eq (k : Nat) (j : Nat) (v0 : List UInt8) (v1 : Int) : G169_g0 k (j + 1) (v0, v1, ()) = sel (decide (v1 = Int.ofNat v0.length)) (some (decide (0 < v1), ())) (sel (decide (0 ≤ v1)) (sel (decide (v1 < Int.ofNat v0.length)) (sel (decide (Int.ofNat (v0.getD v1.toNat
 0).toNat < 48)) (some (false, ())) (sel (decide (0 ≤ v1)) (sel (decide (v1 < Int.ofNat v0.length)) (sel (decide (57 < Int.ofNat (v0.getD v1.toNat 0).toNat)) (some (false, ())) (G169_g0 k j (v0, IntKind.i64.wrap (v1 + 1), ()))) none) none)) none) none) := by kernel_rfl
noncomputable def G169 (k : Nat) (v : List UInt8 × Unit) : Option (Bool × Unit) := F169 k v
theorem G169_eq (k : Nat) (v0 : List UInt8) : G169 k (v0, ()) = sel (decide (0 = Int.ofNat v0.length)) (some (false, ())) (sel (decide (0 < Int.ofNat v0.length)) (sel (decide (Int.ofNat (v0.getD (Int.toNat 0) 0).toNat < 48)) (some (false, ())) (sel (decide (0 < Int.ofNat
 v0.length)) (sel (decide (57 < Int.ofNat (v0.getD (Int.toNat 0) 0).toNat)) (some (false, ())) (ocall (G169_g0 k k (v0, IntKind.i64.wrap (0 + 1), ())) fun e => some (e.1, ()))) none)) none) := by kernel_rfl
noncomputable def G177 (k : Nat) (v : (Int × Int × Int × Unit) × List UInt8 × Unit) : Option (Bool × Unit) := F177 k v
theorem G177_eq (k : Nat) (v0 v1 v2 : Int) (v3 : List UInt8) : G177 k ((v0, v1, v2, ()), v3, ()) = sel (decide (v3.length ≤ 9223372036854775807)) (ocall (G169 k (v3, ())) fun r => some (Signs.signsOf v1 r.1 v3, ())) none := by kernel_rfl
noncomputable def G117 (k : Nat) (v : Int × List UInt8 × Unit) : Option (Bool × Unit) := F117 k v
theorem G117_eq (k : Nat) (v0 : Int) (v1 : List UInt8) : G117 k (v0, v1, ()) = ocall (G175 k (v0, ())) fun r => sel r.2.1 (ocall (G176 k ((r.1.1, r.1.2.1, r.1.2.2.1, ()), ())) fun r_1 => esel r_1 (fun v => ocall (G246 k ((v.1.1, v.1.2.1, ()), Int.ofNat
 v1.length, ())) fun r_2 => sel r_2.1 (ocall (G177 k ((r.1.1, r.1.2.1, r.1.2.2.1, ()), v1, ())) fun r => some (r.1, ())) (some (false, ()))) fun e => ocall (G248 k ((e.1.1, ()), Int.ofNat v1.length, ())) fun r_2 => sel r_2.1 (ocall (G177 k
 ((r.1.1, r.1.2.1, r.1.2.2.1, ()), v1, ())) fun r => some (r.1, ())) (some (false, ()))) (some (false, ())) := by kernel_rfl
noncomputable def G245 (k : Nat) (v : (Int × Int × Unit) × Unit) : Option (Int × Unit) := F245 k v
theorem G245_eq (k : Nat) (v0 v1 : Int) : G245 k ((v0, v1, ()), ()) = some (v0, ()) := by kernel_rfl
noncomputable def G247 (k : Nat) (v : (Int × Unit) × Unit) : Option (Int × Unit) := F247 k v
theorem G247_eq (k : Nat) (v0 : Int) : G247 k ((v0, ()), ()) = some (0, ()) := by kernel_rfl
noncomputable def G105_5 (k : Nat) (j : Nat) (v : Int × List Int × Int × Unit) : Option (Int × List Int × Unit) := F105_5 k j v
theorem G105_5_eq (k : Nat) (j : Nat) (v0 : Int) (v1 : List Int) (v2 : Int) : G105_5 k (j + 1) (v0, v1, v2, ()) = sel (decide (0 ≤ v2)) (sel (decide (0 ≤ v2)) (sel (decide (v2 < Int.ofNat v1.length)) (sel (decide (v2.toNat < v1.length)) (G105_5 k j (IntKind.u64.wrap (v0.tdiv 10), v1.set
 v2.toNat (IntKind.u8.wrap (48 + IntKind.u8.wrap (v0.tmod 10))), IntKind.i64.wrap (v2 - 1), ())) none) none) none) (some (v0, v1, ())) := by kernel_rfl
noncomputable def G105 (k : Nat) (v : Int × Int × Unit) : Option (List UInt8 × Int × Unit) := F105 k v
theorem G105_eq (k : Nat) (v0 v1 : Int) : G105 k (v0, v1, ()) = sel (decide (v1 < 1)) (some ([], 1, ())) (sel (decide (19 < v1)) (some ([], 1, ())) (sel (decide (0 ≤ v1)) (sel (decide (v1 ≤ v1)) (sel (decide (v1 ≤ 140737488355328)) (sel (decide (v1 * Int.ofNat 1 ≤
 140737488355328)) (ocall (G105_5 k k (v0, List.replicate v1.toNat 0, IntKind.i64.wrap (v1 - 1), ())) fun e => sel (decide (0 < e.1)) (some ([], 10, ())) (some (ofBytes e.2.1, 0, ()))) none) none) none) none)) := by kernel_rfl
noncomputable def G139 (k : Nat) (v : Int × List UInt8 × Unit) : Option (List Int × Int × Unit) := F139 k v
theorem G139_eq (k : Nat) (v0 : Int) (v1 : List UInt8) : G139 k (v0, v1, ()) = ocall (G175 k (v0, ())) fun r => sel (!r.2.1) (some ([], 5, ())) (ocall (G117 k (v0, v1, ())) fun r_1 => sel (!r_1.1) (some ([], 1, ())) (ocall (G176 k ((r.1.1, r.1.2.1, r.1.2.2.1,
 ()), ())) fun r => esel r (fun v => ocall (G245 k ((v.1.1, v.1.2.1, ()), ())) fun r => sel (decide (0 < r.1)) (ocall (G105 k (IntKind.u64.wrap (Int.ofNat v1.length), r.1, ())) fun r => sel (decide (r.1.length + v1.length ≤ 140737488355328)) (some (toBytes (r.1
 ++ v1), 0, ())) none) (some (toBytes v1, 0, ()))) fun e => ocall (G247 k ((e.1.1, ()), ())) fun r => sel (decide (0 < r.1)) (ocall (G105 k (IntKind.u64.wrap (Int.ofNat v1.length), r.1, ())) fun r => sel (decide (r.1.length + v1.length ≤ 140737488355328)) (some
 (toBytes (r.1 ++ v1), 0, ())) none) (some (toBytes v1, 0, ())))) := by kernel_rfl
noncomputable def G172_9 (k : Nat) (j : Nat) (v : Int × List Int × Int × Int × Unit) : Option (Int × Unit) := F172_9 k j v
theorem G172_9_eq (k : Nat) (j : Nat) (v0 : Int) (v1 : List Int) (v2 v3 : Int) : G172_9 k (j + 1) (v0, v1, v2, v3, ()) = sel (decide (v3 < v2)) (sel (decide (0 ≤ v3)) (sel (decide (v3 < Int.ofNat v1.length)) (sel (decide (v3.toNat < v1.length)) (G172_9 k j (IntKind.u64.wrap (IntKind.u64.wrap
 (10 * v0) + IntKind.u64.wrap (IntKind.u8.wrap (v1.getD v3.toNat 0 - 48))), v1, v2, IntKind.i64.wrap (v3 + 1), ())) none) none) none) (some (v0, ())) := by kernel_rfl
noncomputable def G172 (k : Nat) (v : List UInt8 × Unit) : Option (Int × Int × Unit) := F172 k v
theorem G172_eq (k : Nat) (v0 : List UInt8) : G172 k (v0, ()) = sel (decide (v0 = [])) (some (0, 2, ())) (sel (decide (19 < Int.ofNat v0.length)) (some (0, 4, ())) (ocall (G169 k (v0, ())) fun r => sel (!r.1) (some (0, 3, ())) (ocall (G172_9 k k (0, toBytes
 v0, Int.ofNat (toBytes v0).length, 0, ())) fun e => some (e.1, 0, ())))) := by kernel_rfl
noncomputable def G195 (k : Nat) (v : (Int × Int × Int × Unit) × List Int × Unit) : Option (Int × Int × Unit) := F195 k v
theorem G195_eq (k : Nat) (v0 v1 v2 : Int) (v3 : List Int) : G195 k ((v0, v1, v2, ()), v3, ()) = ocall (G176 k ((v0, v1, v2, ()), ())) fun r => esel r (fun v => ocall (G245 k ((v.1.1, v.1.2.1, ()), ())) fun r => sel (decide (r.1 = 0)) (some (v2, 0,
 ())) (sel (decide (Int.ofNat v3.length < r.1)) (some (0, 2, ())) (sel (decide (Int.ofNat 0 ≤ r.1)) (sel (decide (r.1 ≤ Int.ofNat v3.length)) (sel (decide (Int.ofNat v3.length ≤ Int.ofNat v3.length)) (ocall (G172 k (ofBytes (List.drop (Int.ofNat 0).toNat (List.take r.1.toNat v3)),
 ())) fun r => sel (!decide (r.2.1 = 0)) (sel (!decide (r.2.1 = 0)) (some (0, 3, ())) (sel (decide (IntKind.u64.wrap v2 < r.1)) (some (0, 4, ())) (some (IntKind.i64.wrap r.1, 0, ())))) (sel (decide (r.1 = 0)) (some (0, 3, ())) (sel (decide (IntKind.u64.wrap v2
 < r.1)) (some (0, 4, ())) (some (IntKind.i64.wrap r.1, 0, ()))))) none) none) none))) fun e => ocall (G247 k ((e.1.1, ()), ())) fun r => sel (decide (r.1 = 0)) (some (v2, 0, ())) (sel (decide (Int.ofNat v3.length < r.1)) (some (0, 2, ())) (sel (decide
 (Int.ofNat 0 ≤ r.1)) (sel (decide (r.1 ≤ Int.ofNat v3.length)) (sel (decide (Int.ofNat v3.length ≤ Int.ofNat v3.length)) (ocall (G172 k (ofBytes (List.drop (Int.ofNat 0).toNat (List.take r.1.toNat v3)), ())) fun r => sel (!decide (r.2.1 = 0)) (sel (!decide (r.2.1 = 0)) (some (0, 3,
 ())) (sel (decide (IntKind.u64.wrap v2 < r.1)) (some (0, 4, ())) (some (IntKind.i64.wrap r.1, 0, ())))) (sel (decide (r.1 = 0)) (some (0, 3, ())) (sel (decide (IntKind.u64.wrap v2 < r.1)) (some (0, 4, ())) (some (IntKind.i64.wrap r.1, 0, ()))))) none)
 none) none)) := by kernel_rfl
noncomputable def G144 (k : Nat) (v : Int × List Int × Unit) : Option (List UInt8 × Int × Int × Unit) := F144 k v
theorem G144_eq (k : Nat) (v0 : Int) (v1 : List Int) : G144 k (v0, v1, ()) = ocall (G175 k (v0, ())) fun r => sel (!r.2.1) (some ([], 0, 5, ())) (ocall (G195 k ((r.1.1, r.1.2.1, r.1.2.2.1, ()), v1, ())) fun r_1 => sel (!decide (r_1.2.1 = 0)) (some ([], 0,
 r_1.2.1, ())) (ocall (G176 k ((r.1.1, r.1.2.1, r.1.2.2.1, ()), ())) fun r_2 => esel r_2 (fun v => ocall (G245 k ((v.1.1, v.1.2.1, ()), ())) fun r_3 => sel (decide (Int.ofNat v1.length < IntKind.i64.wrap (r_3.1 + r_1.1))) (some ([], 0, 2, ())) (sel
 (decide (0 ≤ r_3.1)) (sel (decide (r_3.1 ≤ IntKind.i64.wrap (r_3.1 + r_1.1))) (sel (decide (IntKind.i64.wrap (r_3.1 + r_1.1) ≤ Int.ofNat v1.length)) (sel (decide (Int.ofNat v1.length ≤ Int.ofNat v1.length)) (ocall (G177 k ((r.1.1, r.1.2.1, r.1.2.2.1, ()), ofBytes (List.drop r_3.1.toNat
 (List.take (IntKind.i64.wrap (r_3.1 + r_1.1)).toNat v1)), ())) fun r => sel (!r.1) (some ([], 0, 3, ())) (some (ofBytes (List.drop r_3.1.toNat (List.take (IntKind.i64.wrap (r_3.1 + r_1.1)).toNat v1)), IntKind.i64.wrap (r_3.1 + r_1.1), 0, ()))) none) none) none) none)) fun e
 => ocall (G247 k ((e.1.1, ()), ())) fun r_3 => sel (decide (Int.ofNat v1.length < IntKind.i64.wrap (r_3.1 + r_1.1))) (some ([], 0, 2, ())) (sel (decide (0 ≤ r_3.1)) (sel (decide (r_3.1 ≤ IntKind.i64.wrap (r_3.1 + r_1.1))) (sel (decide (IntKind.i64.wrap (r_3.1 + r_1.1) ≤
 Int.ofNat v1.length)) (sel (decide (Int.ofNat v1.length ≤ Int.ofNat v1.length)) (ocall (G177 k ((r.1.1, r.1.2.1, r.1.2.2.1, ()), ofBytes (List.drop r_3.1.toNat (List.take (IntKind.i64.wrap (r_3.1 + r_1.1)).toNat v1)), ())) fun r => sel (!r.1) (some ([], 0, 3, ())) (some
 (ofBytes (List.drop r_3.1.toNat (List.take (IntKind.i64.wrap (r_3.1 + r_1.1)).toNat v1)), IntKind.i64.wrap (r_3.1 + r_1.1), 0, ()))) none) none) none) none))) := by kernel_rfl
noncomputable def G202 (k : Nat) (v : Unit) : Option (List Int × Unit) := F202 k v
theorem G202_eq (k : Nat) : G202 k () = some ([2, 3, 19, 3, 1, 6, 4, 1, 12, 7, 1, 10, 11, 1, 6, 12, 1, 6, 37, 2, 12, 38, 2, 6, 39, 2, 2, 41, 2, 8, 44, 4, 25, 48, 5, 999, 49, 1, 3, 90, 1, 42, 120, 5, 999], ()) := by kernel_rfl
noncomputable def G164_3 (k : Nat) (j : Nat) (v : Int × List Int × Int × Int × Int × Int × Unit) : Option (Int × Int × Int × Unit ⊕ Bool × Int × Int × Int × Unit) := F164_3 k j v
theorem G164_3_eq (k : Nat) (j : Nat) (v0 : Int) (v1 : List Int) (v2 v3 v4 v5 : Int) : G164_3 k (j + 1) (v0, v1, v2, v3, v4, v5, ()) = sel (decide (v2 < Int.ofNat v1.length)) (sel (decide (0 ≤ v2)) (sel (decide (v2 < Int.ofNat v1.length)) (sel (decide (v2.toNat < v1.length)) (sel (decide
 (v1.getD v2.toNat 0 = v0)) (sel (decide (0 ≤ v2)) (sel (decide (v2 < Int.ofNat v1.length)) (sel (decide (v2.toNat < v1.length)) (sel (decide (0 ≤ IntKind.i64.wrap (v2 + 1))) (sel (decide (IntKind.i64.wrap (v2 + 1) < Int.ofNat v1.length)) (sel (decide ((IntKind.i64.wrap (v2 + 1)).toNat < v1.length))
 (sel (decide (0 ≤ IntKind.i64.wrap (v2 + 2))) (sel (decide (IntKind.i64.wrap (v2 + 2) < Int.ofNat v1.length)) (sel (decide ((IntKind.i64.wrap (v2 + 2)).toNat < v1.length)) (some (Sum.inr (true, v1.getD v2.toNat 0, v1.getD (IntKind.i64.wrap (v2 + 1)).toNat 0, v1.getD (IntKind.i64.wrap (v2 + 2)).toNat
 0, ()))) none) none) none) none) none) none) none) none) none) (G164_3 k j (v0, v1, IntKind.i64.wrap (v2 + 3), v3, v4, v5, ()))) none) none) none) (some (Sum.inl (v3, v4, v5, ()))) := by kernel_rfl
noncomputable def G164 (k : Nat) (v : Int × Unit) : Option ((Int × Int × Int × Unit) × Bool × Unit) := F164 k v
theorem G164_eq (k : Nat) (v0 : Int) : G164 k (v0, ()) = ocall (G202 k ()) fun r => ocall (G164_3 k k (v0, r.1, 0, 0, 0, 0, ())) fun e => esel e (fun v => some ((0, 0, 0, ()), false, ())) fun e => some ((e.2.1, e.2.2.1, e.2.2.2.1, ()), e.1, ())
 := by kernel_rfl
noncomputable def G171_2 (k : Nat) (j : Nat) (v : List UInt8 × Int × Unit) : Option (List UInt8 × Unit ⊕ Bool × Unit) := F171_2 k j v
theorem G171_2_eq (k : Nat) (j : Nat) (v0 : List UInt8) (v1 : Int) : G171_2 k (j + 1) (v0, v1, ()) = sel (decide (v1 < Int.ofNat v0.length)) (sel (decide (0 ≤ v1)) (sel (decide (v1 < Int.ofNat v0.length)) (sel (decide (Int.ofNat (v0.getD v1.toNat 0).toNat < 48)) (some (Sum.inr (false,
 ()))) (sel (decide (0 ≤ v1)) (sel (decide (v1 < Int.ofNat v0.length)) (sel (decide (57 < Int.ofNat (v0.getD v1.toNat 0).toNat)) (some (Sum.inr (false, ()))) (G171_2 k j (v0, IntKind.i64.wrap (v1 + 1), ()))) none) none)) none) none) (some (Sum.inl (v0, ()))) := by
 kernel_rfl
noncomputable def G171 (k : Nat) (v : List UInt8 × Unit) : Option (Bool × Unit) := F171 k v
theorem G171_eq (k : Nat) (v0 : List UInt8) : G171 k (v0, ()) = ocall (G171_2 k k (v0, 0, ())) fun e => esel e (fun v => some (decide (0 < Int.ofNat v.1.length), ())) fun e => some (e.1, ()) := by kernel_rfl
noncomputable def G120_9 (k : Nat) (j : Nat) (v : List UInt8 × Int × Int × Unit) : Option (Int × Unit) := F120_9 k j v
theorem G120_9_eq (k : Nat) (j : Nat) (v0 : List UInt8) (v1 v2 : Int) : G120_9 k (j + 1) (v0, v1, v2, ()) = sel (decide (v2 < Int.ofNat v0.length)) (sel (decide (0 ≤ v2)) (sel (decide (v2 < Int.ofNat v0.length)) (G120_9 k j (v0, IntKind.u64.wrap (IntKind.u64.wrap (IntKind.u64.wrap (10 * v1)
 + IntKind.u64.wrap (Int.ofNat (v0.getD v2.toNat 0).toNat)) - 48), IntKind.i64.wrap (v2 + 1), ())) none) none) (some (v1, ())) := by kernel_rfl
noncomputable def G120 (k : Nat) (v : List UInt8 × Unit) : Option (Int × Int × Unit) := F120 k v
theorem G120_eq (k : Nat) (v0 : List UInt8) : G120 k (v0, ()) = sel (decide (Int.ofNat v0.length = 0)) (some (0, 2, ())) (sel (decide (19 < Int.ofNat v0.length)) (some (0, 4, ())) (ocall (G171 k (v0, ())) fun r => sel (!r.1) (some (0, 3, ())) (ocall (G120_9 k
 k (v0, 0, 0, ())) fun e => some (e.1, 0, ())))) := by kernel_rfl
noncomputable def G165_2 (k : Nat) (j : Nat) (v : Int × List UInt8 × Int × Unit) : Option (Unit ⊕ Bool × Unit) := F165_2 k j v
theorem G165_2_eq (k : Nat) (j : Nat) (v0 : Int) (v1 : List UInt8) (v2 : Int) : G165_2 k (j + 1) (v0, v1, v2, ()) = sel (decide (v2 < Int.ofNat v1.length)) (sel (decide (v0 = 1)) (sel (decide (0 ≤ v2)) (sel (decide (v2 < Int.ofNat v1.length)) (sel (decide (Int.ofNat (v1.getD v2.toNat
 0).toNat < 48)) (some (Sum.inr (false, ()))) (sel (decide (0 ≤ v2)) (sel (decide (v2 < Int.ofNat v1.length)) (sel (decide (57 < Int.ofNat (v1.getD v2.toNat 0).toNat)) (some (Sum.inr (false, ()))) (G165_2 k j (v0, v1, IntKind.i64.wrap (v2 + 1), ()))) none) none)) none) none)
 (sel (decide (v0 = 3)) (sel (decide (0 ≤ v2)) (sel (decide (v2 < Int.ofNat v1.length)) (sel (decide (Int.ofNat (v1.getD v2.toNat 0).toNat < 48)) (some (Sum.inr (false, ()))) (sel (decide (0 ≤ v2)) (sel (decide (v2 < Int.ofNat v1.length)) (sel (decide (57 < Int.ofNat (v1.getD v2.toNat
 0).toNat)) (some (Sum.inr (false, ()))) (G165_2 k j (v0, v1, IntKind.i64.wrap (v2 + 1), ()))) none) none)) none) none) (sel (decide (0 ≤ v2)) (sel (decide (v2 < Int.ofNat v1.length)) (sel (decide (Int.ofNat (v1.getD v2.toNat 0).toNat < 32)) (some (Sum.inr (false, ()))) (sel
 (decide (0 ≤ v2)) (sel (decide (v2 < Int.ofNat v1.length)) (sel (decide (126 < Int.ofNat (v1.getD v2.toNat 0).toNat)) (some (Sum.inr (false, ()))) (G165_2 k j (v0, v1, IntKind.i64.wrap (v2 + 1), ()))) none) none)) none) none))) (some (Sum.inl ())) := by kernel_rfl
noncomputable def G165 (k : Nat) (v : Int × List UInt8 × Unit) : Option (Bool × Unit) := F165 k v
theorem G165_eq (k : Nat) (v0 : Int) (v1 : List UInt8) : G165 k (v0, v1, ()) = ocall (G165_2 k k (v0, v1, 0, ())) fun e => esel e (fun v => some (true, ())) fun e => some (e.1, ()) := by kernel_rfl
noncomputable def G42 (k : Nat) (v : Int × Unit) : Option (Bool × Unit) := F42 k v
theorem G42_eq (k : Nat) (v0 : Int) : G42 k (v0, ()) = sel (decide (v0 = 1)) (sel (decide (v0 = 1)) (some (true, ())) (some (false, ()))) (sel (decide (v0 = 3)) (sel (decide (v0 = 3)) (some (true, ())) (some (false, ()))) (sel (decide (v0 = 5)) (sel (decide
 (v0 = 5)) (some (true, ())) (some (false, ()))) (sel (decide (v0 = 6)) (some (true, ())) (some (false, ()))))) := by kernel_rfl
noncomputable def G170 (k : Nat) (v : List UInt8 × Bool × Unit) : Option (Int × Unit) := F170 k v
theorem G170_eq (k : Nat) (v0 : List UInt8) (v1 : Bool) : G170 k (v0, v1, ()) = sel (decide (v0.length ≤ 9223372036854775807)) (some ((Sum.sumOf (Sum.backs (toBytes v0)) v1).1, ())) none := by kernel_rfl
noncomputable def G107 (k : Nat) (v : List UInt8 × Unit) : Option (Bool × Unit) := F107 k v
theorem G107_eq (k : Nat) (v0 : List UInt8) : G107 k (v0, ()) = ocall (G169 k (v0, ())) fun r => sel r.1 (ocall (G170 k (v0, false, ())) fun r => some (decide (r.1.tmod 10 = 0), ())) (some (false, ())) := by kernel_rfl
noncomputable def G108 (k : Nat) (v : Int × Unit) : Option (List UInt8 × Unit) := F108 k v
theorem G108_eq (k : Nat) (v0 : Int) : G108 k (v0, ()) = sel (decide (v0 < 0)) (some ([], ())) (sel (decide (8 ≤ v0)) (some ([], ())) (sel (decide (0 ≤ v0)) (sel (decide (v0 < Int.ofNat 8)) (some ([[], [48, 49, 48, 48], [48, 49, 49, 48], [48, 52, 48, 48], [48, 52, 49, 48],
 [48, 52, 50, 48], [48, 52, 50, 49], [48, 52, 51, 48]].getD v0.toNat [], ())) none) none)) := by kernel_rfl
noncomputable def G109 (k : Nat) (v : (Int × List UInt8 × Int × Int × List UInt8 × List UInt8 × Unit) × Unit) : Option (List (Int × List UInt8 × Unit) × Unit) := F109 k v
theorem G109_eq (k : Nat) (v0 : Int) (v1 : List UInt8) (v2 v3 : Int) (v4 v5 : List UInt8) : G109 k ((v0, v1, v2, v3, v4, v5, ()), ()) = ocall (G105 k (IntKind.u64.wrap v3, 6, ())) fun r => ocall (G42 k (v0, ())) fun r_1 => sel (!r_1.1) (some ([(11, r.1, ()),
 (37, v4, ()), (39, v5, ())], ())) (ocall (G105 k (v2, 12, ())) fun r_2 => sel (decide (5 ≤ v0)) (ocall (G108 k (1, ())) fun r_3 => sel (decide (r_3.1.length + r.1.length ≤ 140737488355328)) (sel (decide ((r_3.1 ++ r.1).length + 32 ≤ 140737488355328)) (some
 ([(2, v1, ()), (4, r_2.1, ()), (11, r.1, ()), (37, v4, ()), (90, r_3.1 ++ r.1 ++ [48, 48, 48, 48, 48, 48, 48, 48, 48, 48, 48, 48, 48, 48, 48, 48, 48, 48, 48, 48, 48, 48, 48, 48, 48, 48, 48, 48, 48, 48, 48, 48], ())], ())) none) none) (some ([(2, v1,
 ()), (4, r_2.1, ()), (11, r.1, ()), (37, v4, ())], ()))) := by kernel_rfl
noncomputable def G121 (k : Nat) (v : List UInt8 × Unit) : Option (Bool × Unit) := F121 k v
theorem G121_eq (k : Nat) (v0 : List UInt8) : G121 k (v0, ()) = sel (decide (v0 = [48, 49, 48, 48])) (sel (decide (v0 = [48, 49, 48, 48])) (some (true, ())) (some (false, ()))) (sel (decide (v0 = [48, 49, 49, 48])) (sel (decide (v0 = [48, 49, 49, 48])) (some (true,
 ())) (some (false, ()))) (sel (decide (v0 = [48, 52, 48, 48])) (sel (decide (v0 = [48, 52, 48, 48])) (some (true, ())) (some (false, ()))) (sel (decide (v0 = [48, 52, 49, 48])) (sel (decide (v0 = [48, 52, 49, 48])) (some (true, ())) (some (false, ())))
 (sel (decide (v0 = [48, 52, 50, 48])) (sel (decide (v0 = [48, 52, 50, 48])) (some (true, ())) (some (false, ()))) (sel (decide (v0 = [48, 52, 50, 49])) (sel (decide (v0 = [48, 52, 50, 49])) (some (true, ())) (some (false, ()))) (sel (decide (v0 = [48, 52, 51, 48]))
 (some (true, ())) (some (false, ())))))))) := by kernel_rfl
noncomputable def G44_3 (k : Nat) (j : Nat) (v : Int × List (Int × List UInt8 × Unit) × Int × Int × List UInt8 × List (Int × List UInt8 × Unit) × Unit) : Option (List UInt8 × List (Int × List UInt8 × Unit) × Unit ⊕ Bool × Unit) := F44_3 k j v
theorem G44_3_eq (k : Nat) (j : Nat) (v0 : Int) (v1 : List (Int × List UInt8 × Unit)) (v2 v3 : Int) (v4 : List UInt8) (v5 : List (Int × List UInt8 × Unit)) : G44_3 k (j + 1) (v0, v1, v2, v3, v4, v5, ()) = sel (decide (v3 < v2)) (sel (decide (0 ≤ v3)) (sel (decide (v3 < Int.ofNat
 v1.length)) (sel (decide ((v1.getD v3.toNat (0, [], ())).1 ≤ v0)) (some (Sum.inr (false, ()))) (ocall (G117 k ((v1.getD v3.toNat (0, [], ())).1, (v1.getD v3.toNat (0, [], ())).2.1, ())) fun r => sel (!r.1) (some (Sum.inr (false, ()))) (G44_3 k j
 ((v1.getD v3.toNat (0, [], ())).1, v1, v2, IntKind.i64.wrap (v3 + 1), v4, v5, ())))) none) none) (some (Sum.inl (v4, v5, ()))) := by kernel_rfl
noncomputable def G44 (k : Nat) (v : (List UInt8 × List (Int × List UInt8 × Unit) × Unit) × Unit) : Option (Bool × Unit) := F44 k v
theorem G44_eq (k : Nat) (v0 : List UInt8) (v1 : List (Int × List UInt8 × Unit)) : G44 k ((v0, v1, ()), ()) = ocall (G44_3 k k (0, v1, Int.ofNat v1.length, 0, v0, v1, ())) fun e => esel e (fun v => ocall (G121 k (v.1, ())) fun r => sel r.1 (some (decide (0 <
 Int.ofNat v.2.1.length), ())) (some (false, ()))) fun e => some (e.1, ()) := by kernel_rfl
noncomputable def G33 (k : Nat) (v : (Int × List UInt8 × Int × Int × List UInt8 × List UInt8 × Unit) × Unit) : Option (Bool × Unit) := F33 k v
theorem G33_eq (k : Nat) (v0 : Int) (v1 : List UInt8) (v2 v3 : Int) (v4 v5 : List UInt8) : G33 k ((v0, v1, v2, v3, v4, v5, ()), ()) = ocall (G42 k (v0, ())) fun r => sel r.1 (sel (!decide (v5 = [])) (some (false, ())) (ocall (G107 k (v1, ())) fun r => sel
 (!r.1) (some (false, ())) (ocall (G108 k (v0, ())) fun r => ocall (G109 k ((v0, v1, v2, v3, v4, v5, ()), ())) fun r_1 => ocall (G44 k ((r.1, r_1.1, ()), ())) fun r => some (r.1, ())))) (sel (!decide (v1 = [])) (some (false, ())) (sel
 (!decide (v2 = 0)) (some (false, ())) (ocall (G108 k (v0, ())) fun r => ocall (G109 k ((v0, v1, v2, v3, v4, v5, ()), ())) fun r_1 => ocall (G44 k ((r.1, r_1.1, ()), ())) fun r => some (r.1, ())))) := by kernel_rfl
noncomputable def G27 (k : Nat) (v : (Int × List UInt8 × Unit) × Unit) : Option (Bool × Unit) := F27 k v
theorem G27_eq (k : Nat) (v0 : Int) (v1 : List UInt8) : G27 k ((v0, v1, ()), ()) = ocall (G33 k ((7, [], 0, v0, v1, [48, 48], ()), ())) fun r => some (r.1, ()) := by kernel_rfl
noncomputable def G26 (k : Nat) (v : (Int × List UInt8 × Int × Int × List UInt8 × List UInt8 × Unit) × Unit) : Option ((Int × List UInt8 × Unit) × Unit) := F26 k v
theorem G26_eq (k : Nat) (v0 : Int) (v1 : List UInt8) (v2 v3 : Int) (v4 v5 : List UInt8) : G26 k ((v0, v1, v2, v3, v4, v5, ()), ()) = some ((v3, v4, ()), ()) := by kernel_rfl
noncomputable def G24 (k : Nat) (v : (Int × List UInt8 × Int × Int × List UInt8 × List UInt8 × Unit) × Unit) : Option (Bool × Unit) := F24 k v
theorem G24_eq (k : Nat) (v0 : Int) (v1 : List UInt8) (v2 v3 : Int) (v4 v5 : List UInt8) : G24 k ((v0, v1, v2, v3, v4, v5, ()), ()) = sel (decide (Int.ofNat v1.length ≤ 300)) (sel (decide (Int.ofNat v4.length ≤ 300)) (some (decide (Int.ofNat v5.length ≤ 300), ())) (some
 (false, ()))) (some (false, ())) := by kernel_rfl
noncomputable def G101 (k : Nat) (v : Int × List UInt8 × Unit) : Option (Bool × Unit) := F101 k v
theorem G101_eq (k : Nat) (v0 : Int) (v1 : List UInt8) : G101 k (v0, v1, ()) = ocall (G164 k (v0, ())) fun r => sel (!r.2.1) (some (false, ())) (sel (decide (Int.ofNat v1.length = 0)) (some (false, ())) (sel (decide (r.1.2.2.1 < Int.ofNat v1.length)) (some (false,
 ())) (sel (decide (r.1.2.1 < 3)) (sel (decide (Int.ofNat v1.length < r.1.2.2.1)) (some (false, ())) (ocall (G165 k (r.1.2.1, v1, ())) fun r => some (r.1, ()))) (ocall (G165 k (r.1.2.1, v1, ())) fun r => some (r.1, ()))))) := by kernel_rfl
noncomputable def G168_5 (k : Nat) (j : Nat) (v : Int × Int × List UInt8 × Int × Unit) : Option (Int × List UInt8 × Unit) := F168_5 k j v
theorem G168_5_eq (k : Nat) (j : Nat) (v0 v1 : Int) (v2 : List UInt8) (v3 : Int) : G168_5 k (j + 1) (v0, v1, v2, v3, ()) = sel (decide (v3 < v1)) (sel (decide ((ofBytes [IntKind.u8.wrap (IntKind.u64.wrap (48 + v0.tmod 10))]).length + v2.length ≤ 140737488355328)) (G168_5 k j
 (IntKind.u64.wrap (v0.tdiv 10), v1, ofBytes [IntKind.u8.wrap (IntKind.u64.wrap (48 + v0.tmod 10))] ++ v2, IntKind.i64.wrap (v3 + 1), ())) none) (some (v0, v2, ())) := by kernel_rfl
noncomputable def G168 (k : Nat) (v : Int × Int × Unit) : Option (List UInt8 × Int × Unit) := F168 k v
theorem G168_eq (k : Nat) (v0 v1 : Int) : G168 k (v0, v1, ()) = sel (decide (v1 < 1)) (some ([], 1, ())) (sel (decide (19 < v1)) (some ([], 1, ())) (ocall (G168_5 k k (v0, v1, [], 0, ())) fun e => sel (!decide (e.1 = 0)) (some ([], 10, ())) (some (e.2.1, 0,
 ())))) := by kernel_rfl
noncomputable def G106 (k : Nat) (v : Int × Int × Unit) : Option (List UInt8 × Unit) := F106 k v
theorem G106_eq (k : Nat) (v0 v1 : Int) : G106 k (v0, v1, ()) = ocall (G168 k (v0, v1, ())) fun r => some (r.1, ()) := by kernel_rfl
end Go.Proofs.YtjgnpmdbkgeakaaDoor.G
end
section
set_option maxRecDepth 1000000
set_option linter.unusedVariables false
set_option linter.unusedSimpArgs false
namespace Go.Proofs.YtjgnpmdbkgeakaaDoor.G
open Go Go.Proofs.YtjgnpmdbkgeakaaDoor Th
noncomputable def G37 (k : Nat) (v : (Int × List UInt8 × Int × Int × List UInt8 × List UInt8 × Unit) × Unit) : Option ((List UInt8 × List (Int × List UInt8 × Unit) × Unit) × Int × Unit) := F37 k v
theorem G37_eq (k : Nat) (v0 : Int) (v1 : List UInt8) (v2 v3 : Int) (v4 v5 : List UInt8) : G37 k ((v0, v1, v2, v3, v4, v5, ()), ()) = ocall (G33 k ((v0, v1, v2, v3, v4, v5, ()), ())) fun r => sel (!r.1) (some (([], [], ()), 1, ())) (ocall (G108 k (v0,
 ())) fun r => ocall (G109 k ((v0, v1, v2, v3, v4, v5, ()), ())) fun r_1 => some ((r.1, r_1.1, ()), 0, ())) := by kernel_rfl
noncomputable def G113_2 (k : Nat) (j : Nat) (v : List UInt8 × Int × Unit) : Option (Unit ⊕ Int × Unit) := F113_2 k j v
theorem G113_2_eq (k : Nat) (j : Nat) (v0 : List UInt8) (v1 : Int) : G113_2 k (j + 1) (v0, v1, ()) = sel (decide (v1 ≤ 7)) (ocall (G108 k (v1, ())) fun r => sel (decide (r.1 = v0)) (some (Sum.inr (v1, ()))) (G113_2 k j (v0, IntKind.i64.wrap (v1 + 1), ()))) (some
 (Sum.inl ())) := by kernel_rfl
noncomputable def G113 (k : Nat) (v : List UInt8 × Unit) : Option (Int × Unit) := F113 k v
theorem G113_eq (k : Nat) (v0 : List UInt8) : G113 k (v0, ()) = ocall (G113_2 k k (v0, 1, ())) fun e => esel e (fun v => some (0, ())) fun e => some (e.1, ()) := by kernel_rfl
noncomputable def G174 (k : Nat) (v : (Int × List UInt8 × Unit) × (Int × Unit) × Unit) : Option (Bool × Unit) := F174 k v
theorem G174_eq (k : Nat) (v0 : Int) (v1 : List UInt8) (v2 : Int) : G174 k ((v0, v1, ()), (v2, ()), ()) = some (decide (v0 = v2), ()) := by kernel_rfl
noncomputable def G7000000_2 (k : Nat) (j : Nat) (v : List (Int × List UInt8 × Unit) × ((Int × Unit) × Unit) × Int × Int × Unit) : Option (Unit ⊕ Int × Unit) := F7000000_2 k j v
theorem G7000000_2_eq (k : Nat) (j : Nat) (v0 : List (Int × List UInt8 × Unit)) (v1 v2 v3 : Int) : G7000000_2 k (j + 1) (v0, ((v1, ()), ()), v2, v3, ()) = sel (decide (v3 < v2)) (sel (decide (0 ≤ v3)) (sel (decide (v3 < Int.ofNat v0.length)) (ocall (G174 k (((v0.getD
 v3.toNat (0, [], ())).1, (v0.getD v3.toNat (0, [], ())).2.1, ()), (v1, ()), ())) fun r => sel r.1 (some (Sum.inr (v3, ()))) (G7000000_2 k j (v0, ((v1, ()), ()), v2, IntKind.i64.wrap (v3 + 1), ()))) none) none) (some (Sum.inl
 ())) := by kernel_rfl
noncomputable def G7000000 (k : Nat) (v : List (Int × List UInt8 × Unit) × ((Int × Unit) × Unit) × Unit) : Option (Int × Unit) := F7000000 k v
theorem G7000000_eq (k : Nat) (v0 : List (Int × List UInt8 × Unit)) (v1 : Int) : G7000000 k (v0, ((v1, ()), ()), ()) = ocall (G7000000_2 k k (v0, ((v1, ()), ()), Int.ofNat v0.length, 0, ())) fun e => esel e (fun v => some ((-1 : Int), ())) fun
 e => some (e.1, ()) := by kernel_rfl
noncomputable def G115 (k : Nat) (v : (List UInt8 × List (Int × List UInt8 × Unit) × Unit) × Int × Unit) : Option (List UInt8 × Bool × Unit) := F115 k v
theorem G115_eq (k : Nat) (v0 : List UInt8) (v1 : List (Int × List UInt8 × Unit)) (v2 : Int) : G115 k ((v0, v1, ()), v2, ()) = ocall (G7000000 k (v1, ((v2, ()), ()), ())) fun r => sel (decide (r.1 < 0)) (some ([], false, ())) (sel (decide (0 ≤ r.1))
 (sel (decide (r.1 < Int.ofNat v1.length)) (some ((v1.getD r.1.toNat (0, [], ())).2.1, true, ())) none) none) := by kernel_rfl
noncomputable def G114 (k : Nat) (v : (List UInt8 × List (Int × List UInt8 × Unit) × Unit) × Int × Unit) : Option (Int × Unit) := F114 k v
theorem G114_eq (k : Nat) (v0 : List UInt8) (v1 : List (Int × List UInt8 × Unit)) (v2 : Int) : G114 k ((v0, v1, ()), v2, ()) = ocall (G115 k ((v0, v1, ()), v2, ())) fun r => ocall (G172 k (r.1, ())) fun r => some (r.1, ()) := by kernel_rfl
noncomputable def G116_5 (k : Nat) (j : Nat) (v : List (Int × List UInt8 × Unit) × Int × Int × List UInt8 × List (Int × List UInt8 × Unit) × Unit) : Option (Unit ⊕ Bool × Unit) := F116_5 k j v
theorem G116_5_eq (k : Nat) (j : Nat) (v0 : List (Int × List UInt8 × Unit)) (v1 v2 : Int) (v3 : List UInt8) (v4 : List (Int × List UInt8 × Unit)) : G116_5 k (j + 1) (v0, v1, v2, v3, v4, ()) = sel (decide (v2 < v1)) (sel (decide (0 ≤ v2)) (sel (decide (v2 < Int.ofNat v0.length)) (sel
 (decide (v2.toNat < v0.length)) (sel (decide (0 ≤ v2)) (sel (decide (v2 < Int.ofNat v4.length)) (sel (!decide ((v4.getD v2.toNat (0, [], ())).1 = (v0.getD v2.toNat (0, [], ())).1)) (some (Sum.inr (false, ()))) (G116_5 k j (v0, v1, IntKind.i64.wrap (v2 + 1), v3, v4,
 ()))) none) none) none) none) none) (some (Sum.inl ())) := by kernel_rfl
noncomputable def G116 (k : Nat) (v : (List UInt8 × List (Int × List UInt8 × Unit) × Unit) × (Int × List UInt8 × Int × Int × List UInt8 × List UInt8 × Unit) × Unit) : Option (Bool × Unit) := F116 k v
theorem G116_eq (k : Nat) (v0 : List UInt8) (v1 : List (Int × List UInt8 × Unit)) (v2 : Int) (v3 : List UInt8) (v4 v5 : Int) (v6 v7 : List UInt8) : G116 k ((v0, v1, ()), (v2, v3, v4, v5, v6, v7, ()), ()) = ocall (G109 k ((v2, v3, v4, v5, v6, v7, ()), ())) fun
 r => sel (!decide (Int.ofNat r.1.length = Int.ofNat v1.length)) (some (false, ())) (ocall (G116_5 k k (r.1, Int.ofNat r.1.length, 0, v0, v1, ())) fun e => esel e (fun v => some (true, ())) fun e => some (e.1, ())) := by kernel_rfl
noncomputable def G40 (k : Nat) (v : (List UInt8 × List (Int × List UInt8 × Unit) × Unit) × Unit) : Option ((Int × List UInt8 × Int × Int × List UInt8 × List UInt8 × Unit) × Int × Unit) := F40 k v
theorem G40_eq (k : Nat) (v0 : List UInt8) (v1 : List (Int × List UInt8 × Unit)) : G40 k ((v0, v1, ()), ()) = ocall (G44 k ((v0, v1, ()), ())) fun r => sel (!r.1) (some ((0, [], 0, 0, [], [], ()), 1, ())) (ocall (G113 k (v0, ())) fun r =>
 ocall (G114 k ((v0, v1, ()), 11, ())) fun r_1 => ocall (G114 k ((v0, v1, ()), 4, ())) fun r_2 => ocall (G115 k ((v0, v1, ()), 2, ())) fun r_3 => ocall (G115 k ((v0, v1, ()), 37, ())) fun r_4 => ocall (G115 k ((v0, v1, ()), 39,
 ())) fun r_5 => ocall (G115 k ((v0, v1, ()), 90, ())) fun r_6 => ocall (G116 k ((v0, v1, ()), (r.1, r_3.1, r_2.1, IntKind.u32.wrap r_1.1, r_4.1, r_5.1, ()), ())) fun r_7 => sel (!r_7.1) (sel (!r_7.1) (some ((0, [], 0, 0, [], [], ()), 3,
 ())) (sel (decide (5 ≤ r.1)) (ocall (G42 k (r.1, ())) fun r_8 => sel r_8.1 (ocall (G109 k ((r.1, r_3.1, r_2.1, IntKind.u32.wrap r_1.1, r_4.1, r_5.1, ()), ())) fun r_9 => sel (decide (4 < Int.ofNat r_9.1.length)) (sel (decide (Int.toNat 4 < r_9.1.length)) (sel (!decide
 (r_6.1 = (r_9.1.getD (Int.toNat 4) (0, [], ())).2.1)) (some ((0, [], 0, 0, [], [], ()), 11, ())) (ocall (G117 k (37, r_4.1, ())) fun r_10 => sel (!r_10.1) (some ((0, [], 0, 0, [], [], ()), 3, ())) (some ((r.1, r_3.1, r_2.1, IntKind.u32.wrap r_1.1,
 r_4.1, r_5.1, ()), 0, ())))) none) none) (ocall (G117 k (37, r_4.1, ())) fun r_9 => sel (!r_9.1) (some ((0, [], 0, 0, [], [], ()), 3, ())) (some ((r.1, r_3.1, r_2.1, IntKind.u32.wrap r_1.1, r_4.1, r_5.1, ()), 0, ())))) (ocall (G117 k (37,
 r_4.1, ())) fun r_8 => sel (!r_8.1) (some ((0, [], 0, 0, [], [], ()), 3, ())) (some ((r.1, r_3.1, r_2.1, IntKind.u32.wrap r_1.1, r_4.1, r_5.1, ()), 0, ()))))) (ocall (G42 k (r.1, ())) fun r_8 => sel r_8.1 (ocall (G107 k (r_3.1, ())) fun r_9 =>
 sel (!r_9.1) (some ((0, [], 0, 0, [], [], ()), 3, ())) (sel (decide (5 ≤ r.1)) (ocall (G42 k (r.1, ())) fun r_10 => sel r_10.1 (ocall (G109 k ((r.1, r_3.1, r_2.1, IntKind.u32.wrap r_1.1, r_4.1, r_5.1, ()), ())) fun r_11 => sel (decide (4 < Int.ofNat
 r_11.1.length)) (sel (decide (Int.toNat 4 < r_11.1.length)) (sel (!decide (r_6.1 = (r_11.1.getD (Int.toNat 4) (0, [], ())).2.1)) (some ((0, [], 0, 0, [], [], ()), 11, ())) (ocall (G117 k (37, r_4.1, ())) fun r_12 => sel (!r_12.1) (some ((0, [], 0, 0, [], [],
 ()), 3, ())) (some ((r.1, r_3.1, r_2.1, IntKind.u32.wrap r_1.1, r_4.1, r_5.1, ()), 0, ())))) none) none) (ocall (G117 k (37, r_4.1, ())) fun r_11 => sel (!r_11.1) (some ((0, [], 0, 0, [], [], ()), 3, ())) (some ((r.1, r_3.1, r_2.1,
 IntKind.u32.wrap r_1.1, r_4.1, r_5.1, ()), 0, ())))) (ocall (G117 k (37, r_4.1, ())) fun r_10 => sel (!r_10.1) (some ((0, [], 0, 0, [], [], ()), 3, ())) (some ((r.1, r_3.1, r_2.1, IntKind.u32.wrap r_1.1, r_4.1, r_5.1, ()), 0, ()))))) (sel
 (decide (5 ≤ r.1)) (ocall (G42 k (r.1, ())) fun r_9 => sel r_9.1 (ocall (G109 k ((r.1, r_3.1, r_2.1, IntKind.u32.wrap r_1.1, r_4.1, r_5.1, ()), ())) fun r_10 => sel (decide (4 < Int.ofNat r_10.1.length)) (sel (decide (Int.toNat 4 < r_10.1.length)) (sel (!decide (r_6.1 =
 (r_10.1.getD (Int.toNat 4) (0, [], ())).2.1)) (some ((0, [], 0, 0, [], [], ()), 11, ())) (ocall (G117 k (37, r_4.1, ())) fun r_11 => sel (!r_11.1) (some ((0, [], 0, 0, [], [], ()), 3, ())) (some ((r.1, r_3.1, r_2.1, IntKind.u32.wrap r_1.1, r_4.1,
 r_5.1, ()), 0, ())))) none) none) (ocall (G117 k (37, r_4.1, ())) fun r_10 => sel (!r_10.1) (some ((0, [], 0, 0, [], [], ()), 3, ())) (some ((r.1, r_3.1, r_2.1, IntKind.u32.wrap r_1.1, r_4.1, r_5.1, ()), 0, ())))) (ocall (G117 k (37, r_4.1,
 ())) fun r_9 => sel (!r_9.1) (some ((0, [], 0, 0, [], [], ()), 3, ())) (some ((r.1, r_3.1, r_2.1, IntKind.u32.wrap r_1.1, r_4.1, r_5.1, ()), 0, ())))))) := by kernel_rfl
noncomputable def G34 (k : Nat) (v : Unit) : Option (Bool × Unit) := F34 k v
theorem G34_eq (k : Nat) : G34 k () = ocall (G37 k ((5, [49, 56], 500, 7, [97, 98, 99, 100, 101, 102, 103, 104, 105, 106, 107, 108], [], ()), ())) fun r => ocall (G40 k ((r.1.1, r.1.2.1, ()), ())) fun r_1 => ocall (G37 k ((1, [49, 57], 0, 0, [97, 98, 99, 100,
 101, 102, 103, 104, 105, 106, 107, 108], [], ()), ())) fun r_2 => sel (decide (r.2.1 = 0)) (sel (decide (r_1.2.1 = 0)) (sel (decide (r_2.2.1 = 1)) (sel (decide (r.1.1 = [48, 52, 50, 48])) (sel (decide (Int.ofNat r.1.2.1.length = 5)) (sel (decide (1 < Int.ofNat r.1.2.1.length)) (sel
 (decide ((r.1.2.1.getD (Int.toNat 1) (0, [], ())).2.1 = [48, 48, 48, 48, 48, 48, 48, 48, 48, 53, 48, 48])) (sel (sameI r_1.1.1 5 && (sameS r_1.1.2.1 [49, 56] && (sameI r_1.1.2.2.1 500 && (sameI r_1.1.2.2.2.1 7 && (sameS r_1.1.2.2.2.2.1 [97, 98, 99, 100, 101, 102, 103, 104, 105, 106, 107,
 108] && (sameS r_1.1.2.2.2.2.2.1 [] && true)))))) (ocall (G33 k ((5, [49, 56], 500, 7, [97, 98, 99, 100, 101, 102, 103, 104, 105, 106, 107, 108], [], ()), ())) fun r => sel r.1 (ocall (G42 k (3, ())) fun r => sel r.1 (ocall (G42 k (7, ())) fun r => some (!r.1,
 ())) (some (false, ()))) (some (false, ()))) (some (false, ()))) (some (false, ()))) none) (some (false, ()))) (some (false, ()))) (some (false, ()))) (some (false, ()))) (some (false, ())) := by kernel_rfl
noncomputable def G35_2 (k : Nat) (j : Nat) (v : Int × List UInt8 × List (Int × List UInt8 × Unit) × Unit) : Option (List UInt8 × List (Int × List UInt8 × Unit) × Unit ⊕ Bool × Unit) := F35_2 k j v
theorem G35_2_eq (k : Nat) (j : Nat) (v0 : Int) (v1 : List UInt8) (v2 : List (Int × List UInt8 × Unit)) : G35_2 k (j + 1) (v0, v1, v2, ()) = sel (decide (v0 < Int.ofNat v2.length)) (sel (decide (v0 < 200)) (sel (decide (0 ≤ v0)) (sel (decide (v0 < Int.ofNat v2.length)) (sel (decide (1200 <
 Int.ofNat (List.length (v2.getD v0.toNat (0, [], ())).2.1))) (some (Sum.inr (false, ()))) (G35_2 k j (IntKind.i64.wrap (v0 + 1), v1, v2, ()))) none) none) (some (Sum.inl (v1, v2, ())))) (some (Sum.inl (v1, v2, ()))) := by kernel_rfl
noncomputable def G35 (k : Nat) (v : (List UInt8 × List (Int × List UInt8 × Unit) × Unit) × Unit) : Option (Bool × Unit) := F35 k v
theorem G35_eq (k : Nat) (v0 : List UInt8) (v1 : List (Int × List UInt8 × Unit)) : G35 k ((v0, v1, ()), ()) = ocall (G35_2 k k (0, v0, v1, ())) fun e => esel e (fun v => sel (decide (Int.ofNat v.1.length ≤ 300)) (some (decide (Int.ofNat v.2.1.length ≤ 200), ()))
 (some (false, ()))) fun e => some (e.1, ()) := by kernel_rfl
noncomputable def G43 (k : Nat) (v : Int × Unit) : Option (Bool × Unit) := F43 k v
theorem G43_eq (k : Nat) (v0 : Int) : G43 k (v0, ()) = sel (decide (v0 = 1)) (some (true, ())) (sel (decide (v0 = 3)) (some (true, ())) (sel (decide (v0 = 5)) (some (true, ())) (some (decide (v0 = 6), ())))) := by kernel_rfl
noncomputable def G110_5 (k : Nat) (j : Nat) (v : List UInt8 × Int × Int × Unit) : Option (Int × Unit) := F110_5 k j v
theorem G110_5_eq (k : Nat) (j : Nat) (v0 : List UInt8) (v1 v2 : Int) : G110_5 k (j + 1) (v0, v1, v2, ()) = sel (decide (v2 < Int.ofNat v0.length)) (sel (decide (0 ≤ v2)) (sel (decide (v2 < Int.ofNat v0.length)) (sel (decide ((IntKind.i64.wrap (Int.ofNat v0.length - v2)).tmod 2 = 0)) (sel
 (decide (9 < IntKind.i64.wrap (2 * IntKind.i64.wrap (IntKind.i64.wrap (Int.ofNat (v0.getD v2.toNat 0).toNat) - 48)))) (G110_5 k j (v0, IntKind.i64.wrap (v1 + IntKind.i64.wrap (IntKind.i64.wrap (2 * IntKind.i64.wrap (IntKind.i64.wrap (Int.ofNat (v0.getD v2.toNat 0).toNat) - 48)) - 9)),
 IntKind.i64.wrap (v2 + 1), ())) (G110_5 k j (v0, IntKind.i64.wrap (v1 + IntKind.i64.wrap (2 * IntKind.i64.wrap (IntKind.i64.wrap (Int.ofNat (v0.getD v2.toNat 0).toNat) - 48))), IntKind.i64.wrap (v2 + 1), ()))) (G110_5 k j (v0, IntKind.i64.wrap (v1 + IntKind.i64.wrap (IntKind.i64.wrap
 (Int.ofNat (v0.getD v2.toNat 0).toNat) - 48)), IntKind.i64.wrap (v2 + 1), ()))) none) none) (some (v1, ())) := by kernel_rfl
noncomputable def G110 (k : Nat) (v : List UInt8 × Unit) : Option (Bool × Unit) := F110 k v
theorem G110_eq (k : Nat) (v0 : List UInt8) : G110 k (v0, ()) = ocall (G171 k (v0, ())) fun r => sel (!r.1) (some (false, ())) (ocall (G110_5 k k (v0, 0, 0, ())) fun e => some (decide (e.1.tmod 10 = 0), ())) := by kernel_rfl
noncomputable def G36 (k : Nat) (v : (Int × List UInt8 × Int × Int × List UInt8 × List UInt8 × Unit) × Unit) : Option (Bool × Unit) := F36 k v
theorem G36_eq (k : Nat) (v0 : Int) (v1 : List UInt8) (v2 v3 : Int) (v4 v5 : List UInt8) : G36 k ((v0, v1, v2, v3, v4, v5, ()), ()) = sel (decide (v0 < 1)) (some (false, ())) (sel (decide (7 < v0)) (some (false, ())) (sel (decide (999999 < v3)) (some (false,
 ())) (ocall (G101 k (37, v4, ())) fun r => sel (!r.1) (some (false, ())) (ocall (G43 k (v0, ())) fun r => sel r.1 (ocall (G110 k (v1, ())) fun r => sel r.1 (sel (decide (Int.ofNat v1.length < 20)) (sel (decide (v2 < 1000000000000)) (some (decide (v5 = []),
 ())) (some (false, ()))) (some (false, ()))) (some (false, ()))) (ocall (G101 k (39, v5, ())) fun r => sel r.1 (sel (decide (v1 = [])) (some (decide (v2 = 0), ())) (some (false, ()))) (some (false, ()))))))) := by kernel_rfl
noncomputable def G111 (k : Nat) (v : Unit) : Option (List (List UInt8) × Unit) := F111 k v
theorem G111_eq (k : Nat) : G111 k () = some ([[48, 49, 48, 48], [48, 49, 49, 48], [48, 52, 48, 48], [48, 52, 49, 48], [48, 52, 50, 48], [48, 52, 50, 49], [48, 52, 51, 48]], ()) := by kernel_rfl
noncomputable def G112 (k : Nat) (v : List UInt8 × Unit) : Option (List UInt8 × Unit) := F112 k v
theorem G112_eq (k : Nat) (v0 : List UInt8) : G112 k (v0, ()) = sel (decide (4 + v0.length ≤ 140737488355328)) (sel (decide ((48 :: 49 :: 48 :: 48 :: v0).length + 32 ≤ 140737488355328)) (some (48 :: 49 :: 48 :: 48 :: v0 ++ [48, 48, 48, 48, 48, 48, 48, 48, 48, 48, 48, 48, 48, 48, 48, 48, 48,
 48, 48, 48, 48, 48, 48, 48, 48, 48, 48, 48, 48, 48, 48, 48], ())) none) none := by kernel_rfl
noncomputable def G39 (k : Nat) (v : (Int × List UInt8 × Int × Int × List UInt8 × List UInt8 × Unit) × Unit) : Option ((List UInt8 × List (Int × List UInt8 × Unit) × Unit) × Unit) := F39 k v
theorem G39_eq (k : Nat) (v0 : Int) (v1 : List UInt8) (v2 v3 : Int) (v4 v5 : List UInt8) : G39 k ((v0, v1, v2, v3, v4, v5, ()), ()) = ocall (G111 k ()) fun r => sel (decide (0 ≤ IntKind.i64.wrap (v0 - 1))) (sel (decide (IntKind.i64.wrap (v0 - 1) < Int.ofNat r.1.length)) (sel
 (decide ((IntKind.i64.wrap (v0 - 1)).toNat < r.1.length)) (ocall (G43 k (v0, ())) fun r_1 => sel r_1.1 (ocall (G106 k (v2, 12, ())) fun r_2 => ocall (G106 k (IntKind.u64.wrap v3, 6, ())) fun r_3 => ocall (G43 k (v0, ())) fun r_4 => sel (!r_4.1) (sel (decide (v0 = 5))
 (ocall (G112 k (r_3.1, ())) fun r_5 => some ((r.1.getD (IntKind.i64.wrap (v0 - 1)).toNat [], [(2, v1, ()), (4, r_2.1, ()), (11, r_3.1, ()), (37, v4, ()), (39, v5, ()), (90, r_5.1, ())], ()), ())) (sel (decide (v0 = 6)) (ocall
 (G112 k (r_3.1, ())) fun r_5 => some ((r.1.getD (IntKind.i64.wrap (v0 - 1)).toNat [], [(2, v1, ()), (4, r_2.1, ()), (11, r_3.1, ()), (37, v4, ()), (39, v5, ()), (90, r_5.1, ())], ()), ())) (some ((r.1.getD (IntKind.i64.wrap (v0
 - 1)).toNat [], [(2, v1, ()), (4, r_2.1, ()), (11, r_3.1, ()), (37, v4, ()), (39, v5, ())], ()), ())))) (sel (decide (v0 = 5)) (ocall (G112 k (r_3.1, ())) fun r_5 => some ((r.1.getD (IntKind.i64.wrap (v0 - 1)).toNat [], [(2, v1,
 ()), (4, r_2.1, ()), (11, r_3.1, ()), (37, v4, ()), (90, r_5.1, ())], ()), ())) (sel (decide (v0 = 6)) (ocall (G112 k (r_3.1, ())) fun r_5 => some ((r.1.getD (IntKind.i64.wrap (v0 - 1)).toNat [], [(2, v1, ()), (4, r_2.1,
 ()), (11, r_3.1, ()), (37, v4, ()), (90, r_5.1, ())], ()), ())) (some ((r.1.getD (IntKind.i64.wrap (v0 - 1)).toNat [], [(2, v1, ()), (4, r_2.1, ()), (11, r_3.1, ()), (37, v4, ())], ()), ()))))) (ocall
 (G106 k (IntKind.u64.wrap v3, 6, ())) fun r_2 => ocall (G43 k (v0, ())) fun r_3 => sel (!r_3.1) (sel (decide (v0 = 5)) (ocall (G112 k (r_2.1, ())) fun r_4 => some ((r.1.getD (IntKind.i64.wrap (v0 - 1)).toNat [], [(11, r_2.1, ()), (37, v4, ()), (39, v5,
 ()), (90, r_4.1, ())], ()), ())) (sel (decide (v0 = 6)) (ocall (G112 k (r_2.1, ())) fun r_4 => some ((r.1.getD (IntKind.i64.wrap (v0 - 1)).toNat [], [(11, r_2.1, ()), (37, v4, ()), (39, v5, ()), (90, r_4.1, ())], ()),
 ())) (some ((r.1.getD (IntKind.i64.wrap (v0 - 1)).toNat [], [(11, r_2.1, ()), (37, v4, ()), (39, v5, ())], ()), ())))) (sel (decide (v0 = 5)) (ocall (G112 k (r_2.1, ())) fun r_4 => some ((r.1.getD (IntKind.i64.wrap (v0 - 1)).toNat [], [(11,
 r_2.1, ()), (37, v4, ()), (90, r_4.1, ())], ()), ())) (sel (decide (v0 = 6)) (ocall (G112 k (r_2.1, ())) fun r_4 => some ((r.1.getD (IntKind.i64.wrap (v0 - 1)).toNat [], [(11, r_2.1, ()), (37, v4, ()), (90, r_4.1, ())],
 ()), ())) (some ((r.1.getD (IntKind.i64.wrap (v0 - 1)).toNat [], [(11, r_2.1, ()), (37, v4, ())], ()), ())))))) none) none) none := by kernel_rfl
noncomputable def G38_4 (k : Nat) (j : Nat) (v : Int × List UInt8 × List (Int × List UInt8 × Unit) × List UInt8 × List (Int × List UInt8 × Unit) × Unit) : Option (Unit ⊕ Bool × Unit) := F38_4 k j v
theorem G38_4_eq (k : Nat) (j : Nat) (v0 : Int) (v1 : List UInt8) (v2 : List (Int × List UInt8 × Unit)) (v3 : List UInt8) (v4 : List (Int × List UInt8 × Unit)) : G38_4 k (j + 1) (v0, v1, v2, v3, v4, ()) = sel (decide (v0 < Int.ofNat v2.length)) (sel (decide (0 ≤ v0)) (sel (decide (v0 <
 Int.ofNat v2.length)) (sel (decide (0 ≤ v0)) (sel (decide (v0 < Int.ofNat v4.length)) (sel (!(sameI (v2.getD v0.toNat (0, [], ())).1 (v4.getD v0.toNat (0, [], ())).1 && (sameS (v2.getD v0.toNat (0, [], ())).2.1 (v4.getD v0.toNat (0, [], ())).2.1 && true))) (some
 (Sum.inr (false, ()))) (G38_4 k j (IntKind.i64.wrap (v0 + 1), v1, v2, v3, v4, ()))) none) none) none) none) (some (Sum.inl ())) := by kernel_rfl
noncomputable def G38 (k : Nat) (v : (List UInt8 × List (Int × List UInt8 × Unit) × Unit) × (List UInt8 × List (Int × List UInt8 × Unit) × Unit) × Unit) : Option (Bool × Unit) := F38 k v
theorem G38_eq (k : Nat) (v0 : List UInt8) (v1 : List (Int × List UInt8 × Unit)) (v2 : List UInt8) (v3 : List (Int × List UInt8 × Unit)) : G38 k ((v0, v1, ()), (v2, v3, ()), ()) = sel (!decide (v0 = v2)) (some (false, ())) (sel (!decide (Int.ofNat v1.length =
 Int.ofNat v3.length)) (some (false, ())) (ocall (G38_4 k k (0, v0, v1, v2, v3, ())) fun e => esel e (fun v => some (true, ())) fun e => some (e.1, ()))) := by kernel_rfl
noncomputable def G178_3 (k : Nat) (j : Nat) (v : List UInt8 × List (List UInt8) × Int × Unit) : Option (Unit ⊕ Bool × Unit) := F178_3 k j v
theorem G178_3_eq (k : Nat) (j : Nat) (v0 : List UInt8) (v1 : List (List UInt8)) (v2 : Int) : G178_3 k (j + 1) (v0, v1, v2, ()) = sel (decide (v2 < Int.ofNat v1.length)) (sel (decide (0 ≤ v2)) (sel (decide (v2 < Int.ofNat v1.length)) (sel (decide (v2.toNat < v1.length)) (sel (decide (v1.getD
 v2.toNat [] = v0)) (some (Sum.inr (true, ()))) (G178_3 k j (v0, v1, IntKind.i64.wrap (v2 + 1), ()))) none) none) none) (some (Sum.inl ())) := by kernel_rfl
noncomputable def G178 (k : Nat) (v : List UInt8 × Unit) : Option (Bool × Unit) := F178 k v
theorem G178_eq (k : Nat) (v0 : List UInt8) : G178 k (v0, ()) = ocall (G178_3 k k (v0, [[48, 49, 48, 48], [48, 49, 49, 48], [48, 52, 48, 48], [48, 52, 49, 48], [48, 52, 50, 48], [48, 52, 50, 49], [48, 52, 51, 48]], 0, ())) fun e => esel e (fun v => some (false, ())) fun e =>
 some (e.1, ()) := by kernel_rfl
noncomputable def G118_4 (k : Nat) (j : Nat) (v : Int × List UInt8 × List (Int × List UInt8 × Unit) × Unit) : Option (Unit ⊕ Bool × Unit) := F118_4 k j v
theorem G118_4_eq (k : Nat) (j : Nat) (v0 : Int) (v1 : List UInt8) (v2 : List (Int × List UInt8 × Unit)) : G118_4 k (j + 1) (v0, v1, v2, ()) = sel (decide (v0 < Int.ofNat v2.length)) (sel (decide (0 ≤ v0)) (sel (decide (v0 < Int.ofNat v2.length)) (sel (decide (0 ≤ v0)) (sel (decide (v0 <
 Int.ofNat v2.length)) (ocall (G101 k ((v2.getD v0.toNat (0, [], ())).1, (v2.getD v0.toNat (0, [], ())).2.1, ())) fun r => sel (!r.1) (some (Sum.inr (false, ()))) (sel (decide (0 < v0)) (sel (decide (0 ≤ v0)) (sel (decide (v0 < Int.ofNat v2.length)) (sel (decide (0 ≤
 IntKind.i64.wrap (v0 - 1))) (sel (decide (IntKind.i64.wrap (v0 - 1) < Int.ofNat v2.length)) (sel (decide ((v2.getD v0.toNat (0, [], ())).1 ≤ (v2.getD (IntKind.i64.wrap (v0 - 1)).toNat (0, [], ())).1)) (some (Sum.inr (false, ()))) (G118_4 k j (IntKind.i64.wrap (v0 + 1), v1,
 v2, ()))) none) none) none) none) (G118_4 k j (IntKind.i64.wrap (v0 + 1), v1, v2, ())))) none) none) none) none) (some (Sum.inl ())) := by kernel_rfl
noncomputable def G118 (k : Nat) (v : (List UInt8 × List (Int × List UInt8 × Unit) × Unit) × Unit) : Option (Bool × Unit) := F118 k v
theorem G118_eq (k : Nat) (v0 : List UInt8) (v1 : List (Int × List UInt8 × Unit)) : G118 k ((v0, v1, ()), ()) = ocall (G178 k (v0, ())) fun r => sel (!r.1) (some (false, ())) (sel (decide (Int.ofNat v1.length = 0)) (some (false, ())) (ocall (G118_4 k k (0,
 v0, v1, ())) fun e => esel e (fun v => some (true, ())) fun e => some (e.1, ()))) := by kernel_rfl
noncomputable def G119 (k : Nat) (v : Int × Unit) : Option (List Int × Unit) := F119 k v
theorem G119_eq (k : Nat) (v0 : Int) : G119 k (v0, ()) = sel (decide (v0 = 5)) (some ([2, 4, 11, 37, 90], ())) (sel (decide (v0 = 6)) (some ([2, 4, 11, 37, 90], ())) (ocall (G43 k (v0, ())) fun r => sel r.1 (some ([2, 4, 11, 37], ())) (some ([11, 37, 39],
 ())))) := by kernel_rfl
noncomputable def G41_5 (k : Nat) (j : Nat) (v : Int × List UInt8 × List (Int × List UInt8 × Unit) × Int × List UInt8 × Int × Int × List UInt8 × List UInt8 × Int × List UInt8 × Int × Int × List UInt8 × List UInt8 × Unit) : Option (List UInt8 × List (Int × List UInt8 × Unit) × Int × List UInt8 ×
 Int × Int × List UInt8 × List UInt8 × Int × List UInt8 × Int × Int × List UInt8 × List UInt8 × Unit) := F41_5 k j v
theorem G41_5_eq (k : Nat) (j : Nat) (v0 : Int) (v1 : List UInt8) (v2 : List (Int × List UInt8 × Unit)) (v3 : Int) (v4 : List UInt8) (v5 v6 : Int) (v7 v8 : List UInt8) (v9 : Int) (v10 : List UInt8) (v11 v12 : Int) (v13 v14 : List UInt8) : G41_5 k (j + 1) (v0, v1, v2, v3, v4, v5, v6, v7, v8, v9,
 v10, v11, v12, v13, v14, ()) = sel (decide (v0 < 7)) (ocall (G111 k ()) fun r => sel (decide (0 ≤ v0)) (sel (decide (v0 < Int.ofNat r.1.length)) (sel (decide (v0.toNat < r.1.length)) (sel (decide (r.1.getD v0.toNat [] = v1)) (G41_5 k j (IntKind.i64.wrap (v0 + 1), v1, v2, v3, v4, v5,
 v6, v7, v8, IntKind.i64.wrap (v0 + 1), v10, v11, v12, v13, v14, ())) (G41_5 k j (IntKind.i64.wrap (v0 + 1), v1, v2, v3, v4, v5, v6, v7, v8, v9, v10, v11, v12, v13, v14, ()))) none) none) none) (some (v1, v2, v3, v4, v5, v6, v7, v8, v9, v10, v11, v12, v13, v14, ())) := by
 kernel_rfl
noncomputable def G41_13 (k : Nat) (j : Nat) (v : List Int × Int × List UInt8 × List (Int × List UInt8 × Unit) × Int × List UInt8 × Int × Int × List UInt8 × List UInt8 × Int × List UInt8 × Int × Int × List UInt8 × List UInt8 × Unit) : Option (List Int × List UInt8 × List (Int × List UInt8 × Unit)
 × Int × List UInt8 × Int × Int × List UInt8 × List UInt8 × Int × List UInt8 × Int × Int × List UInt8 × List UInt8 × Unit ⊕ Int × Int × List UInt8 × Int × Int × List UInt8 × List UInt8 × Unit) := F41_13 k j v
theorem G41_13_eq (k : Nat) (j : Nat) (v0 : List Int) (v1 : Int) (v2 : List UInt8) (v3 : List (Int × List UInt8 × Unit)) (v4 : Int) (v5 : List UInt8) (v6 v7 : Int) (v8 v9 : List UInt8) (v10 : Int) (v11 : List UInt8) (v12 v13 : Int) (v14 v15 : List UInt8) : G41_13 k (j + 1) (v0, v1, v2, v3, v4, v5,
 v6, v7, v8, v9, v10, v11, v12, v13, v14, v15, ()) = sel (decide (v1 < Int.ofNat v0.length)) (sel (decide (0 ≤ v1)) (sel (decide (v1 < Int.ofNat v3.length)) (sel (decide (0 ≤ v1)) (sel (decide (v1 < Int.ofNat v0.length)) (sel (decide (v1.toNat < v0.length)) (sel (!decide ((v3.getD v1.toNat
 (0, [], ())).1 = v0.getD v1.toNat 0)) (some (Sum.inr (3, 0, [], 0, 0, [], [], ()))) (ocall (G120 k ((v3.getD v1.toNat (0, [], ())).2.1, ())) fun r => sel (decide ((v3.getD v1.toNat (0, [], ())).1 = 2)) (G41_13 k j (v0, IntKind.i64.wrap (v1 + 1), v2, v3, v4,
 v5, v6, v7, v8, v9, v10, (v3.getD v1.toNat (0, [], ())).2.1, v12, v13, v14, v15, ())) (sel (decide ((v3.getD v1.toNat (0, [], ())).1 = 4)) (G41_13 k j (v0, IntKind.i64.wrap (v1 + 1), v2, v3, v4, v5, v6, v7, v8, v9, v10, v11, r.1, v13, v14, v15, ())) (sel (decide
 ((v3.getD v1.toNat (0, [], ())).1 = 11)) (G41_13 k j (v0, IntKind.i64.wrap (v1 + 1), v2, v3, v4, v5, v6, v7, v8, v9, v10, v11, v12, IntKind.u32.wrap r.1, v14, v15, ())) (sel (decide ((v3.getD v1.toNat (0, [], ())).1 = 37)) (G41_13 k j (v0, IntKind.i64.wrap (v1 + 1), v2, v3,
 v4, v5, v6, v7, v8, v9, v10, v11, v12, v13, (v3.getD v1.toNat (0, [], ())).2.1, v15, ())) (sel (decide ((v3.getD v1.toNat (0, [], ())).1 = 39)) (G41_13 k j (v0, IntKind.i64.wrap (v1 + 1), v2, v3, v4, v5, v6, v7, v8, v9, v10, v11, v12, v13, v14, (v3.getD v1.toNat (0, [],
 ())).2.1, ())) (G41_13 k j (v0, IntKind.i64.wrap (v1 + 1), v2, v3, v4, v5, v6, v7, v8, v9, v10, v11, v12, v13, v14, v15, ())))))))) none) none) none) none) none) (some (Sum.inl (v0, v2, v3, v4, v5, v6, v7, v8, v9, v10, v11, v12, v13, v14, v15, ()))) := by kernel_rfl
noncomputable def G41 (k : Nat) (v : (List UInt8 × List (Int × List UInt8 × Unit) × Unit) × Unit) : Option ((Int × List UInt8 × Int × Int × List UInt8 × List UInt8 × Unit) × Int × Unit) := F41 k v
theorem G41_eq (k : Nat) (v0 : List UInt8) (v1 : List (Int × List UInt8 × Unit)) : G41 k ((v0, v1, ()), ()) = ocall (G118 k ((v0, v1, ()), ())) fun r => sel (!r.1) (some ((0, [], 0, 0, [], [], ()), 1, ())) (ocall (G41_5 k k (0, v0, v1, 0, [], 0, 0,
 [], [], 0, [], 0, 0, [], [], ())) fun e => ocall (G119 k (e.2.2.2.2.2.2.2.2.1, ())) fun r => sel (!decide (Int.ofNat r.1.length = Int.ofNat e.2.1.length)) (some ((0, [], 0, 0, [], [], ()), 3, ())) (ocall (G41_13 k k (r.1, 0, e.1, e.2.1, e.2.2.1, e.2.2.2.1,
 e.2.2.2.2.1, e.2.2.2.2.2.1, e.2.2.2.2.2.2.1, e.2.2.2.2.2.2.2.1, e.2.2.2.2.2.2.2.2.1, e.2.2.2.2.2.2.2.2.2.1, e.2.2.2.2.2.2.2.2.2.2.1, e.2.2.2.2.2.2.2.2.2.2.2.1, e.2.2.2.2.2.2.2.2.2.2.2.2.1, e.2.2.2.2.2.2.2.2.2.2.2.2.2.1, ())) fun e => esel e (fun v => ocall (G43 k (v.2.2.2.2.2.2.2.2.2.1,
 ())) fun r => sel r.1 (ocall (G110 k (v.2.2.2.2.2.2.2.2.2.2.1, ())) fun r => sel (!r.1) (some ((0, [], 0, 0, [], [], ()), 3, ())) (sel (decide (Int.ofNat v.1.length = 5)) (sel (decide (4 < Int.ofNat v.2.2.1.length)) (sel (decide (2 < Int.ofNat v.2.2.1.length)) (ocall
 (G112 k ((v.2.2.1.getD (Int.toNat 2) (0, [], ())).2.1, ())) fun r => sel (!decide ((v.2.2.1.getD (Int.toNat 4) (0, [], ())).2.1 = r.1)) (some ((0, [], 0, 0, [], [], ()), 11, ())) (some ((v.2.2.2.2.2.2.2.2.2.1, v.2.2.2.2.2.2.2.2.2.2.1,
 v.2.2.2.2.2.2.2.2.2.2.2.1, v.2.2.2.2.2.2.2.2.2.2.2.2.1, v.2.2.2.2.2.2.2.2.2.2.2.2.2.1, v.2.2.2.2.2.2.2.2.2.2.2.2.2.2.1, ()), 0, ()))) none) none) (some ((v.2.2.2.2.2.2.2.2.2.1, v.2.2.2.2.2.2.2.2.2.2.1, v.2.2.2.2.2.2.2.2.2.2.2.1, v.2.2.2.2.2.2.2.2.2.2.2.2.1,
 v.2.2.2.2.2.2.2.2.2.2.2.2.2.1, v.2.2.2.2.2.2.2.2.2.2.2.2.2.2.1, ()), 0, ())))) (sel (decide (Int.ofNat v.1.length = 5)) (sel (decide (4 < Int.ofNat v.2.2.1.length)) (sel (decide (2 < Int.ofNat v.2.2.1.length)) (ocall (G112 k ((v.2.2.1.getD (Int.toNat 2) (0, [], ())).2.1,
 ())) fun r => sel (!decide ((v.2.2.1.getD (Int.toNat 4) (0, [], ())).2.1 = r.1)) (some ((0, [], 0, 0, [], [], ()), 11, ())) (some ((v.2.2.2.2.2.2.2.2.2.1, v.2.2.2.2.2.2.2.2.2.2.1, v.2.2.2.2.2.2.2.2.2.2.2.1, v.2.2.2.2.2.2.2.2.2.2.2.2.1, v.2.2.2.2.2.2.2.2.2.2.2.2.2.1,
 v.2.2.2.2.2.2.2.2.2.2.2.2.2.2.1, ()), 0, ()))) none) none) (some ((v.2.2.2.2.2.2.2.2.2.1, v.2.2.2.2.2.2.2.2.2.2.1, v.2.2.2.2.2.2.2.2.2.2.2.1, v.2.2.2.2.2.2.2.2.2.2.2.2.1, v.2.2.2.2.2.2.2.2.2.2.2.2.2.1, v.2.2.2.2.2.2.2.2.2.2.2.2.2.2.1, ()), 0, ())))) fun e => some
 ((e.2.1, e.2.2.1, e.2.2.2.1, e.2.2.2.2.1, e.2.2.2.2.2.1, e.2.2.2.2.2.2.1, ()), e.1, ()))) := by kernel_rfl
noncomputable def G6 (k : Nat) (v : (Int × List UInt8 × Int × Int × List UInt8 × List UInt8 × Unit) × (List UInt8 × List (Int × List UInt8 × Unit) × Unit) × Int × Unit) : Option (Bool × Unit) := F6 k v
theorem G6_eq (k : Nat) (v0 : Int) (v1 : List UInt8) (v2 v3 : Int) (v4 v5 v6 : List UInt8) (v7 : List (Int × List UInt8 × Unit)) (v8 : Int) : G6 k ((v0, v1, v2, v3, v4, v5, ()), (v6, v7, ()), v8, ()) = ocall (G34 k ()) fun r => sel (!r.1) (some (false, ()))
 (ocall (G24 k ((v0, v1, v2, v3, v4, v5, ()), ())) fun r => sel (!r.1) (some (true, ())) (ocall (G35 k ((v6, v7, ()), ())) fun r => sel (!r.1) (some (true, ())) (ocall (G36 k ((v0, v1, v2, v3, v4, v5, ()), ())) fun r => ocall (G37 k
 ((v0, v1, v2, v3, v4, v5, ()), ())) fun r_1 => sel r.1 (sel (!decide (r_1.2.1 = 0)) (some (false, ())) (ocall (G39 k ((v0, v1, v2, v3, v4, v5, ()), ())) fun r_2 => ocall (G38 k ((r_1.1.1, r_1.1.2.1, ()), (r_2.1.1, r_2.1.2.1, ()), ()))
 fun r_3 => sel (!r_3.1) (some (false, ())) (sel (!r.1) (sel (!decide (r_1.2.1 = 1)) (some (false, ())) (ocall (G38 k ((r_1.1.1, r_1.1.2.1, ()), ([], [], ()), ())) fun r_4 => sel (!r_4.1) (some (false, ())) (ocall (G40 k ((v6, v7, ()),
 ())) fun r_5 => ocall (G41 k ((v6, v7, ()), ())) fun r_6 => ocall (G33 k ((v0, v1, v2, v3, v4, v5, ()), ())) fun r_7 => sel (r_7.1 == r.1) (sel (sameI r_5.1.1 r_6.1.1 && (sameS r_5.1.2.1 r_6.1.2.1 && (sameI r_5.1.2.2.1 r_6.1.2.2.1 && (sameI r_5.1.2.2.2.1
 r_6.1.2.2.2.1 && (sameS r_5.1.2.2.2.2.1 r_6.1.2.2.2.2.1 && (sameS r_5.1.2.2.2.2.2.1 r_6.1.2.2.2.2.2.1 && true)))))) (sel (decide (r_5.2.1 = r_6.2.1)) (ocall (G42 k (v8, ())) fun r => ocall (G43 k (v8, ())) fun r_8 => some (r.1 == r_8.1, ())) (some (false, ()))) (some
 (false, ()))) (some (false, ()))))) (ocall (G40 k ((v6, v7, ()), ())) fun r_4 => ocall (G41 k ((v6, v7, ()), ())) fun r_5 => ocall (G33 k ((v0, v1, v2, v3, v4, v5, ()), ())) fun r_6 => sel (r_6.1 == r.1) (sel (sameI r_4.1.1 r_5.1.1 &&
 (sameS r_4.1.2.1 r_5.1.2.1 && (sameI r_4.1.2.2.1 r_5.1.2.2.1 && (sameI r_4.1.2.2.2.1 r_5.1.2.2.2.1 && (sameS r_4.1.2.2.2.2.1 r_5.1.2.2.2.2.1 && (sameS r_4.1.2.2.2.2.2.1 r_5.1.2.2.2.2.2.1 && true)))))) (sel (decide (r_4.2.1 = r_5.2.1)) (ocall (G42 k (v8, ())) fun r => ocall (G43 k (v8,
 ())) fun r_7 => some (r.1 == r_7.1, ())) (some (false, ()))) (some (false, ()))) (some (false, ())))))) (sel (!r.1) (sel (!decide (r_1.2.1 = 1)) (some (false, ())) (ocall (G38 k ((r_1.1.1, r_1.1.2.1, ()), ([], [], ()), ())) fun
 r_2 => sel (!r_2.1) (some (false, ())) (ocall (G40 k ((v6, v7, ()), ())) fun r_3 => ocall (G41 k ((v6, v7, ()), ())) fun r_4 => ocall (G33 k ((v0, v1, v2, v3, v4, v5, ()), ())) fun r_5 => sel (r_5.1 == r.1) (sel (sameI r_3.1.1 r_4.1.1 && (sameS
 r_3.1.2.1 r_4.1.2.1 && (sameI r_3.1.2.2.1 r_4.1.2.2.1 && (sameI r_3.1.2.2.2.1 r_4.1.2.2.2.1 && (sameS r_3.1.2.2.2.2.1 r_4.1.2.2.2.2.1 && (sameS r_3.1.2.2.2.2.2.1 r_4.1.2.2.2.2.2.1 && true)))))) (sel (decide (r_3.2.1 = r_4.2.1)) (ocall (G42 k (v8, ())) fun r => ocall (G43 k (v8, ()))
 fun r_6 => some (r.1 == r_6.1, ())) (some (false, ()))) (some (false, ()))) (some (false, ()))))) (ocall (G40 k ((v6, v7, ()), ())) fun r_2 => ocall (G41 k ((v6, v7, ()), ())) fun r_3 => ocall (G33 k ((v0, v1, v2, v3, v4, v5,
 ()), ())) fun r_4 => sel (r_4.1 == r.1) (sel (sameI r_2.1.1 r_3.1.1 && (sameS r_2.1.2.1 r_3.1.2.1 && (sameI r_2.1.2.2.1 r_3.1.2.2.1 && (sameI r_2.1.2.2.2.1 r_3.1.2.2.2.1 && (sameS r_2.1.2.2.2.2.1 r_3.1.2.2.2.2.1 && (sameS r_2.1.2.2.2.2.2.1 r_3.1.2.2.2.2.2.1 && true)))))) (sel (decide
 (r_2.2.1 = r_3.2.1)) (ocall (G42 k (v8, ())) fun r => ocall (G43 k (v8, ())) fun r_5 => some (r.1 == r_5.1, ())) (some (false, ()))) (some (false, ()))) (some (false, ()))))))) := by kernel_rfl
noncomputable def G213 (k : Nat) (v : Int × Int × Int × Unit) : Option (Int × Int × Int × Unit ⊕ Int × Int × Int × Unit) := F213 k v
theorem G213_eq (k : Nat) (v0 v1 v2 : Int) : G213 k (v0, v1, v2, ()) = sel (decide (v0 ≤ 64)) (sel (decide (0 ≤ IntKind.i64.wrap (v0 - 1))) (some (Sum.inl (Int.fdiv 9223372036854775808 (2 ^ min (IntKind.i64.wrap (v0 - 1)).toNat 64), v1, v2, ()))) none) (sel (decide (0 ≤
 IntKind.i64.wrap (IntKind.i64.wrap (v0 - 64) - 1))) (some (Sum.inr (Int.fdiv 9223372036854775808 (2 ^ min (IntKind.i64.wrap (IntKind.i64.wrap (v0 - 64) - 1)).toNat 64), v1, v2, ()))) none) := by kernel_rfl
noncomputable def G214 (k : Nat) (v : (Int × Int × Unit) × Int × Unit) : Option (Bool × Unit) := F214 k v
theorem G214_eq (k : Nat) (v0 v1 v2 : Int) : G214 k ((v0, v1, ()), v2, ()) = ocall (G213 k (v2, v0, v1, ())) fun r => esel r (fun v => some (!decide (bits BinOp.and IntKind.u64 v.2.1 v.1 = 0), ())) fun e => some (!decide (bits BinOp.and IntKind.u64 e.2.2.1 e.1 = 0),
 ()) := by kernel_rfl
noncomputable def G190 (k : Nat) (v : (Int × Int × Unit) × Unit) : Option (Bool × Unit) := F190 k v
theorem G190_eq (k : Nat) (v0 v1 : Int) : G190 k ((v0, v1, ()), ()) = ocall (G214 k ((v0, v1, ()), 65, ())) fun r => sel (!r.1) (ocall (G214 k ((v0, v1, ()), 1, ())) fun r => some (r.1 == !decide (v1 = 0), ())) (some (false, ())) := by
 kernel_rfl
noncomputable def G212 (k : Nat) (v : Int × Unit) : Option (Bool × Unit) := F212 k v
theorem G212_eq (k : Nat) (v0 : Int) : G212 k (v0, ()) = sel (decide (1 < v0)) (sel (decide (v0 ≤ 128)) (some (!decide (v0 = 65), ())) (some (false, ()))) (some (false, ())) := by kernel_rfl
noncomputable def G189 (k : Nat) (v : (Int × Int × Unit) × Int × Unit) : Option ((Int × Int × Unit) × Int × Unit) := F189 k v
theorem G189_eq (k : Nat) (v0 v1 v2 : Int) : G189 k ((v0, v1, ()), v2, ()) = ocall (G190 k ((v0, v1, ()), ())) fun r => sel (!r.1) (some ((v0, v1, ()), 1, ())) (ocall (G212 k (v2, ())) fun r => sel (!r.1) (some ((v0, v1, ()), 1,
 ())) (ocall (G213 k (v2, v0, v1, ())) fun r => esel r (fun v => sel (!decide (v.2.2.1 = 0)) (some ((bits BinOp.or IntKind.u64 (bits BinOp.or IntKind.u64 v.2.1 v.1) 9223372036854775808, v.2.2.1, ()), 0, ())) (some ((bits BinOp.or IntKind.u64 v.2.1 v.1, v.2.2.1,
 ()), 0, ()))) fun e => sel (!decide (bits BinOp.or IntKind.u64 e.2.2.1 e.1 = 0)) (some ((bits BinOp.or IntKind.u64 e.2.1 9223372036854775808, bits BinOp.or IntKind.u64 e.2.2.1 e.1, ()), 0, ())) (some ((e.2.1, bits BinOp.or IntKind.u64 e.2.2.1 e.1, ()), 0,
 ())))) := by kernel_rfl
noncomputable def G140_3 (k : Nat) (j : Nat) (v : List Int × Int × Int × Int × Int × Int × Int × Unit) : Option (Int × Int × Int × Int × Unit ⊕ Int × Int × Int × Unit) := F140_3 k j v
theorem G140_3_eq (k : Nat) (j : Nat) (v0 : List Int) (v1 v2 v3 v4 v5 v6 : Int) : G140_3 k (j + 1) (v0, v1, v2, v3, v4, v5, v6, ()) = sel (decide (v2 < v1)) (sel (decide (0 ≤ v2)) (sel (decide (v2 < Int.ofNat v0.length)) (ocall (G189 k ((v5, v6, ()), v0.getD v2.toNat 0, ()))
 fun r => sel (!decide (r.2.1 = 0)) (some (Sum.inr (r.2.1, 0, 0, ()))) (G140_3 k j (v0, v1, IntKind.i64.wrap (v2 + 1), v3, v4, r.1.1, r.1.2.1, ()))) none) none) (some (Sum.inl (v3, v4, v5, v6, ()))) := by kernel_rfl
noncomputable def G140 (k : Nat) (v : List Int × Unit) : Option ((Int × Int × Unit) × Int × Unit) := F140 k v
theorem G140_eq (k : Nat) (v0 : List Int) : G140 k (v0, ()) = ocall (G140_3 k k (v0, Int.ofNat v0.length, 0, 0, 0, 0, 0, ())) fun e => esel e (fun v => some ((v.2.2.1, v.2.2.2.1, ()), 0, ())) fun e => some ((e.2.1, e.2.2.1, ()), e.1, ()) := by
 kernel_rfl
noncomputable def G191_2 (k : Nat) (j : Nat) (v : List Int × Int × Int × Unit) : Option (List Int × Unit) := F191_2 k j v
theorem G191_2_eq (k : Nat) (j : Nat) (v0 : List Int) (v1 v2 : Int) : G191_2 k (j + 1) (v0, v1, v2, ()) = sel (decide (v2 < 8)) (sel (decide (0 ≤ IntKind.i64.wrap (64 - IntKind.i64.wrap (8 * IntKind.i64.wrap (v2 + 1))))) (sel (decide ((v0.length + 1) * 1 ≤ 140737488355328)) (G191_2 k j (v0
 ++ [IntKind.u8.wrap (v1.fdiv (2 ^ min (IntKind.i64.wrap (64 - IntKind.i64.wrap (8 * IntKind.i64.wrap (v2 + 1)))).toNat 64))], v1, IntKind.i64.wrap (v2 + 1), ())) none) none) (some (v0, ())) := by kernel_rfl
noncomputable def G191 (k : Nat) (v : List Int × Int × Unit) : Option (List Int × Unit) := F191 k v
theorem G191_eq (k : Nat) (v0 : List Int) (v1 : Int) : G191 k (v0, v1, ()) = ocall (G191_2 k k (v0, v1, 0, ())) fun e => some (e.1, ()) := by kernel_rfl
noncomputable def G141 (k : Nat) (v : (Int × Int × Unit) × Unit) : Option (List Int × Int × Unit) := F141 k v
theorem G141_eq (k : Nat) (v0 v1 : Int) : G141 k ((v0, v1, ()), ()) = ocall (G190 k ((v0, v1, ()), ())) fun r => sel (!r.1) (some ([], 1, ())) (ocall (G191 k ([], v0, ())) fun r => sel (!decide (v1 = 0)) (ocall (G191 k (r.1, v1, ())) fun r =>
 some (r.1, 0, ())) (some (r.1, 0, ()))) := by kernel_rfl
noncomputable def G192 (k : Nat) (v : Int × Unit) : Option (List Int × Unit) := F192 k v
theorem G192_eq (k : Nat) (v0 : Int) : G192 k (v0, ()) = sel (decide (0 ≤ v0)) (sel (decide (v0 * 1 ≤ 140737488355328)) (some ([], ())) none) none := by kernel_rfl
noncomputable def G142_3 (k : Nat) (j : Nat) (v : List (List Int) × Int × List (List Int) × Int × Int × Unit) : Option (List (List Int) × Int × Unit) := F142_3 k j v
theorem G142_3_eq (k : Nat) (j : Nat) (v0 : List (List Int)) (v1 : Int) (v2 : List (List Int)) (v3 v4 : Int) : G142_3 k (j + 1) (v0, v1, v2, v3, v4, ()) = sel (decide (v4 < v3)) (sel (decide (0 ≤ v4)) (sel (decide (v4 < Int.ofNat v2.length)) (sel (decide (IntKind.i64.wrap (v1 + Int.ofNat
 (List.length (v2.getD v4.toNat []))) < 0)) none (G142_3 k j (v0, IntKind.i64.wrap (v1 + Int.ofNat (List.length (v2.getD v4.toNat []))), v2, v3, IntKind.i64.wrap (v4 + 1), ()))) none) none) (some (v0, v1, ())) := by kernel_rfl
noncomputable def G142_11 (k : Nat) (j : Nat) (v : List Int × List (List Int) × Int × Int × Unit) : Option (List Int × Unit) := F142_11 k j v
theorem G142_11_eq (k : Nat) (j : Nat) (v0 : List Int) (v1 : List (List Int)) (v2 v3 : Int) : G142_11 k (j + 1) (v0, v1, v2, v3, ()) = sel (decide (v3 < v2)) (sel (decide (0 ≤ v3)) (sel (decide (v3 < Int.ofNat v1.length)) (sel (decide ((v0.length + List.length (v1.getD v3.toNat [])) * 1 ≤
 140737488355328)) (G142_11 k j (v0 ++ v1.getD v3.toNat [], v1, v2, IntKind.i64.wrap (v3 + 1), ())) none) none) none) (some (v0, ())) := by kernel_rfl
noncomputable def G142 (k : Nat) (v : List (List Int) × Unit) : Option (List Int × Unit) := F142 k v
theorem G142_eq (k : Nat) (v0 : List (List Int)) : G142 k (v0, ()) = ocall (G142_3 k k (v0, 0, v0, Int.ofNat v0.length, 0, ())) fun e => ocall (G192 k (e.2.1, ())) fun r => ocall (G142_11 k k (r.1, e.1, Int.ofNat e.1.length, 0, ())) fun e => some (e.1, ()) :=
 by kernel_rfl
noncomputable def G79_6 (k : Nat) (j : Nat) (v : List Int × List Int × List (Int × List UInt8 × Unit) × Int × Int × List UInt8 × List (Int × List UInt8 × Unit) × Unit) : Option (List Int × List Int × List UInt8 × List (Int × List UInt8 × Unit) × Unit) := F79_6 k j v
theorem G79_6_eq (k : Nat) (j : Nat) (v0 v1 : List Int) (v2 : List (Int × List UInt8 × Unit)) (v3 v4 : Int) (v5 : List UInt8) (v6 : List (Int × List UInt8 × Unit)) : G79_6 k (j + 1) (v0, v1, v2, v3, v4, v5, v6, ()) = sel (decide (v4 < v3)) (sel (decide (0 ≤ v4)) (sel (decide (v4 <
 Int.ofNat v2.length)) (ocall (G139 k ((v2.getD v4.toNat (0, [], ())).1, (v2.getD v4.toNat (0, [], ())).2.1, ())) fun r => sel (decide ((v0.length + 1) * 8 ≤ 140737488355328)) (sel (decide ((v1.length + r.1.length) * 1 ≤ 140737488355328)) (G79_6 k j (v0 ++ [(v2.getD v4.toNat
 (0, [], ())).1], v1 ++ r.1, v2, v3, IntKind.i64.wrap (v4 + 1), v5, v6, ())) none) none) none) none) (some (v0, v1, v5, v6, ())) := by kernel_rfl
noncomputable def G79 (k : Nat) (v : (List UInt8 × List (Int × List UInt8 × Unit) × Unit) × Unit) : Option (List Int × Int × Unit) := F79 k v
theorem G79_eq (k : Nat) (v0 : List UInt8) (v1 : List (Int × List UInt8 × Unit)) : G79 k ((v0, v1, ()), ()) = ocall (G44 k ((v0, v1, ()), ())) fun r => sel (!r.1) (some ([], 1, ())) (ocall (G79_6 k k ([], [], v1, Int.ofNat v1.length, 0, v0, v1, ()))
 fun e => ocall (G140 k (e.1, ())) fun r => ocall (G141 k ((r.1.1, r.1.2.1, ()), ())) fun r => ocall (G142 k ([toBytes e.2.2.1, r.1, e.2.1], ())) fun r => some (r.1, 0, ())) := by kernel_rfl
noncomputable def G215_3 (k : Nat) (j : Nat) (v : Int × List Int × Int × Int × Unit) : Option (Int × Unit) := F215_3 k j v
theorem G215_3_eq (k : Nat) (j : Nat) (v0 : Int) (v1 : List Int) (v2 v3 : Int) : G215_3 k (j + 1) (v0, v1, v2, v3, ()) = sel (decide (v3 < v2)) (sel (decide (0 ≤ v3)) (sel (decide (v3 < Int.ofNat v1.length)) (G215_3 k j (bits BinOp.or IntKind.u64 (IntKind.u64.wrap (v0 * 2 ^ min (Int.toNat 8)
 64)) (IntKind.u64.wrap (v1.getD v3.toNat 0)), v1, v2, IntKind.i64.wrap (v3 + 1), ())) none) none) (some (v0, ())) := by kernel_rfl
noncomputable def G215 (k : Nat) (v : List Int × Unit) : Option (Int × Unit) := F215 k v
theorem G215_eq (k : Nat) (v0 : List Int) : G215 k (v0, ()) = sel (decide (8 ≤ Int.ofNat v0.length)) (sel (decide (Int.ofNat v0.length ≤ Int.ofNat v0.length)) (ocall (G215_3 k k (0, List.drop (Int.ofNat 0).toNat (List.take (Int.toNat 8) v0), Int.ofNat (List.drop (Int.ofNat 0).toNat
 (List.take (Int.toNat 8) v0)).length, 0, ())) fun e => some (e.1, ())) none) none := by kernel_rfl
noncomputable def G193 (k : Nat) (v : List Int × Unit) : Option ((Int × Int × Unit) × Int × Int × Unit) := F193 k v
theorem G193_eq (k : Nat) (v0 : List Int) : G193 k (v0, ()) = sel (decide (Int.ofNat v0.length < 8)) (some ((0, 0, ()), 0, 2, ())) (ocall (G215 k (v0, ())) fun r => ocall (G214 k ((r.1, 0, ()), 1, ())) fun r_1 => sel r_1.1 (sel (decide (Int.ofNat
 v0.length < 16)) (some ((0, 0, ()), 0, 2, ())) (sel (decide (8 ≤ Int.ofNat v0.length)) (sel (decide (Int.ofNat v0.length ≤ Int.ofNat v0.length)) (sel (decide (Int.ofNat v0.length ≤ Int.ofNat v0.length)) (ocall (G215 k (List.drop (Int.toNat 8) (List.take (Int.ofNat v0.length).toNat
 v0), ())) fun r_2 => ocall (G190 k ((r.1, r_2.1, ()), ())) fun r_3 => sel (!r_3.1) (some ((0, 0, ()), 0, 3, ())) (some ((r.1, r_2.1, ()), 16, 0, ()))) none) none) none)) (ocall (G190 k ((r.1, 0, ()), ())) fun r_2 => sel (!r_2.1)
 (some ((0, 0, ()), 0, 3, ())) (some ((r.1, 0, ()), 8, 0, ())))) := by kernel_rfl
noncomputable def G216 (k : Nat) (v : (Int × Int × Unit) × Int × Unit) : Option (Bool × Unit) := F216 k v
theorem G216_eq (k : Nat) (v0 v1 v2 : Int) : G216 k ((v0, v1, ()), v2, ()) = ocall (G212 k (v2, ())) fun r => sel r.1 (ocall (G214 k ((v0, v1, ()), v2, ())) fun r => some (r.1, ())) (some (false, ())) := by kernel_rfl
noncomputable def G194_g0 (k : Nat) (j : Nat) (v : List Int × Int × Int × Int × Unit) : Option (List Int × Unit) := F194_g0 k j v
theorem G194_g0_eq (k : Nat) (j : Nat) (v0 : List Int) (v1 v2 v3 : Int) : G194_g0 k (j + 1) (v0, v1, v2, v3, ()) = ocall (G216 k ((v2, v3, ()), v1, ())) fun r => sel r.1 (sel (decide ((v0.length + 1) * 8 ≤ 140737488355328)) (sel (decide (IntKind.i64.wrap (v1 + 1) ≤ 128))
 (G194_g0 k j (v0 ++ [v1], IntKind.i64.wrap (v1 + 1), v2, v3, ())) (some (v0 ++ [v1], ()))) none) (sel (decide (IntKind.i64.wrap (v1 + 1) ≤ 128)) (G194_g0 k j (v0, IntKind.i64.wrap (v1 + 1), v2, v3, ())) (some (v0, ()))) := by kernel_rfl
noncomputable def G194 (k : Nat) (v : (Int × Int × Unit) × Unit) : Option (List Int × Unit) := F194 k v
theorem G194_eq (k : Nat) (v0 v1 : Int) : G194 k ((v0, v1, ()), ()) = ocall (G216 k ((v0, v1, ()), 2, ())) fun r => sel r.1 (ocall (G194_g0 k k ([2], IntKind.i64.wrap (2 + 1), v0, v1, ())) fun e => some (e.1, ())) (ocall (G194_g0 k k ([],
 IntKind.i64.wrap (2 + 1), v0, v1, ())) fun e => some (e.1, ())) := by kernel_rfl
noncomputable def G143 (k : Nat) (v : List Int × Unit) : Option (List UInt8 × List Int × List Int × Int × Unit) := F143 k v
theorem G143_eq (k : Nat) (v0 : List Int) : G143 k (v0, ()) = sel (decide (Int.ofNat v0.length < 4)) (some ([], [], [], 2, ())) (sel (decide (4 ≤ Int.ofNat v0.length)) (sel (decide (Int.ofNat v0.length ≤ Int.ofNat v0.length)) (ocall (G121 k (ofBytes (List.drop (Int.ofNat 0).toNat
 (List.take (Int.toNat 4) v0)), ())) fun r => sel (!r.1) (some ([], [], [], 3, ())) (sel (decide (4 ≤ Int.ofNat v0.length)) (sel (decide (Int.ofNat v0.length ≤ Int.ofNat v0.length)) (sel (decide (Int.ofNat v0.length ≤ Int.ofNat v0.length)) (ocall (G193 k (List.drop (Int.toNat 4)
 (List.take (Int.ofNat v0.length).toNat v0), ())) fun r => sel (decide (4 ≤ Int.ofNat v0.length)) (sel (decide (Int.ofNat v0.length ≤ Int.ofNat v0.length)) (ocall (G194 k ((r.1.1, r.1.2.1, ()), ())) fun r_1 => sel (decide (0 ≤ IntKind.i64.wrap (4 + r.2.1))) (sel (decide
 (IntKind.i64.wrap (4 + r.2.1) ≤ Int.ofNat v0.length)) (sel (decide (Int.ofNat v0.length ≤ Int.ofNat v0.length)) (sel (decide (Int.ofNat v0.length ≤ Int.ofNat v0.length)) (some (ofBytes (List.drop (Int.ofNat 0).toNat (List.take (Int.toNat 4) v0)), r_1.1, List.drop (IntKind.i64.wrap (4 + r.2.1)).toNat
 (List.take (Int.ofNat v0.length).toNat v0), r.2.2.1, ())) none) none) none) none) none) none) none) none) none)) none) none) := by kernel_rfl
end Go.Proofs.YtjgnpmdbkgeakaaDoor.G
end
