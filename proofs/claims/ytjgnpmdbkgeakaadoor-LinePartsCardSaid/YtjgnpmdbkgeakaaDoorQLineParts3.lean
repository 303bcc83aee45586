/- THE CLAIM'S TEXTS, part 3: what its proof needs of the theory, the functions, their equations and the laws. No condition. -/
import Derived.Test.YtjgnpmdbkgeakaaDoorQLineParts2
import Derived.RangeFuncFrom
import Derived.RangeFuncBox
import Derived.RangeFuncLeaves
import Derived.Shelf.Abstract
import Derived.Shelf.RegionOpenPlain
import Derived.Lib.Walk
import Derived.Lib.SliceRun
import Derived.Lib.AppendZerosOnto
import Derived.Laws.MakeOwn
import Derived.Laws.CopyOwn
import Derived.KernelRfl
section
set_option linter.unusedVariables false
set_option linter.unusedSimpArgs false
namespace Go.Proofs.YtjgnpmdbkgeakaaDoor.Signs
open Go Go.RowKit Go.Proofs Go.Proofs.YtjgnpmdbkgeakaaDoor Th Go.Lib
attribute [local go_sem] Oper.semAt_some
set_option maxRecDepth 100000 in
set_option maxHeartbeats 2000000 in
theorem signs_in (n : Nat) (hn : 3 ≤ n) (f kind size : Int) (bs : ByteArray) (hlen : bs.size ≤ 9223372036854775807) (d : Bool) (w : World)
    (hIs : ∀ w1 : World, Below w.heap.size w w1 → Calls Tryd.prog 169 #[.string bs] w1 fun e w' => e = .returned (.bool d) ∧ Below w1.heap.size w1 w') :
    CallsIn Fence.wide n Tryd.prog 177 #[.agg #[.int .i64 f, .int .i64 kind, .int .i64 size], .string bs] w fun e W' => e = .returned (.bool (signsOf kind d bs.data.toList)) ∧ Below w.heap.size w W' := by
  have h1 : 1 ≤ n := by omega
  refine callsIn_of_wp Tryd.func177 rfl trivial ?_ rfl
  simp only [Tryd.ntmps177, List.size_toArray, List.length_cons, List.length_nil, Nat.reduceAdd, Nat.reduceSub, Array.replicate_succ, Array.replicate_zero, List.push_toArray, List.append_toArray, List.nil_append, List.cons_append]
  by_cases k1 : kind = 1
  · subst k1
    gi_wp2
    refine ⟨trivial, (callsIn_wide.2 (hIs _ ((Below.refl _ w).alloc (Nat.le_refl _) _))).mono ?_⟩
    rintro e w' ⟨rfl, hb⟩
    dsimp only
    gi_wp2
    go_ret
    refine ⟨by simp [signsOf], ((Below.refl _ w).alloc (Nat.le_refl _) _).trans (hb.mono (by simp))⟩
  by_cases k3 : kind = 3
  · subst k3
    gi_wp2
    refine ⟨trivial, (callsIn_wide.2 (hIs _ ((Below.refl _ w).alloc (Nat.le_refl _) _))).mono ?_⟩
    rintro e w' ⟨rfl, hb⟩
    dsimp only
    gi_wp2
    go_ret
    refine ⟨by simp [signsOf], ((Below.refl _ w).alloc (Nat.le_refl _) _).trans (hb.mono (by simp))⟩
  · gi_wp2
    · exfalso; simp_all
    have hit : (((w.alloc (Obj.cells #[Value.int IntKind.i64 f, Value.int IntKind.i64 kind, Value.int IntKind.i64 size] 222)).iter bs 0)).heap[w.heap.size + 1]? = some (.stringIter bs 0) := by
      have := World.iter_heap (w.alloc (Obj.cells #[Value.int IntKind.i64 f, Value.int IntKind.i64 kind, Value.int IntKind.i64 size] 222)) bs 0
      rwa [World.size_alloc] at this
    have hbl : Below w.heap.size w ((w.alloc (Obj.cells #[Value.int IntKind.i64 f, Value.int IntKind.i64 kind, Value.int IntKind.i64 size] 222)).iter bs 0) :=
      ((Below.refl _ w).alloc (Nat.le_refl _) _).alloc (by simp) _
    generalize ((w.alloc (Obj.cells #[Value.int IntKind.i64 f, Value.int IntKind.i64 kind, Value.int IntKind.i64 size] 222)).iter bs 0) = W0 at hit hbl ⊢
    gi_loopw [] (fun wr => ∃ pos, pos ≤ bs.size ∧ (∀ (i : Nat) (h : i < bs.size), i < pos → plain bs[i] = true) ∧ wr.heap[w.heap.size + 1]? = some (.stringIter bs pos) ∧ Below w.heap.size w wr)
      (fun wr => bs.size - wr.iterPos (w.heap.size + 1))
    case atStart => exact ⟨0, by omega, fun i h hi => by omega, hit, hbl⟩
    case round =>
      obtain ⟨pos, hp, hall, hhe, hb⟩ := hrel
      by_cases hlt : pos < bs.size
      · by_cases hpl : plain (bs[pos]'hlt) = true
        · have hpl' := hpl
          simp only [plain, Bool.and_eq_true, decide_eq_true_eq] at hpl'
          have hnext := run_next_ascii_at (P := Tryd.prog) wr (w.heap.size + 1) bs pos 0 hhe hlt (by omega)
          have c1 : ¬ (((bs[pos]'hlt).toNat : Int) < 32) := by omega
          have c2 : ¬ (126 < ((bs[pos]'hlt).toNat : Int)) := by omega
          gi_wp2
          go_roundw
          case rel =>
            refine ⟨pos + 1, by omega, fun i h hi => ?_, iterAt_heap wr (w.heap.size + 1) bs pos (pos + 1) hhe, below_iterAt hb (by omega) _ _⟩
            by_cases e : i = pos
            · subst e; exact hpl
            · exact hall i h (by omega)
          case measure =>
            rw [iterPos_of' hhe, iterPos_of' (iterAt_heap wr (w.heap.size + 1) bs pos (pos + 1) hhe)]
            omega
        · have hpf : plain (bs[pos]'hlt) = false := by simpa using hpl
          have fin : bs.data.toList.all plain = false := not_all hlt hpf
          have fin2 : signsOf kind d bs.data.toList = false := by unfold signsOf; rw [if_neg (by simp [k1, k3]), fin]
          by_cases hasc : (bs[pos]'hlt).toNat < 128
          · have hnext := run_next_ascii_at (P := Tryd.prog) wr (w.heap.size + 1) bs pos 0 hhe hlt hasc
            have hcc : ((bs[pos]'hlt).toNat : Int) < 32 ∨ 126 < ((bs[pos]'hlt).toNat : Int) := by
              simp only [plain, Bool.and_eq_false_iff, decide_eq_false_iff_not] at hpf
              omega
            rcases hcc with c1 | c1
            · gi_wp2
              go_ret
              first | exact ⟨(congrArg (fun x => Ending.returned (Value.bool x)) fin2).symm, below_iterAt hb (by omega) _ _⟩ | exact ⟨rfl, below_iterAt hb (by omega) _ _⟩
            · have c2 : ¬ (((bs[pos]'hlt).toNat : Int) < 32) := by omega
              gi_wp2
              go_ret
              first | exact ⟨(congrArg (fun x => Ending.returned (Value.bool x)) fin2).symm, below_iterAt hb (by omega) _ _⟩ | exact ⟨rfl, below_iterAt hb (by omega) _ _⟩
          · have hnext := run_next_any_at (P := Tryd.prog) wr (w.heap.size + 1) bs pos 0 hhe hlt
            have hhi := (decode_high bs pos hlt (by omega)).1
            have c1 : ¬ (((Utf8.decode bs pos).1 : Int) < 32) := by omega
            have c2 : 126 < ((Utf8.decode bs pos).1 : Int) := by omega
            gi_wp2
            go_ret
            first | exact ⟨(congrArg (fun x => Ending.returned (Value.bool x)) fin2).symm, below_iterAt hb (by omega) _ _⟩ | exact ⟨rfl, below_iterAt hb (by omega) _ _⟩
      · have hnext := run_next_end_at (P := Tryd.prog) wr (w.heap.size + 1) bs pos 0 hhe hlt
        have fin : bs.data.toList.all plain = true := all_of fun i h => hall i h (by omega)
        have fin2 : signsOf kind d bs.data.toList = true := by unfold signsOf; rw [if_neg (by simp [k1, k3]), fin]
        gi_wp2
        go_ret
        first | exact ⟨(congrArg (fun x => Ending.returned (Value.bool x)) fin2).symm, hb⟩ | exact ⟨rfl, hb⟩
theorem fn177 (f kind size : Int) (b : List UInt8) (hlen : b.length ≤ 9223372036854775807) (d : Bool) (hIs : CallOK Tryd.prog 169 [.str b] (.bool d)) :
    CallOK Tryd.prog 177 [.agg [.int .i64 f, .int .i64 kind, .int .i64 size], .str b] (.bool (signsOf kind d b)) := by
  refine .inl ⟨rfl, ⟨_, Tryd.func177, by kernel_rfl, by kernel_rfl⟩, fun w pr us hpr hgl ha => ?_⟩
  obtain ⟨u1, us1, rfl, h1, h2⟩ : ∃ u1 us1, us = u1 :: us1 ∧ PV w pr (.agg [.int .i64 f, .int .i64 kind, .int .i64 size]) u1 ∧ All2 (PV w pr) [.str b] us1 := by
    cases us with
    | nil => exact ha.elim
    | cons u us => exact ⟨u, us, rfl, ha.1, ha.2⟩
  obtain ⟨u2, us2, rfl, h3, h4⟩ : ∃ u1 us', us1 = u1 :: us' ∧ PV w pr (.str b) u1 ∧ All2 (PV w pr) [] us' := by
    cases us1 with
    | nil => exact h2.elim
    | cons u us => exact ⟨u, us, rfl, h2.1, h2.2⟩
  have e1 : u1 = .agg #[.int .i64 f, .int .i64 kind, .int .i64 size] := by
    rcases h1 with h | ⟨cs, vs, hc, hv, hr⟩
    · exact h.elim
    · cases hc
      match vs, hr with
      | [a, b, c], ⟨p, q, r, _⟩ => rw [hv, show a = _ from p, show b = _ from q, show c = _ from r]
  have e2 : u2 = strV b := by rcases h3 with h | ⟨_, _, h, _⟩ <;> first | exact h | cases h
  have e3 : us2 = [] := by cases us2 with | nil => rfl | cons _ _ => exact h4.elim
  subst e1 e2 e3
  have hIs' : ∀ w1 : World, Below w.heap.size w w1 → Calls Tryd.prog 169 #[strV b] w1 fun e w' => e = .returned (.bool d) ∧ Below w1.heap.size w1 w' := by
    intro w1 hb1
    rcases hIs with ⟨_, hIs⟩ | ⟨_, _, _, _, _, e, _⟩ | ⟨_, _, _, _, _, e, _⟩
    case inr.inl => cases e
    case inr.inr => cases e
    refine (hIs.2 w1 pr [strV b] (fun k o h => Nat.lt_of_lt_of_le (hpr k o h) hb1.size) (hgl.keeps fun k o p => ⟨p, cell_heap (hb1.block k (hpr k o p)) o⟩) ⟨.inl rfl, trivial⟩).mono ?_
    rintro e w' ⟨r, pr', rfl, hb, _, _, hr⟩
    obtain ⟨bb, hr⟩ := hr
    refine ⟨?_, hb⟩
    rcases hr.1 with h1 | ⟨_, _, h1, _⟩
    · rw [show r = .bool d from h1]
    · cases h1
  have := signs_in 10 (by omega) f kind size ⟨b.toArray⟩ (by simpa [ByteArray.size] using hlen) d w hIs'
  refine (callsIn_wide.1 this).mono ?_
  rintro e W' ⟨rfl, hb⟩
  exact ⟨_, pr, rfl, hb, fun _ _ _ => Iff.rfl, fun k o h => Nat.lt_of_lt_of_le (hpr k o h) hb.size, none, .inl rfl, rfl⟩
end Go.Proofs.YtjgnpmdbkgeakaaDoor.Signs
end
section
set_option linter.unusedVariables false
set_option linter.unusedSimpArgs false
namespace Go.Proofs.YtjgnpmdbkgeakaaDoor.Sum
open Go Go.RowKit Go.Shelf Go.Proofs Go.Proofs.YtjgnpmdbkgeakaaDoor Th
attribute [local go_sem] Oper.semAt_some
def Keep2 (b1 b2 : Nat) (W W' : World) : Prop := ∀ k, k = b1 ∨ k = b2 → W'.heap[k]? = W.heap[k]?
theorem Keep2.cell {b1 b2 : Nat} {W W' : World} (h : Keep2 b1 b2 W W') {a : Addr} (ha : a.block = b1 ∨ a.block = b2) : W'.cell? a = W.cell? a := World.cell?_of_block (h _ ha)
def backs (l : List Int) : List (Int × Int) := ((List.range l.length).map fun (i : Nat) => ((i : Int), l.getD i 0)).reverse
theorem backs_len (l : List Int) : (backs l).length = l.length := by simp [backs]
theorem backs_at (l : List Int) (k : Nat) (hk : k < l.length) : (backs l).take (k + 1) = (backs l).take k ++ [(((l.length - 1 - k : Nat) : Int), l.getD (l.length - 1 - k) 0)] := by
  rw [List.take_add_one]
  congr 1
  simp [backs, List.getElem?_reverse, hk]
set_option maxRecDepth 100000 in
set_option maxHeartbeats 1000000 in
theorem back1_in (F : Fence) (n : Nat) (h93 : F.fn 222) (hro : F.round = none) (hn : 1 ≤ n) (l B : Nat) (bs : List Int) (ad : Addr) (cap : Nat) (J Jx : List (Int × Int) → World → Prop)
    (hY : ∀ pre x W, J pre W → pre.length < bs.length → YieldAt F (n - 1) Tryd.prog l #[.int .i64 x.1, .int .u8 x.2] W fun e W' =>
      (e = .returned (.bool true) ∧ J (pre ++ [x]) W' ∧ Keep2 B ad.block W W') ∨ (e = .returned (.bool false) ∧ Jx (pre ++ [x]) W'))
    (W : World) (hB : W.cell? ⟨B, 0, none⟩ = some (.slice (some ad) bs.length cap)) (hc : ∀ (i : Nat) (h : i < bs.length), W.cell? (ad.add i) = some (.int .u8 bs[i])) (hlen : bs.length ≤ 9223372036854775807) (h0 : J [] W) :
    CallsIn F n Tryd.prog 222 #[.func (.yield l) #[] #[], .pointer (some ⟨B, 0, none⟩)] W fun e W' => (∃ v, e = .returned v) ∧
      ((∃ ys, ys = backs bs ∧ J ys W') ∨ (∃ pre, True ∧ Jx pre W')) := by
  refine callsIn_of_wp Tryd.func222 rfl h93 ?_ hro
  simp only [Tryd.ntmps222, List.size_toArray, List.length_cons, List.length_nil, Nat.reduceAdd, Nat.reduceSub, Array.replicate_succ, Array.replicate_zero, List.push_toArray, List.append_toArray, List.nil_append, List.cons_append]
  gi_wp2
  gi_loopw [3] (fun p wr => ∃ k, k ≤ bs.length ∧ p = .int .i64 ((bs.length : Int) - 1 - k) ∧ Keep2 B ad.block W wr ∧ J ((backs bs).take k) wr)
    (fun p wr => match p with | .int _ n => (n + 1).toNat | _ => 0)
  case atStart => exact ⟨0, by omega, by simp, fun k _ => rfl, by simpa using h0⟩
  case round =>
    obtain ⟨k, hk, rfl, hkeep, hJ⟩ := hrel
    have hBr : wr.cell? ⟨B, 0, none⟩ = some (.slice (some ad) bs.length cap) := (hkeep.cell (.inl rfl)).trans hB
    by_cases hlt : k < bs.length
    · have hi : bs.length - 1 - k < bs.length := by omega
      have ei : (bs.length : Int) - 1 - k = ((bs.length - 1 - k : Nat) : Int) := by omega
      have hcr : wr.cell? (ad.add (bs.length - 1 - k)) = some (.int .u8 bs[bs.length - 1 - k]) := by
        refine (hkeep.cell (.inr ?_)).trans (hc _ hi)
        unfold Addr.add; split <;> rfl
      rw [ei]
      have hx := backs_at bs k hlt
      rw [getD_of hi] at hx
      obtain ⟨fn, tmps, assign, body, hy, hR⟩ := hY _ (((bs.length - 1 - k : Nat) : Int), bs[bs.length - 1 - k]) wr hJ (by rw [List.length_take, backs_len]; omega)
      generalize bs.length - 1 - k = i at *
      gi_wp2
      refine hR.mono ?_
      rintro e W3 (⟨rfl, hJ3, hk3⟩ | ⟨rfl, hJx3⟩)
      · gi_wp2
        go_roundw
        case rel => exact ⟨k + 1, by omega, by congr 1; omega, fun b hb => (hk3 b hb).trans (hkeep b hb), by rw [hx]; exact hJ3⟩
        case measure => simp
      · gi_wp2
        refine bodyPost_ret (results_none rfl _ _ _) rfl ?_
        exact ⟨⟨_, rfl⟩, .inr ⟨_, trivial, hJx3⟩⟩
    · have hk' : k = bs.length := by omega
      subst hk'
      have e1 : (bs.length : Int) - 1 - (bs.length : Nat) = -1 := by omega
      rw [e1]
      gi_wp2
      go_end0
      exact ⟨⟨_, rfl⟩, .inl ⟨_, rfl, by rw [List.take_of_length_le (by rw [backs_len]; exact Nat.le_refl _)] at hJ; exact hJ⟩⟩
set_option maxHeartbeats 1000000 in
theorem back_in (F : Fence) (n : Nat) (h91 : F.fn 203) (hro : F.round = none) (ad : Addr) (m cap : Nat) (w : World) :
    CallsIn F n Tryd.prog 203 #[.slice (some ad) m cap] w fun e w' => e = .returned (.func (.func 222) #[] #[.pointer (some ⟨w.heap.size, 0, none⟩)]) ∧ w' = w.alloc (.cells #[.slice (some ad) m cap] 110) := by
  refine callsIn_of_wp Tryd.func203 rfl h91 ?_ hro
  simp only [Tryd.ntmps203, List.size_toArray, List.length_cons, List.length_nil, Nat.reduceAdd, Nat.reduceSub, Array.replicate_succ, Array.replicate_zero, List.push_toArray, List.append_toArray, List.nil_append, List.cons_append]
  gi_wp2
  go_ret
  exact ⟨rfl, rfl⟩
def step (p : Int × Bool) (c : Int) : Int × Bool :=
  (RowKit.wrap64 (p.1 + bif p.2 then (c - 48) % 256 * 2 - (c - 48) % 256 / 5 * 9 else (c - 48) % 256), !p.2)
def sumOf (l : List (Int × Int)) (tw : Bool) : Int × Bool := l.foldl (fun p x => step p x.2) (0, tw)
theorem sumOf_snoc (pre : List (Int × Int)) (x : Int × Int) (tw : Bool) : sumOf (pre ++ [x]) tw = step (sumOf pre tw) x.2 := by simp [sumOf]
theorem run_s2b (P : Program) {src dst e : TypeId} (hsrc : ∃ d, P.underlying src = some d) (hdst : P.underlying dst = some (.slice e)) (he8 : P.underlying e = some (.int .u8)) (b : List UInt8) (w : World) :
    ∃ (cap : Nat) (us : Array Value), b.length ≤ cap ∧ (∀ (i : Nat) (h : i < b.length), us[i]? = some (.int .u8 (b[i].toNat : Int))) ∧
      (convert src dst (strV b)).run P w = .ok (.slice (some ⟨w.heap.size, 0, none⟩) b.length cap) (w.drew.alloc (.cells us e (us.size, us.size + 1))) := by
  obtain ⟨d, hd1⟩ := hsrc
  refine ⟨grownCap w b.length 0 e, (⟨b.toArray⟩ : ByteArray).data.map (fun b => Value.int .u8 b.toNat) ++ Array.replicate (grownCap w b.length 0 e - b.length) (.int .u8 0), grownCap_ge w b.length 0 e, fun i h => ?_, ?_⟩
  · rw [Array.getElem?_append_left (by simpa using h)]
    simp [h]
  · have hsz : (⟨b.toArray⟩ : ByteArray).size = b.length := by simp [ByteArray.size]
    have hge : b.length ≤ grownCap w b.length 0 e := grownCap_ge w b.length 0 e
    generalize hus : (⟨b.toArray⟩ : ByteArray).data.map (fun b => Value.int .u8 b.toNat) ++ Array.replicate (grownCap w b.length 0 e - b.length) (.int .u8 0) = us
    have hsh := shape_alloc w.drew us e
    have hfz := freeze_alloc w.drew us e
    simp only [strV, Sem.run_bind, convert, run_underlying hd1, run_underlying hdst, Result.andThen_ok, run_underlying he8]
    simp only [Conv.stringToBytes, Sem.run_bind, run_choose_drew, Question.forced, Bool.false_eq_true, if_false, Result.andThen_ok, newRow, run_newObj_alloc, Sem.run_pure, markStringish, run_shape, hsz]
    have e0 : (Question.appendCap b.length 0 e).cut (w.tape w.drawn (Question.appendCap b.length 0 e)) = grownCap w b.length 0 e := rfl
    rw [e0, hus]
    simp only [hsh, run_freeze, hfz, Result.andThen_ok]
    rfl
structure At0 (w : World) (tw : Bool) (b : List UInt8) (cap : Nat) (W : World) : Prop where
  size : W.heap.size = w.heap.size + 4
  below : Below w.heap.size w W
  tw : W.cell? ⟨w.heap.size, 0, none⟩ = some (.bool tw) ∧ W.frozen? ⟨w.heap.size, 0, none⟩ = false
  n : W.cell? ⟨w.heap.size + 1, 0, none⟩ = some (.int .i64 0) ∧ W.frozen? ⟨w.heap.size + 1, 0, none⟩ = false
  bytes : ∀ (i : Nat) (h : i < (toBytes b).length), W.cell? ((⟨w.heap.size + 2, 0, none⟩ : Addr).add i) = some (.int .u8 (toBytes b)[i])
  box : W.cell? ⟨w.heap.size + 3, 0, none⟩ = some (.slice (some ⟨w.heap.size + 2, 0, none⟩) (toBytes b).length cap)
theorem at0 (w : World) (tw : Bool) (b : List UInt8) (cap : Nat) (us : Array Value) (e1 e2 e3 e4 : TypeId) (fr : Nat × Nat) (hus : ∀ (i : Nat) (h : i < b.length), us[i]? = some (.int .u8 (b[i].toNat : Int))) :
    At0 w tw b cap ((((w.alloc (.cells #[.bool tw] e1)).alloc (.cells #[.int .i64 0] e2)).alloc (.cells us e3 fr)).drew.alloc (.cells #[.slice (some ⟨w.heap.size + 1 + 1, 0, none⟩) b.length cap] e4)) := by
  generalize hW : ((((w.alloc (.cells #[.bool tw] e1)).alloc (.cells #[.int .i64 0] e2)).alloc (.cells us e3 fr)).drew.alloc (.cells #[.slice (some ⟨w.heap.size + 1 + 1, 0, none⟩) b.length cap] e4)) = W
  have hh : W.heap = (((w.heap.push (.cells #[.bool tw] e1)).push (.cells #[.int .i64 0] e2)).push (.cells us e3 fr)).push (.cells #[.slice (some ⟨w.heap.size + 1 + 1, 0, none⟩) b.length cap] e4) := by rw [← hW]; rfl
  have g0 : W.heap[w.heap.size]? = some (.cells #[.bool tw] e1) := by rw [hh]; simp only [Array.getElem?_push, Array.size_push]; rw [if_neg (by omega), if_neg (by omega), if_neg (by omega), if_pos trivial]
  have g1 : W.heap[w.heap.size + 1]? = some (.cells #[.int .i64 0] e2) := by rw [hh]; simp only [Array.getElem?_push, Array.size_push]; rw [if_neg (by omega), if_neg (by omega), if_pos trivial]
  have g2 : W.heap[w.heap.size + 2]? = some (.cells us e3 fr) := by rw [hh]; simp only [Array.getElem?_push, Array.size_push]; rw [if_neg (by omega), if_pos trivial]
  have g3 : W.heap[w.heap.size + 3]? = some (.cells #[.slice (some ⟨w.heap.size + 1 + 1, 0, none⟩) b.length cap] e4) := by rw [hh]; simp only [Array.getElem?_push, Array.size_push]; rw [if_pos trivial]
  have hl : (toBytes b).length = b.length := by simp [toBytes]
  refine ⟨by rw [hh]; simp, ?_, ⟨by rw [cell_of g0]; rfl, frozen_of g0 (thawed0 _) (by simp)⟩, ⟨by rw [cell_of g1]; rfl, frozen_of g1 (thawed0 _) (by simp)⟩, fun i h => ?_, by rw [cell_of g3, hl]; rfl⟩
  · rw [← hW]
    refine (((((Below.refl _ w).alloc (Nat.le_refl _) _).alloc (by simp) _).alloc (by simp; omega) _).drew).alloc ?_ _
    show _ ≤ (((w.alloc _).alloc _).alloc _).heap.size
    simp; omega
  · rw [addr_add, cell_of g2, Nat.zero_add, hus i (by omega)]
    simp [toBytes]
theorem round_post {w WW W : World} {tw : Bool} {b : List UInt8} {cap : Nat} (A : At0 w tw b cap WW) {pre : List (Int × Int)} {x : Int × Int} {p : Int × Bool} {v : Int} {c : Bool} {ac : Act}
    (hsn : sumOf (pre ++ [x]) tw = (v, c)) (ht : W.cell? ⟨w.heap.size, 0, none⟩ = some (.bool p.2)) (htf : W.frozen? ⟨w.heap.size, 0, none⟩ = false)
    (hc : W.cell? ⟨w.heap.size + 1, 0, none⟩ = some (.int .i64 p.1)) (hf : W.frozen? ⟨w.heap.size + 1, 0, none⟩ = false) (hb : Below w.heap.size w W) :
    ownPostK (Keep2 (w.heap.size + 3) (w.heap.size + 2)) (fun pre W => (W.cell? ⟨w.heap.size, 0, none⟩ = some (.bool (sumOf pre tw).2) ∧ W.frozen? ⟨w.heap.size, 0, none⟩ = false) ∧ (W.cell? ⟨w.heap.size + 1, 0, none⟩ = some (.int .i64 (sumOf pre tw).1) ∧ W.frozen? ⟨w.heap.size + 1, 0, none⟩ = false) ∧ Below w.heap.size w W)
      (fun _ _ _ => False) (pre ++ [x]) W .normal ac ((W.setCell ⟨w.heap.size + 1, 0, none⟩ (.int .i64 v)).setCell ⟨w.heap.size, 0, none⟩ (.bool c)) := by
  refine ⟨(KeepsOthers.setCell _ _ _).trans (KeepsOthers.setCell _ _ _), fun k hk => ?_, ⟨?_, ?_⟩, ⟨?_, ?_⟩, (hb.setCell (by simp) _).setCell (by simp) _⟩
  · rw [Below.heap_setCell _ _ _ _ (by simp; omega), Below.heap_setCell _ _ _ _ (by simp; omega)]
  · rw [hsn]
    refine World.cell?_setCell_same' _ _ _ ?_
    rw [World.cell?_of_block (Below.heap_setCell _ _ _ _ (by simp)), ht]; rfl
  · rw [World.frozen?_setCell, World.frozen?_setCell]; exact htf
  · rw [hsn, World.cell?_of_block (Below.heap_setCell _ _ _ _ (by simp))]
    refine World.cell?_setCell_same' _ _ _ ?_
    rw [hc]; rfl
  · rw [World.frozen?_setCell, World.frozen?_setCell]; exact hf
set_option maxRecDepth 100000 in
set_option maxHeartbeats 2000000 in
theorem sum_in (n : Nat) (hn : 3 ≤ n) (b : List UInt8) (hlen : b.length ≤ 9223372036854775807) (tw : Bool) (w : World) :
    CallsIn Fence.wide n Tryd.prog 170 #[strV b, .bool tw] w fun e W' => e = .returned (.int .i64 (sumOf (backs (toBytes b)) tw).1) ∧ Below w.heap.size w W' := by
  have h1 : 1 ≤ n := by omega
  refine callsIn_of_wp_marks Tryd.func170 rfl trivial ?_ rfl
  simp only [Tryd.ntmps170, List.size_toArray, List.length_cons, List.length_nil, Nat.reduceAdd, Nat.reduceSub, Array.replicate_succ, Array.replicate_zero, List.push_toArray, List.append_toArray, List.nil_append, List.cons_append]
  gi_wp2
  obtain ⟨cap, us, hcap, hus, hrun⟩ := run_s2b Tryd.prog (src := 9) (dst := 110) (e := 5) ⟨_, Tryd.underlying9⟩ Tryd.underlying110 Tryd.underlying5 b ((w.alloc (.cells #[.bool tw] 4)).alloc (.cells #[.int .i64 0] 3))
  rw [hrun]
  simp only [Result.andThen_ok]
  gi_wp2
  refine ⟨trivial, (back_in Fence.wide (n - 1) trivial rfl _ _ _ _).mono ?_⟩
  rintro e w' ⟨rfl, rfl⟩
  dsimp only
  gi_wp2
  have A := at0 w tw b cap us 4 3 5 110 (us.size, us.size + 1) hus
  have hs : (((w.alloc (Obj.cells #[Value.bool tw] 4)).alloc (Obj.cells #[Value.int IntKind.i64 0] 3)).alloc (Obj.cells us 5 (us.size, us.size + 1))).drew.heap.size = w.heap.size + 3 := by
    show (((w.alloc _).alloc _).alloc _).heap.size = _
    simp
  rw [hs]
  generalize ((((w.alloc (Obj.cells #[Value.bool tw] 4)).alloc (Obj.cells #[Value.int IntKind.i64 0] 3)).alloc (Obj.cells us 5 (us.size, us.size + 1))).drew.alloc (Obj.cells #[Value.slice (some { block := w.heap.size + 1 + 1, off := 0 }) b.length cap] 110)) = WW at A ⊢
  have hlen' : (toBytes b).length = b.length := by simp [toBytes]
  refine wpIn_rangeFunc_ownF rfl h1 (gf := 222) (lb := #[.pointer (some ⟨w.heap.size + 3, 0, none⟩)]) rfl trivial (enters_of Tryd.func222 (by kernel_rfl) rfl)
    (encs := fun x : Int × Int => #[.int .i64 x.1, .int .u8 x.2]) (Kp := Keep2 (w.heap.size + 3) (w.heap.size + 2)) (S := fun ys => ys = backs (toBytes b)) (Sp := fun _ => True) (N := (toBytes b).length) (w0 := WW)
    (fun l J Jx W hW _ _ hY h0 => back1_in Fence.wide (n - 1) trivial rfl (by omega) l (w.heap.size + 3) (toBytes b) ⟨w.heap.size + 2, 0, none⟩ cap J Jx hY W ((hW.cell (p := ⟨w.heap.size + 3, 0, none⟩) (by rw [A.size]; show w.heap.size + 3 < _; omega)).trans A.box)
      (fun i h => (hW.cell (p := (⟨w.heap.size + 2, 0, none⟩ : Addr).add i) (by rw [A.size, addr_add]; show w.heap.size + 2 < _; omega)).trans (A.bytes i h)) (by rw [hlen']; exact hlen) h0)
    (fun h k b hb => (k b hb).trans (h b hb))
    (fun W l o o' hl _ _ _ b hb => World.putObj_heap_other (by rw [A.size] at hl; omega))
    (Below.refl _ _) (fun _ => rfl)
    (fun pre W => (W.cell? ⟨w.heap.size, 0, none⟩ = some (.bool (sumOf pre tw).2) ∧ W.frozen? ⟨w.heap.size, 0, none⟩ = false) ∧ (W.cell? ⟨w.heap.size + 1, 0, none⟩ = some (.int .i64 (sumOf pre tw).1) ∧ W.frozen? ⟨w.heap.size + 1, 0, none⟩ = false) ∧ Below w.heap.size w W)
    (fun _ _ _ => False) ?own (fun _ _ _ _ _ hs _ _ => hs) ⟨A.tw, A.n, A.below⟩
    (fun x => { tmps := #[strV b, .bool tw, undef, .pointer (some ⟨w.heap.size, 0, none⟩), .int .i64 0, .pointer (some ⟨w.heap.size + 1, 0, none⟩), undef, .int .u8 x.2, undef, strV b, .slice (some ⟨w.heap.size + 1 + 1, 0, none⟩) b.length cap, .func (.func 222) #[] #[.pointer (some ⟨w.heap.size + 3, 0, none⟩)], .int .i64 x.1, .int .u8 x.2, undef, undef, undef, undef, undef, undef, undef, undef, undef, undef, undef, undef, undef, undef, undef, undef], defers := [] }) ?assign ?body ?done ?stop
  case own =>
    refine fun s A' B' row hs hg hr => ⟨⟨cell_kept hs.1.1 hg fun r e => (hr r e).2, (frozen_kept hs.1.1 hg fun r e => (hr r e).2).trans hs.1.2⟩, ⟨cell_kept hs.2.1.1 hg fun r e => (hr r e).2, (frozen_kept hs.2.1.1 hg fun r e => (hr r e).2).trans hs.2.1.2⟩, ?_⟩
    exact hs.2.2.grown hg hs.2.2.size (fun k e => by have := (hr k e).1; rw [A.size] at this; omega)
  case assign =>
    intro l x W K hK
    gi_wp2_with (rw [Oper.semAt_eq _ _ _ (fun c h => by cases h)]; go_simp; try go_bits)
    exact hK
  case body =>
    rintro l pre x W ⟨⟨ht, htf⟩, ⟨hc, hf⟩, hb⟩ _
    have hsn := sumOf_snoc pre x tw
    generalize hp : sumOf pre tw = p at ht hc hsn
    obtain ⟨p1, p2⟩ := p
    simp only [] at ht hc
    cases p2
    · gi_wp2_with (rw [Oper.semAt_eq _ _ _ (fun c h => by cases h)]; go_simp; try go_bits)
      exact round_post (p := (p1, false)) A hsn ht htf hc hf hb
    · gi_wp2_with (rw [Oper.semAt_eq _ _ _ (fun c h => by cases h)]; go_simp; try go_bits)
      exact round_post (p := (p1, true)) A hsn ht htf hc hf hb
  case done =>
    rintro D xs W hD rfl ⟨⟨ht, htf⟩, ⟨hc, hf⟩, hb⟩ hK
    gi_wp2
    refine ⟨by simp, .inl ⟨_, _, rfl, run_takeDeferred hK, ?_⟩⟩
    exact ⟨_, results_tmp rfl _ _ _, rfl, hb.grown (grownBy_putObj' W D _) hb.size (fun k e => by cases e; rw [A.size] at hD; omega)⟩
  case stop =>
    rintro D c pre W _ _ h _
    exact h.elim
theorem fn170 (b : List UInt8) (hlen : b.length ≤ 9223372036854775807) (tw : Bool) : CallOK Tryd.prog 170 [.str b, .bool tw] (.int .i64 (sumOf (backs (toBytes b)) tw).1) := by
  refine .inl ⟨rfl, ⟨_, Tryd.func170, by kernel_rfl, by kernel_rfl⟩, fun w pr us hpr _ ha => ?_⟩
  obtain ⟨u1, us1, rfl, h1, h2⟩ : ∃ u1 us1, us = u1 :: us1 ∧ PV w pr (.str b) u1 ∧ All2 (PV w pr) [.bool tw] us1 := by
    cases us with
    | nil => exact ha.elim
    | cons u us => exact ⟨u, us, rfl, ha.1, ha.2⟩
  obtain ⟨u2, us2, rfl, h3, h4⟩ : ∃ u1 us', us1 = u1 :: us' ∧ PV w pr (.bool tw) u1 ∧ All2 (PV w pr) [] us' := by
    cases us1 with
    | nil => exact h2.elim
    | cons u us => exact ⟨u, us, rfl, h2.1, h2.2⟩
  have e1 : u1 = strV b := by rcases h1 with h | ⟨_, _, h, _⟩ <;> first | exact h | cases h
  have e2 : u2 = .bool tw := by rcases h3 with h | ⟨_, _, h, _⟩ <;> first | exact h | cases h
  have e3 : us2 = [] := by cases us2 with | nil => rfl | cons _ _ => exact h4.elim
  subst e1 e2 e3
  refine (callsIn_wide.1 (sum_in 10 (by omega) b hlen tw w)).mono ?_
  rintro e W' ⟨rfl, hb⟩
  exact ⟨_, pr, rfl, hb, fun _ _ _ => Iff.rfl, fun k o h => Nat.lt_of_lt_of_le (hpr k o h) hb.size, none, .inl rfl, rfl⟩
end Go.Proofs.YtjgnpmdbkgeakaaDoor.Sum
end
section
set_option linter.unusedVariables false
set_option linter.unusedSimpArgs false
namespace Go.Proofs.YtjgnpmdbkgeakaaDoor.Grow192
open Go Go.RowKit Go.Shelf Go.Lib Go.Proofs Go.Proofs.YtjgnpmdbkgeakaaDoor Th
def Post (n : Nat) (z : Value) (w : World) (e : Ending) (w' : World) : Prop := (n = 0 ∧ e = .returned (.slice none 0 0) ∧ w' = w) ∨
      (0 < n ∧ ∃ G us, e = .returned (.slice (some ⟨w.heap.size, 0, none⟩) 0 G) ∧ w' = w.drew.alloc (.cells us 5) ∧ us = Builtin.zeroCells z.cells n ++ Builtin.zeroCells z.cells (G - n) ∧ n ≤ G)
set_option maxHeartbeats 4000000 in
set_option maxRecDepth 100000 in
theorem walk (i0 : TypeInfo) (z : Value) (hi0 : Tryd.prog.info? 5 = some i0) (hz0 : i0.zero = some z) (hs0 : 0 < i0.size) (n : Nat) (w : World) (hbig : n * i0.bytes ≤ 140737488355328) (h63 : n ≤ 4611686018427387904) :
    Calls Tryd.prog 192 #[.slice none 0 0, .int .i64 n] w (Post n z w) := by
  by_cases hn : n = 0
  · subst hn
    go_enter Tryd.func192, Tryd.ntmps192
    go_wp2
    go_ret
    exact .inl ⟨rfl, rfl, rfl⟩
  have hts : Tryd.prog.underlying 110 = some (.slice 5) := by kernel_rfl
  have hti : Tryd.prog.underlying 3 = some (.int .i64) := by kernel_rfl
  have h1 : ¬ ((n : Int) < 0) := by omega
  have h4 : (n : Int) > 0 := by omega
  have hold : (Builtin.firstCells i0.size 0 (.slice none 0 0)).run Tryd.prog w.drew = .ok ([] : List Value).toArray w.drew := run_firstCells_none w.drew i0.size 0 0 0
  have hrz : ∀ ty, (Builtin.append_ #[110, 3] ty #[.slice none 0 0, .int .i64 (n : Int)]).run Tryd.prog w =
      .ok (.slice (some ⟨w.heap.size, 0, none⟩) n (grownCap w n 0 5)) (w.drew.alloc (.cells (([] : List Value).toArray ++ Builtin.zeroCells z.cells n ++ Builtin.zeroCells z.cells (grownCap w n 0 5 - n)) 5)) := fun ty => by
    have h := Lib.run_append_grow_zeros w 110 3 ty 5 i0 z .i64 .i64 hts hti hi0 hz0 none 0 0 [] hold n (by omega) hs0 (by omega) (by omega) (by omega) (by rw [Nat.zero_add]; exact growslice_fits (by omega) hbig)
    rw [Nat.zero_add] at h
    exact h
  have hGn : n ≤ grownCap w n 0 5 := grownCap_ge w _ _ _
  obtain ⟨G, hG⟩ : ∃ G, G = grownCap w n 0 5 := ⟨_, rfl⟩
  rw [← hG] at hrz hGn
  obtain ⟨ROW, hROW⟩ : ∃ ROW : Array Value, ROW = ([] : List Value).toArray ++ Builtin.zeroCells z.cells n ++ Builtin.zeroCells z.cells (G - n) := ⟨_, rfl⟩
  rw [← hROW] at hrz
  have hpost : Post n z w (.returned (.slice (some ⟨w.heap.size, 0, none⟩) 0 G)) (w.drew.alloc (.cells ROW 5)) := .inr ⟨by omega, G, _, rfl, rfl, by rw [hROW]; simp, hGn⟩
  clear hROW
  have hG63 : G ≤ 9223372036854775807 := by
    have := grownCap_le_maxLen w n 0 5 (by unfold maxLen; omega)
    rw [← hG] at this
    unfold maxLen at this
    omega
  have hw : IntKind.i64.wrap (n : Int) = (n : Int) := by rw [IntKind.wrap_i64]; omega
  clear hold hG
  go_enter Tryd.func192, Tryd.ntmps192
  go_wp2_with (at_builtin; refine Lib.wpList_append_run _ rfl _ _ _ _ rfl _ _ rfl rfl _ _ (hrz _) ?_)
  all_goals (go_ret; exact hpost)
theorem calls {ei : TInfo} {d : TypeDesc} {i0 : TypeInfo} {z : Value} (E : TypeIs Tryd.prog 5 ei i0 d z) (hs0 : 0 < ei.size) (n : Int) (h0 : 0 ≤ n) (hbig : n * (ei.bytes : Int) ≤ 140737488355328) (h63 : n ≤ 4611686018427387904) :
    CallOK Tryd.prog 192 [.nilsl, .int .i64 n] (.own ei.ty []) := by
  refine .inl ⟨rfl, ⟨_, Tryd.func192, rfl, rfl⟩, fun w pr us hlt hgl ha => ?_⟩
  obtain ⟨u1, u2, rfl⟩ : ∃ u1 u2, us = [u1, u2] := by
    have := ha.len
    match us, this with
    | [u1, u2], _ => exact ⟨u1, u2, rfl⟩
  obtain ⟨p1, p2, _⟩ := ha
  have e1 : u1 = .slice none 0 0 := by
    rcases p1 with h | ⟨cs, us, h, _⟩
    · exact h
    · cases h
  have e2 : u2 = .int .i64 n := by
    rcases p2 with h | ⟨cs, us, h, _⟩
    · exact h
    · cases h
  subst e1 e2
  obtain ⟨m, rfl⟩ : ∃ m : Nat, n = m := ⟨n.toNat, by omega⟩
  have hzsz : z.cells.size = ei.size := by have := (z0s_LR (w := w) (g := ⟨fun _ _ => False, fun _ => none, fun _ => none⟩) E.zrel).len; have := E.zlen; simp at *; omega
  refine (walk i0 z E.info E.zero (by rw [E.size]; exact hs0) m w (by rw [E.bytes]; have : ((m * ei.bytes : Nat) : Int) ≤ 140737488355328 := by rw [Int.natCast_mul]; exact hbig
                                                                      omega) (by omega)).mono ?_
  rintro e w' (⟨rfl, rfl, rfl⟩ | ⟨hm, G, us, rfl, rfl, rfl, hG⟩)
  · exact ⟨_, pr, rfl, Below.refl _ _, fun _ _ _ => Iff.rfl, hlt, none, ⟨.slice none 0 0, none, ei.ty.size⟩, ⟨rfl, .inl ⟨rfl, rfl, rfl⟩⟩, rfl, rfl, fun k hk => by cases hk⟩
  · refine ⟨_, pr, rfl, ((Below.refl _ w).drew).alloc (Nat.le_refl _) _, fun _ _ _ => Iff.rfl, fun k o p => ?_, some w.heap.size, ⟨.slice (some ⟨w.heap.size, 0, none⟩) 0 G, some w.heap.size, ei.ty.size⟩,
      ⟨rfl, .inr ⟨w.heap.size, G, rfl, rfl, ?_⟩⟩, rfl, rfl, fun k hk => ?_⟩
    · have h1 : (w.drew.alloc (.cells (Builtin.zeroCells z.cells m ++ Builtin.zeroCells z.cells (G - m)) 5)).heap.size = w.heap.size + 1 := by show (w.heap.push _).size = _; simp
      rw [h1]; have := hlt k o p; omega
    · refine ⟨bd0_mine.2 (Nat.le_refl _), Nat.zero_le _, ⟨_, 5, (0, 0), alloc_new w.drew _, thawed0 _, ?_, fun j x hj => by simp at hj⟩, fun o p => absurd (hlt _ _ p) (by omega), fun h => (by cases h), fun _ o p => absurd (hlt _ _ p) (by omega)⟩
      rw [E.tysz]
      simp only [Array.size_append, size_zeroCells, hzsz]
      rw [← Nat.add_mul]
      exact Nat.mul_le_mul_right _ (by omega)
    · cases hk; show _ < (w.heap.push _).size; simp
end Go.Proofs.YtjgnpmdbkgeakaaDoor.Grow192
end
section
set_option linter.unusedVariables false
set_option linter.unusedSimpArgs false
namespace Go.Proofs.YtjgnpmdbkgeakaaDoor.FrameP
open Go Go.RowKit Go.Shelf Go.Lib Go.Proofs Go.Proofs.YtjgnpmdbkgeakaaDoor Th
def hdr (n : Nat) : List Value := [.int .u8 (n / 256 % 256 : Nat), .int .u8 (n % 256 : Nat)]
def Post (n : Nat) (cs : List Value) (w : World) (e : Ending) (w' : World) : Prop :=
  (n = 0 ∧ e = .returned (.tuple #[.slice none 0 0, .int .i64 2]) ∧ w' = w) ∨
  (2048 < n ∧ e = .returned (.tuple #[.slice none 0 0, .int .i64 4]) ∧ w' = w) ∨
  (0 < n ∧ n ≤ 2048 ∧ e = .returned (.tuple #[.slice (some ⟨w.heap.size, 0, none⟩) (n + 2) (n + 2), .int .i64 0]) ∧ Below w.heap.size w w' ∧ w'.heap[w.heap.size]? = some (.cells (hdr n ++ cs).toArray 5 (0, 0)))
theorem wpList_make_run {P : Program} (w : World) {ops : Array Oper} {rest : List Oper} {o : Oper} {a : Act} {Q : Exit → Act → World → Prop} (hg : o.guard = none) (l c : Operand) (t : TypeId) (hop : o.op = Op.makeSlice t l c)
    (vl vc : Value) (hl : a.eval l = vl) (hc : a.eval c = vc) (v : Value) (w' : World) (hrun : (Instr.makeSlice t vl vc).run P w = .ok v w') (h : wpList P ops Q rest (a.put o.dst v) w') : wpList P ops Q (o :: rest) a w := by
  refine wpList_plain hg fun K hK' => ?_
  unfold Oper.wp
  simp [execOp, hop, hl, hc, hrun, Result.andThen]
  exact hK' _ _ h
theorem wpList_copy_run {P : Program} (w : World) {ops : Array Oper} {rest : List Oper} {o : Oper} {a : Act} {Q : Exit → Act → World → Prop} (hg : o.guard = none) (x y : Operand) (t u : TypeId) (hop : o.op = .call { callee := .builtin .copy, args := #[x, y], argTypes := #[t, u] })
    (vx vy : Value) (hx : a.eval x = vx) (hy : a.eval y = vy) (v : Value) (w' : World) (hrun : (Builtin.copy_ #[t, u] o.type #[vx, vy]).run P w = .ok v w') (h : wpList P ops Q rest (a.put o.dst v) w') : wpList P ops Q (o :: rest) a w := by
  refine wpList_plain hg fun K hK' => ?_
  unfold Oper.wp
  simp [execOp, hop, resolve, invoke, builtin, hx, hy, hrun, Result.andThen]
  exact hK' _ _ h
theorem cell_below {B : Nat} {w w' : World} (h : Below B w w') {a : Addr} (ha : a.block < B) : w'.cell? a = w.cell? a := by
  have := h.block a.block ha
  simp only [World.cell?, this]
theorem made_list (v : Value) (n : Nat) (z : Array Value) (hz : z = #[v]) : madeCells z n = (List.replicate n v).toArray := by
  subst hz
  apply Array.ext
  · rw [size_madeCells]; simp
  · intro i h1 h2
    simp [madeCells, Nat.mod_one]
set_option maxHeartbeats 4000000 in
set_option maxRecDepth 100000 in
theorem walk (ad : Option Addr) (n c : Nat) (cs : List Value) (hn : cs.length = n) (w : World) (hsrc : 0 < n → ∃ a, ad = some a ∧ ∀ j v, cs[j]? = some v → (a.add j).block < w.heap.size ∧ w.cell? (a.add j) = some v) (h1 : ∀ v ∈ cs, v.oneCell' = true) :
    Calls Tryd.prog 151 #[.slice ad n c] w (Post n cs w) := by
  by_cases hz : n = 0
  · subst hz
    go_enter Tryd.func151, Tryd.ntmps151
    go_wp2
    all_goals (go_ret2; exact .inl ⟨rfl, rfl, rfl⟩)
  have q0 : ¬ ((n : Int) = 0) := by omega
  by_cases hbig : 2048 < n
  · have q1 : (n : Int) > 2048 := by omega
    go_enter Tryd.func151, Tryd.ntmps151
    go_wp2
    all_goals (go_ret2; exact .inr (.inl ⟨hbig, rfl, rfl⟩))
  have q1 : ¬ ((n : Int) > 2048) := by omega
  have hts : Tryd.prog.underlying 110 = some (.slice 5) := by kernel_rfl
  have hti : (Tryd.prog.info? 5).map (fun i => (i.zero, i.size, i.bytes)) = some (some (.int .u8 0), 1, 1) := by kernel_rfl
  obtain ⟨i0, hi0, hz0, hs0, hb0⟩ := info_parts hti
  obtain ⟨W1, hmk, hB1, hr1⟩ : ∃ W1, (Instr.makeSlice 110 (.int .i64 (2 + (n : Int))) (.int .i64 (2 + (n : Int)))).run Tryd.prog w = .ok (.slice (some ⟨w.heap.size, 0, none⟩) (n + 2) (n + 2)) W1 ∧ Below w.heap.size w W1 ∧
      W1.heap[w.heap.size]? = some (.cells (List.replicate (n + 2) (Value.int .u8 0)).toArray 5 (0, 0)) := by
    have h := run_make (P := Tryd.prog) w 110 5 i0 _ hts hi0 hz0 .i64 .i64 (2 + (n : Int)) (2 + (n : Int)) (by omega) (by omega) (by rw [hb0]; omega) (by omega)
    have e : (2 + (n : Int)).toNat = n + 2 := by omega
    rw [e, hs0] at h
    refine ⟨_, h, (Below.refl _ _).alloc (Nat.le_refl _) _, ?_⟩
    rw [made_list (.int .u8 0) _ (Value.int .u8 0).cells rfl, Nat.mul_one]
    exact Array.getElem?_push_size
  have hw : IntKind.i64.wrap (2 + (n : Int)) = 2 + (n : Int) := by rw [IntKind.wrap_i64]; omega
  have hc0 : W1.cell? ⟨w.heap.size, 0, none⟩ = some (.int .u8 0) := by simp [World.cell?, hr1, List.replicate_succ]
  have hf0 : W1.frozen? ⟨w.heap.size, 0, none⟩ = false := frozen_of_row _ _ _ _ _ hr1
  have hr2 := fun v => heap_setCell_same W1 w.heap.size 0 _ 5 v hr1
  have hc1 : ∀ v, (W1.setCell ⟨w.heap.size, 0, none⟩ v).cell? ⟨w.heap.size, 1, none⟩ = some (.int .u8 0) := fun v => by simp [World.cell?, hr2 v, List.replicate_succ]
  have hf1 : ∀ v, (W1.setCell ⟨w.heap.size, 0, none⟩ v).frozen? ⟨w.heap.size, 1, none⟩ = false := fun v => frozen_of_row _ _ _ _ _ (hr2 v)
  have hr3 := fun v u => heap_setCell_same _ w.heap.size 1 _ 5 u (hr2 v)
  have hB3 : ∀ v u, Below w.heap.size w ((W1.setCell ⟨w.heap.size, 0, none⟩ v).setCell ⟨w.heap.size, 1, none⟩ u) := fun v u => (hB1.setCell (p := ⟨w.heap.size, 0, none⟩) (Nat.le_refl _) v).setCell (p := ⟨w.heap.size, 1, none⟩) (Nat.le_refl _) u
  obtain ⟨a, rfl, hsrc'⟩ := hsrc (by omega)
  obtain ⟨W3, hcp, hB4, hr4⟩ : ∃ W3, (Builtin.copy_ #[110, 110] 3 #[.slice (some ⟨w.heap.size, 2, none⟩) n n, .slice (some a) n c]).run Tryd.prog ((W1.setCell ⟨w.heap.size, 0, none⟩ (.int .u8 ((n : Int) / 256))).setCell ⟨w.heap.size, 1, none⟩ (.int .u8 ((n : Int) % 256))) = .ok (goInt n) W3 ∧
      Below w.heap.size w W3 ∧ W3.heap[w.heap.size]? = some (.cells (hdr n ++ cs).toArray 5 (0, 0)) := by
    have h := run_copy_row (P := Tryd.prog) _ 110 110 3 5 w.heap.size 2 n n a n c _ 5 cs hts (by rw [hi0]; simp [hs0]) (hr3 (.int .u8 ((n : Int) / 256)) (.int .u8 ((n : Int) % 256))) (by simp [hn])
      (fun j v hj => by rw [cell_below (hB3 _ _) (a := a.add j) (hsrc' j v hj).1]; exact (hsrc' j v hj).2) (by simp; omega) h1
    rw [hn] at h
    refine ⟨_, h, below_setRow (hB3 _ _) (Nat.le_refl _) _, ?_⟩
    have hl : ((List.replicate (n + 2) (Value.int .u8 0)).toArray.setIfInBounds 0 (.int .u8 ((n : Int) / 256))).setIfInBounds 1 (.int .u8 ((n : Int) % 256)) = (.int .u8 ((n : Int) / 256) :: .int .u8 ((n : Int) % 256) :: List.replicate n (Value.int .u8 0)).toArray := by
      rw [List.replicate_succ, List.replicate_succ]; rfl
    rw [setRow_heap _ _ _ _ 5 (0, 0) (hr3 _ _), hl]
    have e1 : (n : Int) / 256 = ((n / 256 % 256 : Nat) : Int) := by omega
    have e2 : (n : Int) % 256 = ((n % 256 : Nat) : Int) := by omega
    have e3 : List.drop (2 + n) (.int .u8 ((n : Int) / 256) :: .int .u8 ((n : Int) % 256) :: List.replicate n (Value.int .u8 0)) = [] := List.drop_eq_nil_of_le (by simp; omega)
    show some (Obj.cells (List.toArray (List.take 2 (.int .u8 ((n : Int) / 256) :: .int .u8 ((n : Int) % 256) :: List.replicate n (Value.int .u8 0)) ++ cs ++ List.drop (2 + n) (.int .u8 ((n : Int) / 256) :: .int .u8 ((n : Int) % 256) :: List.replicate n (Value.int .u8 0)))) 5 (0, 0)) = _
    rw [e3, List.append_nil, e1, e2]
    rfl
  go_enter Tryd.func151, Tryd.ntmps151
  go_wp2_with (first | (at_make; (refine wpList_make_run _ rfl _ _ _ rfl _ _ rfl rfl _ _ hmk ?_)) | (with_reducible refine wpList_copy_run _ rfl _ _ _ _ rfl _ _ rfl rfl _ _ hcp ?_))
  all_goals (go_ret2; exact .inr (.inr ⟨by omega, by omega, rfl, hB4, hr4⟩))
theorem two_of {B : Bd} {w : World} {pr : Nat → Nat → Prop} {a b : AV} {u v : Value} (h1 : OwnC B w pr a u none) (h2 : OwnC B w pr b v none) : ∀ (i : Nat) (x : AV) (y : Value) (c : Option Nat), [a, b][i]? = some x → [u, v][i]? = some y → [none, none][i]? = some c → OwnC B w pr x y c := by
  intro i x y c p q r
  match i with
  | 0 => cases p; cases q; cases r; exact h1
  | 1 => cases p; cases q; cases r; exact h2
  | i + 2 => simp at p
theorem none_two : ∀ (i j k : Nat), ([none, none] : List (Option Nat))[i]? = some (some k) → ([none, none] : List (Option Nat))[j]? = some (some k) → i = j := by
  intro i j k p
  match i with
  | 0 => cases p
  | 1 => cases p
  | i + 2 => simp at p
def putF (b : List Int) : List Int × Int := if b.length = 0 then ([], 2) else if 2048 < b.length then ([], 4) else (((b.length / 256 % 256 : Nat) : Int) :: ((b.length % 256 : Nat) : Int) :: b, 0)
theorem calls (b : List Int) (a : AV) (ha : a = .sl (.int .u8) b ∨ (a = .nilsl ∧ b = [])) : CallOK Tryd.prog 151 [a] (.tup [.sl (.int .u8) (putF b).1, .int .i64 (putF b).2]) := by
  refine .inl ⟨rfl, ⟨_, Tryd.func151, rfl, rfl⟩, fun w pr us hlt hgl hal => ?_⟩
  obtain ⟨u1, rfl⟩ : ∃ u1, us = [u1] := by
    have := hal.len
    match us, this with
    | [u1], _ => exact ⟨u1, rfl⟩
  obtain ⟨p1, _⟩ := hal
  have hTR : TR w pr (.slice (.int .u8)) b [u1] := by
    rcases ha with rfl | ⟨rfl, rfl⟩
    · rcases p1 with h | ⟨cs, us, h, _⟩
      · exact h
      · cases h
    · have e : u1 = .slice none 0 0 := by
        rcases p1 with h | ⟨cs, us, h, _⟩
        · exact h
        · cases h
      rw [e]; exact TR_nilsl _ _ _
  obtain ⟨ad, c, e, hcap, hel⟩ := hTR
  cases e
  have hget : ∀ (j : Nat) (v : Value), (b.map (Value.int .u8))[j]? = some v → ∃ x, b[j]? = some x ∧ v = .int .u8 x := fun j v hj => by
    rw [List.getElem?_map] at hj
    cases hx : b[j]? with
    | none => rw [hx] at hj; cases hj
    | some x => rw [hx] at hj; exact ⟨x, rfl, by cases hj; rfl⟩
  refine (walk ad b.length c (b.map (Value.int .u8)) (by simp) w (fun h0 => ?_) (fun v hv => ?_)).mono ?_
  · obtain ⟨a0, vs0, ea, _⟩ := hel 0 b[0] (List.getElem?_eq_getElem h0)
    refine ⟨a0, ea, fun j v hj => ?_⟩
    obtain ⟨x, hx, rfl⟩ := hget j v hj
    obtain ⟨a1, vs1, ea1, hl1, hc1, hv1⟩ := hel j x hx
    rw [ea] at ea1
    cases ea1
    have hv1 : vs1 = [.int .u8 x] := hv1
    have := hc1 0 (.int .u8 x) (by rw [hv1]; rfl)
    rw [Nat.add_zero, show (Ty.int .u8).size = 1 from rfl, Nat.mul_one] at this
    exact ⟨hlt _ _ this.2, this.1⟩
  · obtain ⟨x, _, rfl⟩ := List.mem_map.1 hv
    rfl
  rintro e w' (⟨h0, rfl, rfl⟩ | ⟨h0, rfl, rfl⟩ | ⟨h0, h1, rfl, hB, hr⟩)
  · have ep : putF b = ([], 2) := by unfold putF; rw [if_pos h0]
    rw [ep]
    exact ⟨_, pr, rfl, Below.refl _ _, fun _ _ _ => Iff.rfl, hlt, [.slice none 0 0, .int .i64 2], [none, none], rfl, rfl, rfl, two_of ⟨.inl (TR_nilsl _ _ _), rfl⟩ ⟨.inl rfl, rfl⟩, none_two⟩
  · have ep : putF b = ([], 4) := by unfold putF; rw [if_neg (by omega), if_pos h0]
    rw [ep]
    exact ⟨_, pr, rfl, Below.refl _ _, fun _ _ _ => Iff.rfl, hlt, [.slice none 0 0, .int .i64 4], [none, none], rfl, rfl, rfl, two_of ⟨.inl (TR_nilsl _ _ _), rfl⟩ ⟨.inl rfl, rfl⟩, none_two⟩
  · have ep : putF b = (((b.length / 256 % 256 : Nat) : Int) :: ((b.length % 256 : Nat) : Int) :: b, 0) := by unfold putF; rw [if_neg (by omega), if_neg (by omega)]
    have hs' : w.heap.size < w'.heap.size := (Array.getElem?_eq_some_iff.1 hr).1
    rw [ep]
    refine ⟨_, fun k o => pr k o ∨ k = w.heap.size, rfl, hB, fun k o hk => ⟨fun h => h.elim id fun h => absurd h (by omega), .inl⟩, fun k o h => h.elim (fun h => Nat.lt_of_lt_of_le (hlt _ _ h) hB.size) fun h => by omega,
      [.slice (some ⟨w.heap.size, 0, none⟩) (b.length + 2) (b.length + 2), .int .i64 0], [none, none], rfl, rfl, rfl, two_of ⟨.inl ⟨some ⟨w.heap.size, 0, none⟩, b.length + 2, rfl, ⟨Nat.le_refl _, fun h => by cases h⟩, fun j x hj => ?_⟩, rfl⟩ ⟨.inl rfl, rfl⟩, none_two⟩
    refine ⟨_, [.int .u8 x], rfl, rfl, fun i v hi => ?_, rfl⟩
    match i, hi with
    | 0, hi =>
      cases hi
      rw [Nat.add_zero, show (Ty.int .u8).size = 1 from rfl, Nat.mul_one]
      refine ⟨?_, .inr (by rw [addr_add])⟩
      have e : (hdr b.length ++ b.map (Value.int .u8)) = (((b.length / 256 % 256 : Nat) : Int) :: ((b.length % 256 : Nat) : Int) :: b).map (Value.int .u8) := rfl
      have hj' : (((b.length / 256 % 256 : Nat) : Int) :: ((b.length % 256 : Nat) : Int) :: b)[j]? = some x := hj
      rw [addr_add, Nat.zero_add, cell_of hr, List.getElem?_toArray, e, List.getElem?_map, hj']
      rfl
end Go.Proofs.YtjgnpmdbkgeakaaDoor.FrameP
end
section
set_option linter.unusedVariables false
set_option linter.unusedSimpArgs false
namespace Go.Proofs.YtjgnpmdbkgeakaaDoor.G
open Go Go.Proofs.YtjgnpmdbkgeakaaDoor.Th
def til : List (Nat × TInfo) := [
  (3, ⟨.int .i64, 1, 8, (.int .i64), [.int .i64 0], [], [], true, false, [], []⟩),
  (4, ⟨.bool, 1, 1, .bool, [.bool false], [], [], true, false, [], []⟩),
  (5, ⟨.int .u8, 1, 1, (.int .u8), [.int .u8 0], [], [], true, false, [], []⟩),
  (9, ⟨.str, 1, 16, .str, [.str []], [], [], true, false, [], [(229, 8)]⟩),
  (22, ⟨.int .u64, 1, 8, (.int .u64), [.int .u64 0], [], [], true, false, [], []⟩),
  (23, ⟨.int .u32, 1, 4, (.int .u32), [.int .u32 0], [], [], true, false, [], []⟩),
  (25, ⟨.struct, 6, 72, (.st (.cons (.int .i64) (.cons .str (.cons (.int .u64) (.cons (.int .u32) (.cons .str (.cons .str .nil))))))), [.int .i64 0, .str [], .int .u64 0, .int .u32 0, .str [], .str []], [(0, 3), (1, 9), (2, 22), (3, 23), (4, 9), (5, 9)], [1, 1, 1, 1, 1, 1], true, true, [], []⟩),
  (27, ⟨.struct, 2, 24, (.st (.cons (.int .u32) (.cons .str .nil))), [.int .u32 0, .str []], [(0, 23), (1, 9)], [1, 1], true, true, [], []⟩),
  (37, ⟨.slice 160, 1, 24, (.slice (.st (.cons (.int .i64) (.cons .str .nil)))), [.nilsl], [], [], true, false, [], []⟩),
  (39, ⟨.struct, 2, 40, (.st (.cons .str (.cons (.slice (.st (.cons (.int .i64) (.cons .str .nil)))) .nil))), [.str [], .nilsl], [(0, 9), (1, 37)], [1, 1], true, false, [], []⟩),
  (41, ⟨.int .i64, 1, 8, (.int .i64), [.int .i64 0], [], [], true, false, [], []⟩),
  (54, ⟨.struct, 8, 88, (.st (.cons (.st (.cons (.int .u32) (.cons .str .nil))) (.cons (.int .i64) (.cons .str (.cons (.int .u64) (.cons .str (.cons (.int .i64) (.cons (.int .i64) .nil)))))))), [.int .u32 0, .str [], .int .i64 0, .str [], .int .u64 0, .str [], .int .i64 0, .int .i64 0], [(0, 27), (2, 3), (3, 9), (4, 22), (5, 9), (6, 3), (7, 3)], [2, 1, 1, 1, 1, 1, 1], true, true, [], []⟩),
  (56, ⟨.struct, 7, 80, (.st (.cons (.int .i64) (.cons (.st (.cons (.int .i64) (.cons .str (.cons (.int .u64) (.cons (.int .u32) (.cons .str (.cons .str .nil))))))) .nil))), [.int .i64 0, .int .i64 0, .str [], .int .u64 0, .int .u32 0, .str [], .str []], [(0, 3), (1, 25)], [1, 6], true, true, [], []⟩),
  (58, ⟨.slice 25, 1, 24, (.slice (.st (.cons (.int .i64) (.cons .str (.cons (.int .u64) (.cons (.int .u32) (.cons .str (.cons .str .nil)))))))), [.nilsl], [], [], true, false, [], []⟩),
  (60, ⟨.struct, 12, 152, (.st (.cons (.st (.cons (.st (.cons (.int .u32) (.cons .str .nil))) (.cons (.int .i64) (.cons .str (.cons (.int .u64) (.cons .str (.cons (.int .i64) (.cons (.int .i64) .nil)))))))) (.cons (.slice (.st (.cons (.int .i64) (.cons .str (.cons (.int .u64) (.cons (.int .u32) (.cons .str (.cons .str .nil)))))))) (.cons (.slice (.st (.cons (.int .i64) (.cons .str (.cons (.int .u64) (.cons (.int .u32) (.cons .str (.cons .str .nil)))))))) (.cons (.int .i64) (.cons .bool .nil)))))), [.int .u32 0, .str [], .int .i64 0, .str [], .int .u64 0, .str [], .int .i64 0, .int .i64 0, .nilsl, .nilsl, .int .i64 0, .bool false], [(0, 54), (8, 58), (9, 58), (10, 3), (11, 4)], [8, 1, 1, 1, 1], true, false, [], []⟩),
  (69, ⟨.slice 56, 1, 24, (.slice (.st (.cons (.int .i64) (.cons (.st (.cons (.int .i64) (.cons .str (.cons (.int .u64) (.cons (.int .u32) (.cons .str (.cons .str .nil))))))) .nil)))), [.nilsl], [], [], true, false, [], []⟩),
  (110, ⟨.slice 5, 1, 24, (.slice (.int .u8)), [.nilsl], [], [], true, false, [], []⟩),
  (115, ⟨.struct, 2, 32, (.st (.cons (.slice (.int .u8)) (.cons .bool .nil))), [.nilsl, .bool false], [(0, 110), (1, 4)], [1, 1], true, false, [], []⟩),
  (121, ⟨.struct, 5, 88, (.st (.cons (.st (.cons (.slice (.int .u8)) (.cons .bool .nil))) (.cons (.slice (.int .u8)) (.cons (.slice (.int .u8)) (.cons (.int .i64) .nil))))), [.nilsl, .bool false, .nilsl, .nilsl, .int .i64 0], [(0, 115), (2, 110), (3, 110), (4, 3)], [2, 1, 1, 1], true, false, [], []⟩),
  (126, ⟨.slice 110, 1, 24, (.slice (.slice (.int .u8))), [.nilsl], [], [], true, false, [], []⟩),
  (136, ⟨.struct, 2, 32, (.st (.cons (.int .i64) (.cons (.slice (.slice (.int .u8))) .nil))), [.int .i64 0, .nilsl], [(0, 3), (1, 126)], [1, 1], true, false, [], []⟩),
  (160, ⟨.struct, 2, 24, (.st (.cons (.int .i64) (.cons .str .nil))), [.int .i64 0, .str []], [(0, 3), (1, 9)], [1, 1], true, true, [], []⟩),
  (161, ⟨.slice 9, 1, 24, (.slice .str), [.nilsl], [], [], true, false, [], []⟩),
  (169, ⟨.slice 3, 1, 24, (.slice (.int .i64)), [.nilsl], [], [], true, false, [], []⟩),
  (175, ⟨.struct, 20, 240, (.st (.cons (.st (.cons (.st (.cons (.st (.cons (.int .u32) (.cons .str .nil))) (.cons (.int .i64) (.cons .str (.cons (.int .u64) (.cons .str (.cons (.int .i64) (.cons (.int .i64) .nil)))))))) (.cons (.slice (.st (.cons (.int .i64) (.cons .str (.cons (.int .u64) (.cons (.int .u32) (.cons .str (.cons .str .nil)))))))) (.cons (.slice (.st (.cons (.int .i64) (.cons .str (.cons (.int .u64) (.cons (.int .u32) (.cons .str (.cons .str .nil)))))))) (.cons (.int .i64) (.cons .bool .nil)))))) (.cons (.st (.cons (.int .i64) (.cons (.st (.cons (.int .i64) (.cons .str (.cons (.int .u64) (.cons (.int .u32) (.cons .str (.cons .str .nil))))))) .nil))) (.cons (.int .i64) .nil)))), [.int .u32 0, .str [], .int .i64 0, .str [], .int .u64 0, .str [], .int .i64 0, .int .i64 0, .nilsl, .nilsl, .int .i64 0, .bool false, .int .i64 0, .int .i64 0, .str [], .int .u64 0, .int .u32 0, .str [], .str [], .int .i64 0], [(0, 60), (12, 56), (19, 3)], [12, 7, 1], true, false, [], []⟩),
  (196, ⟨.struct, 2, 16, (.st (.cons (.int .u64) (.cons (.int .u64) .nil))), [.int .u64 0, .int .u64 0], [(0, 22), (1, 22)], [1, 1], true, true, [], []⟩),
  (222, ⟨.struct, 3, 24, (.st (.cons (.int .i64) (.cons (.int .i64) (.cons (.int .i64) .nil)))), [.int .i64 0, .int .i64 0, .int .i64 0], [(0, 3), (1, 3), (2, 3)], [1, 1, 1], true, true, [], []⟩),
  (266, ⟨.slice 222, 1, 24, (.slice (.st (.cons (.int .i64) (.cons (.int .i64) (.cons (.int .i64) .nil))))), [.nilsl], [], [], true, false, [], []⟩),
  (268, ⟨.struct, 2, 16, (.st (.cons (.int .i64) (.cons (.int .i64) .nil))), [.int .i64 0, .int .i64 0], [(0, 3), (1, 3)], [1, 1], true, true, [("paydesk/field.ahead", 245), ("paydesk/field.sized", 246)], []⟩),
  (270, ⟨.struct, 1, 8, (.st (.cons (.int .i64) .nil)), [.int .i64 0], [(0, 3)], [1], true, true, [("paydesk/field.ahead", 247), ("paydesk/field.sized", 248)], []⟩)
]
noncomputable def TI : TEnv := tiOf til
theorem hT : TIok Tryd.prog TI := TIok.of (by kernel_rfl)
theorem hm : Tryd.prog.follows .mixedOrders = true := rfl
noncomputable def O_0 (_ : Nat) : Orc := fun _ _ _ _ => none
theorem ok_O_0 (k : Nat) : OrcOK (O_0 k) (CallOK Tryd.prog) := orc_none
noncomputable def c175 : Code := Tryd.f175.body.getD .skip
noncomputable def mi175 : Msk := ⟨[(.tmp 0, .val (.int .i64))], []⟩
noncomputable def mo175 : Msk := ⟨[(.res 2, .val (.st (.cons (.int .i64) (.cons (.int .i64) (.cons (.int .i64) .nil))))), (.tmp 3, .val .bool)], []⟩
noncomputable def L175_2 (k : Nat) : LOrc := fun _ _ _ _ => none
noncomputable def b175_2 : Code := (findLoop 2 c175).getD .skip
noncomputable def m175_2 : Msk := ⟨[(.tmp 0, .val (.int .i64)), (.tmp 2, .ptr 2 0), (.tmp 21, .row false (.st (.cons (.int .i64) (.cons (.int .i64) (.cons (.int .i64) .nil))))), (.tmp 22, .val (.int .i64)), (.tmp 23, .val (.int .i64)), (.cell 2 0, .val (.int .i64)), (.cell 2 1, .val (.int .i64)), (.cell 2 2, .val (.int .i64))], [(2, 3)]⟩
noncomputable def x175_2 : List (X × Msk) := [(.exit 0, ⟨[(.tmp 2, .ptr 2 0), (.cell 2 0, .val (.int .i64)), (.cell 2 1, .val (.int .i64)), (.cell 2 2, .val (.int .i64))], [(2, 3)]⟩), (.ret, ⟨[(.tmp 2, .ptr 2 0), (.tmp 3, .val .bool), (.cell 2 0, .val (.int .i64)), (.cell 2 1, .val (.int .i64)), (.cell 2 2, .val (.int .i64))], [(2, 3)]⟩)]
noncomputable def F175_2 (k : Nat) : Nat → m175_2.den → Option (denE x175_2)
  | 0, _ => none
  | j + 1, v => round TI (O_0 k) (L175_2 k) b175_2 m175_2 x175_2 (F175_2 k j) v
theorem lk175_2_ (k : Nat) : LinksOK Tryd.prog 34 (L175_2 k) b175_2 := (And.intro True.intro (And.intro (And.intro True.intro True.intro) (And.intro (And.intro True.intro (And.intro True.intro (And.intro (And.intro True.intro True.intro) True.intro))) True.intro)))
noncomputable def L175 (k : Nat) : LOrc := fun R lk s K => match lk with
  | .loop r => bif Nat.beq r 2 then link m175_2 x175_2 (F175_2 k k) s K else none
  | .label l => none
theorem lk_L175_2 (k : Nat) : LoopOK Tryd.prog 34 (L175 k) b175_2 := loopOK_of hm hT (ok_O_0 k) (fun _ _ _ h => h) rfl (lk175_2_ k) rfl rfl (F := F175_2 k) (fun _ => rfl) (fun _ _ => rfl) (n := k) fun _ _ _ => rfl
noncomputable def F175 (k : Nat) (v : mi175.den) : Option mo175.den := runF TI (O_0 k) (L175 k) c175 mi175 mo175 v
theorem lk175 (k : Nat) : LinksOK Tryd.prog 34 (L175 k) c175 := (And.intro True.intro (And.intro (And.intro True.intro (lk_L175_2 k)) (And.intro True.intro True.intro)))
theorem fn175 (k : Nat) (args : List AV) (x : mi175.den) (r : mo175.den) (h1 : args.length = mi175.items.length) (h2 : mi175.dec (Th.start args) = some x) (h3 : F175 k x = some r) : CallOK Tryd.prog 175 args (ansOf (outL mo175.items r)) :=
  call_of hm hT (ok_O_0 k) (fn := Tryd.f175) (c := c175) Tryd.func175 rfl rfl rfl (lk175 k) rfl (by decide) rfl h1 h2 h3
noncomputable def O175 (k : Nat) : Orc := fun R f args K => bif Nat.beq f 175 then callF mi175 mo175 (F175 k) args K else O_0 k R f args K
theorem ok_O175 (k : Nat) : OrcOK (O175 k) (CallOK Tryd.prog) := orc_add (fn175 k) (ok_O_0 k)
noncomputable def c176 : Code := Tryd.f176.body.getD .skip
noncomputable def mi176 : Msk := ⟨[(.tmp 0, .val (.st (.cons (.int .i64) (.cons (.int .i64) (.cons (.int .i64) .nil)))))], []⟩
noncomputable def mo176 : List Msk := [⟨[(.tmp 2, .val (.ifc 268 (.st (.cons (.int .i64) (.cons (.int .i64) .nil)))))], []⟩, ⟨[(.tmp 2, .val (.ifc 270 (.st (.cons (.int .i64) .nil))))], []⟩]
noncomputable def L176 (k : Nat) : LOrc := fun _ _ _ _ => none
noncomputable def F176 (k : Nat) (v : mi176.den) : Option (denA mo176) := runA TI (O175 k) (L176 k) c176 mi176 mo176 v
theorem lk176 (k : Nat) : LinksOK Tryd.prog 22 (L176 k) c176 := (And.intro True.intro (And.intro (And.intro True.intro (And.intro (And.intro True.intro (And.intro True.intro True.intro)) (And.intro (And.intro True.intro True.intro) (And.intro True.intro (And.intro (And.intro True.intro True.intro) True.intro))))) (And.intro True.intro True.intro)))
theorem fn176 (k : Nat) (args : List AV) (x : mi176.den) (r : (denA mo176)) (h1 : args.length = mi176.items.length) (h2 : mi176.dec (Th.start args) = some x) (h3 : F176 k x = some r) : CallOK Tryd.prog 176 args (valA mo176 r) :=
  call_ofA hm hT (ok_O175 k) (fn := Tryd.f176) (c := c176) Tryd.func176 rfl rfl rfl (lk176 k) rfl (by decide) rfl h1 h2 h3
noncomputable def O176 (k : Nat) : Orc := fun R f args K => bif Nat.beq f 176 then callA mi176 mo176 (F176 k) args K else O175 k R f args K
theorem ok_O176 (k : Nat) : OrcOK (O176 k) (CallOK Tryd.prog) := orc_addA (fn176 k) (ok_O175 k)
noncomputable def c246 : Code := Tryd.f246.body.getD .skip
noncomputable def mi246 : Msk := ⟨[(.tmp 0, .val (.st (.cons (.int .i64) (.cons (.int .i64) .nil)))), (.tmp 1, .val (.int .i64))], []⟩
noncomputable def mo246 : Msk := ⟨[(.tmp 4, .val .bool)], []⟩
noncomputable def L246 (k : Nat) : LOrc := fun _ _ _ _ => none
noncomputable def F246 (k : Nat) (v : mi246.den) : Option mo246.den := runF TI (O176 k) (L246 k) c246 mi246 mo246 v
theorem lk246 (k : Nat) : LinksOK Tryd.prog 13 (L246 k) c246 := (And.intro True.intro (And.intro True.intro True.intro))
theorem fn246 (k : Nat) (args : List AV) (x : mi246.den) (r : mo246.den) (h1 : args.length = mi246.items.length) (h2 : mi246.dec (Th.start args) = some x) (h3 : F246 k x = some r) : CallOK Tryd.prog 246 args (ansOf (outL mo246.items r)) :=
  call_of hm hT (ok_O176 k) (fn := Tryd.f246) (c := c246) Tryd.func246 rfl rfl rfl (lk246 k) rfl (by decide) rfl h1 h2 h3
noncomputable def O246 (k : Nat) : Orc := fun R f args K => bif Nat.beq f 246 then callF mi246 mo246 (F246 k) args K else O176 k R f args K
theorem ok_O246 (k : Nat) : OrcOK (O246 k) (CallOK Tryd.prog) := orc_add (fn246 k) (ok_O176 k)
noncomputable def c248 : Code := Tryd.f248.body.getD .skip
noncomputable def mi248 : Msk := ⟨[(.tmp 0, .val (.st (.cons (.int .i64) .nil))), (.tmp 1, .val (.int .i64))], []⟩
noncomputable def mo248 : Msk := ⟨[(.tmp 4, .val .bool)], []⟩
noncomputable def L248 (k : Nat) : LOrc := fun _ _ _ _ => none
noncomputable def F248 (k : Nat) (v : mi248.den) : Option mo248.den := runF TI (O246 k) (L248 k) c248 mi248 mo248 v
theorem lk248 (k : Nat) : LinksOK Tryd.prog 9 (L248 k) c248 := (And.intro True.intro (And.intro True.intro True.intro))
theorem fn248 (k : Nat) (args : List AV) (x : mi248.den) (r : mo248.den) (h1 : args.length = mi248.items.length) (h2 : mi248.dec (Th.start args) = some x) (h3 : F248 k x = some r) : CallOK Tryd.prog 248 args (ansOf (outL mo248.items r)) :=
  call_of hm hT (ok_O246 k) (fn := Tryd.f248) (c := c248) Tryd.func248 rfl rfl rfl (lk248 k) rfl (by decide) rfl h1 h2 h3
noncomputable def O248 (k : Nat) : Orc := fun R f args K => bif Nat.beq f 248 then callF mi248 mo248 (F248 k) args K else O246 k R f args K
theorem ok_O248 (k : Nat) : OrcOK (O248 k) (CallOK Tryd.prog) := orc_add (fn248 k) (ok_O246 k)
noncomputable def c169 : Code := Tryd.f169.body.getD .skip
noncomputable def mi169 : Msk := ⟨[(.tmp 0, .val .str)], []⟩
noncomputable def mo169 : Msk := ⟨[(.tmp 2, .val .bool)], []⟩
noncomputable def L169_g0 (k : Nat) : LOrc := fun _ _ _ _ => none
noncomputable def b169_g0 : Code := (findScope 0 c169).getD .skip
noncomputable def l169_g0 : List (X × Msk) := [(.goto 0, ⟨[(.tmp 0, .val .str), (.tmp 3, .val (.int .i64))], []⟩)]
noncomputable def x169_g0 : List (X × Msk) := [(.ret, ⟨[(.tmp 2, .val .bool)], []⟩)]
noncomputable def F169_g0 (k : Nat) : Nat → denE l169_g0 → Option (denE x169_g0)
  | 0, _ => none
  | j + 1, v => pass TI (O248 k) (L169_g0 k) b169_g0 l169_g0 x169_g0 (F169_g0 k j) v
theorem lk169_g0_ (k : Nat) : LinksOK Tryd.prog 22 (L169_g0 k) b169_g0 := (And.intro True.intro (And.intro True.intro (And.intro (And.intro True.intro (And.intro (And.intro True.intro True.intro) True.intro)) (And.intro (And.intro True.intro (And.intro (And.intro True.intro True.intro) True.intro)) (And.intro True.intro True.intro)))))
noncomputable def L169 (k : Nat) : LOrc := fun R lk s K => match lk with
  | .loop r => none
  | .label l => (match findLabel b169_g0 l with | some _ => linkJ l169_g0 x169_g0 (F169_g0 k k) l s K | none => none)
theorem lk_L169_g0 (k : Nat) : JumpsOK Tryd.prog 22 (L169 k) b169_g0 := jumpsOK_of hm hT (ok_O248 k) (fun _ _ _ h => h) rfl (lk169_g0_ k) rfl rfl (F := F169_g0 k) (fun _ => rfl) (fun _ _ => rfl) (n := k) fun R l s K rest hf => by
  show (match findLabel b169_g0 l with | some _ => linkJ l169_g0 x169_g0 (F169_g0 k k) l s K | none => none) = _
  rw [hf]
noncomputable def F169 (k : Nat) (v : mi169.den) : Option mo169.den := runF TI (O248 k) (L169 k) c169 mi169 mo169 v
theorem lk169 (k : Nat) : LinksOK Tryd.prog 22 (L169 k) c169 := (And.intro True.intro (And.intro (lk_L169_g0 k) (And.intro True.intro (And.intro True.intro (And.intro (And.intro True.intro (And.intro (And.intro True.intro True.intro) True.intro)) (And.intro (And.intro True.intro (And.intro (And.intro True.intro True.intro) True.intro)) (And.intro True.intro True.intro)))))))
theorem fn169 (k : Nat) (args : List AV) (x : mi169.den) (r : mo169.den) (h1 : args.length = mi169.items.length) (h2 : mi169.dec (Th.start args) = some x) (h3 : F169 k x = some r) : CallOK Tryd.prog 169 args (ansOf (outL mo169.items r)) :=
  call_of hm hT (ok_O248 k) (fn := Tryd.f169) (c := c169) Tryd.func169 rfl rfl rfl (lk169 k) rfl (by decide) rfl h1 h2 h3
noncomputable def O169 (k : Nat) : Orc := fun R f args K => bif Nat.beq f 169 then callF mi169 mo169 (F169 k) args K else O248 k R f args K
theorem ok_O169 (k : Nat) : OrcOK (O169 k) (CallOK Tryd.prog) := orc_add (fn169 k) (ok_O248 k)
noncomputable def F177 (k : Nat) (v : (Int × Int × Int × Unit) × List UInt8 × Unit) : Option (Bool × Unit) := sel (decide (v.2.1.length ≤ 9223372036854775807)) (ocall (α := Bool × Unit) (F169 k ((v.2.1, ()) : List UInt8 × Unit)) fun r => some (Signs.signsOf v.1.2.1 r.1 v.2.1, ())) none
noncomputable def O177 (k : Nat) : Orc := fun R f args K => bif Nat.beq f 177 then (match args with | [.agg [.int .i64 a, .int .i64 b, .int .i64 c], .str s] => ocall (F177 k ((a, b, c, ()), s, ())) fun r => K (.bool r.1) | _ => none) else O169 k R f args K
theorem ok_O177 (k : Nat) : OrcOK (O177 k) (CallOK Tryd.prog) := by
  intro R f args K r h
  unfold O177 at h
  cases hb : Nat.beq f 177 with
  | false => rw [hb] at h; exact ok_O169 k R f args K r h
  | true =>
    rw [hb] at h
    rw [Nat.eq_of_beq_eq_true hb]
    simp only [cond_true] at h
    split at h
    · rename_i a b c s
      obtain ⟨y, hy, h⟩ := obind_some h
      unfold F177 at hy
      by_cases hl : s.length ≤ 9223372036854775807
      · rw [sel_pos hl] at hy
        obtain ⟨d, hd, hy⟩ := obind_some hy
        cases hy
        exact ⟨_, Signs.fn177 a b c s hl d.1 (fn169 k [.str s] ((s, ()) : List UInt8 × Unit) d rfl rfl hd), h⟩
      · rw [sel_neg hl] at hy; cases hy
    · cases h
noncomputable def c117 : Code := Tryd.f117.body.getD .skip
noncomputable def mi117 : Msk := ⟨[(.tmp 0, .val (.int .i64)), (.tmp 1, .val .str)], []⟩
noncomputable def mo117 : Msk := ⟨[(.tmp 4, .val .bool)], []⟩
noncomputable def L117 (k : Nat) : LOrc := fun _ _ _ _ => none
noncomputable def F117 (k : Nat) (v : mi117.den) : Option mo117.den := runF TI (O177 k) (L117 k) c117 mi117 mo117 v
theorem lk117 (k : Nat) : LinksOK Tryd.prog 25 (L117 k) c117 := (And.intro True.intro (And.intro True.intro (And.intro True.intro True.intro)))
theorem fn117 (k : Nat) (args : List AV) (x : mi117.den) (r : mo117.den) (h1 : args.length = mi117.items.length) (h2 : mi117.dec (Th.start args) = some x) (h3 : F117 k x = some r) : CallOK Tryd.prog 117 args (ansOf (outL mo117.items r)) :=
  call_of hm hT (ok_O177 k) (fn := Tryd.f117) (c := c117) Tryd.func117 rfl rfl rfl (lk117 k) rfl (by decide) rfl h1 h2 h3
noncomputable def O117 (k : Nat) : Orc := fun R f args K => bif Nat.beq f 117 then callF mi117 mo117 (F117 k) args K else O177 k R f args K
theorem ok_O117 (k : Nat) : OrcOK (O117 k) (CallOK Tryd.prog) := orc_add (fn117 k) (ok_O177 k)
noncomputable def c245 : Code := Tryd.f245.body.getD .skip
noncomputable def mi245 : Msk := ⟨[(.tmp 0, .val (.st (.cons (.int .i64) (.cons (.int .i64) .nil))))], []⟩
noncomputable def mo245 : Msk := ⟨[(.tmp 2, .val (.int .i64))], []⟩
noncomputable def L245 (k : Nat) : LOrc := fun _ _ _ _ => none
noncomputable def F245 (k : Nat) (v : mi245.den) : Option mo245.den := runF TI (O117 k) (L245 k) c245 mi245 mo245 v
theorem lk245 (k : Nat) : LinksOK Tryd.prog 5 (L245 k) c245 := (And.intro True.intro (And.intro True.intro True.intro))
theorem fn245 (k : Nat) (args : List AV) (x : mi245.den) (r : mo245.den) (h1 : args.length = mi245.items.length) (h2 : mi245.dec (Th.start args) = some x) (h3 : F245 k x = some r) : CallOK Tryd.prog 245 args (ansOf (outL mo245.items r)) :=
  call_of hm hT (ok_O117 k) (fn := Tryd.f245) (c := c245) Tryd.func245 rfl rfl rfl (lk245 k) rfl (by decide) rfl h1 h2 h3
noncomputable def O245 (k : Nat) : Orc := fun R f args K => bif Nat.beq f 245 then callF mi245 mo245 (F245 k) args K else O117 k R f args K
theorem ok_O245 (k : Nat) : OrcOK (O245 k) (CallOK Tryd.prog) := orc_add (fn245 k) (ok_O117 k)
noncomputable def c247 : Code := Tryd.f247.body.getD .skip
noncomputable def mi247 : Msk := ⟨[(.tmp 0, .val (.st (.cons (.int .i64) .nil)))], []⟩
noncomputable def mo247 : Msk := ⟨[(.tmp 2, .val (.int .i64))], []⟩
noncomputable def L247 (k : Nat) : LOrc := fun _ _ _ _ => none
noncomputable def F247 (k : Nat) (v : mi247.den) : Option mo247.den := runF TI (O245 k) (L247 k) c247 mi247 mo247 v
theorem lk247 (k : Nat) : LinksOK Tryd.prog 3 (L247 k) c247 := (And.intro True.intro (And.intro True.intro True.intro))
theorem fn247 (k : Nat) (args : List AV) (x : mi247.den) (r : mo247.den) (h1 : args.length = mi247.items.length) (h2 : mi247.dec (Th.start args) = some x) (h3 : F247 k x = some r) : CallOK Tryd.prog 247 args (ansOf (outL mo247.items r)) :=
  call_of hm hT (ok_O245 k) (fn := Tryd.f247) (c := c247) Tryd.func247 rfl rfl rfl (lk247 k) rfl (by decide) rfl h1 h2 h3
noncomputable def O247 (k : Nat) : Orc := fun R f args K => bif Nat.beq f 247 then callF mi247 mo247 (F247 k) args K else O245 k R f args K
theorem ok_O247 (k : Nat) : OrcOK (O247 k) (CallOK Tryd.prog) := orc_add (fn247 k) (ok_O245 k)
noncomputable def c105 : Code := Tryd.f105.body.getD .skip
noncomputable def mi105 : Msk := ⟨[(.tmp 0, .val (.int .u64)), (.tmp 1, .val (.int .i64))], []⟩
noncomputable def mo105 : Msk := ⟨[(.tmp 4, .val .str), (.tmp 5, .val (.int .i64))], []⟩
noncomputable def L105_5 (k : Nat) : LOrc := fun _ _ _ _ => none
noncomputable def b105_5 : Code := (findLoop 5 c105).getD .skip
noncomputable def m105_5 : Msk := ⟨[(.tmp 0, .val (.int .u64)), (.tmp 6, .row false (.int .u8)), (.tmp 7, .val (.int .i64))], []⟩
noncomputable def x105_5 : List (X × Msk) := [(.exit 0, ⟨[(.tmp 0, .val (.int .u64)), (.tmp 6, .row false (.int .u8))], []⟩)]
noncomputable def F105_5 (k : Nat) : Nat → m105_5.den → Option (denE x105_5)
  | 0, _ => none
  | j + 1, v => round TI (O247 k) (L105_5 k) b105_5 m105_5 x105_5 (F105_5 k j) v
theorem lk105_5_ (k : Nat) : LinksOK Tryd.prog 35 (L105_5 k) b105_5 := (And.intro (And.intro True.intro (And.intro True.intro True.intro)) (And.intro (And.intro True.intro True.intro) True.intro))
noncomputable def L105 (k : Nat) : LOrc := fun R lk s K => match lk with
  | .loop r => bif Nat.beq r 5 then link m105_5 x105_5 (F105_5 k k) s K else none
  | .label l => none
theorem lk_L105_5 (k : Nat) : LoopOK Tryd.prog 35 (L105 k) b105_5 := loopOK_of hm hT (ok_O247 k) (fun _ _ _ h => h) rfl (lk105_5_ k) rfl rfl (F := F105_5 k) (fun _ => rfl) (fun _ _ => rfl) (n := k) fun _ _ _ => rfl
noncomputable def F105 (k : Nat) (v : mi105.den) : Option mo105.den := runF TI (O247 k) (L105 k) c105 mi105 mo105 v
theorem lk105 (k : Nat) : LinksOK Tryd.prog 35 (L105 k) c105 := (And.intro True.intro (And.intro (And.intro True.intro (And.intro (And.intro True.intro True.intro) True.intro)) (And.intro True.intro (And.intro (And.intro True.intro (lk_L105_5 k)) (And.intro (And.intro True.intro (And.intro (And.intro True.intro True.intro) True.intro)) (And.intro True.intro True.intro))))))
theorem fn105 (k : Nat) (args : List AV) (x : mi105.den) (r : mo105.den) (h1 : args.length = mi105.items.length) (h2 : mi105.dec (Th.start args) = some x) (h3 : F105 k x = some r) : CallOK Tryd.prog 105 args (ansOf (outL mo105.items r)) :=
  call_of hm hT (ok_O247 k) (fn := Tryd.f105) (c := c105) Tryd.func105 rfl rfl rfl (lk105 k) rfl (by decide) rfl h1 h2 h3
noncomputable def O105 (k : Nat) : Orc := fun R f args K => bif Nat.beq f 105 then callF mi105 mo105 (F105 k) args K else O247 k R f args K
theorem ok_O105 (k : Nat) : OrcOK (O105 k) (CallOK Tryd.prog) := orc_add (fn105 k) (ok_O247 k)
noncomputable def c139 : Code := Tryd.f139.body.getD .skip
noncomputable def mi139 : Msk := ⟨[(.tmp 0, .val (.int .i64)), (.tmp 1, .val .str)], []⟩
noncomputable def mo139 : Msk := ⟨[(.tmp 4, .row false (.int .u8)), (.tmp 5, .val (.int .i64))], []⟩
noncomputable def L139 (k : Nat) : LOrc := fun _ _ _ _ => none
noncomputable def F139 (k : Nat) (v : mi139.den) : Option mo139.den := runF TI (O105 k) (L139 k) c139 mi139 mo139 v
theorem lk139 (k : Nat) : LinksOK Tryd.prog 42 (L139 k) c139 := (And.intro True.intro (And.intro True.intro (And.intro (And.intro True.intro (And.intro (And.intro True.intro True.intro) (And.intro True.intro (And.intro (And.intro True.intro True.intro) True.intro)))) (And.intro (And.intro True.intro (And.intro True.intro (And.intro (And.intro True.intro True.intro) True.intro))) (And.intro True.intro True.intro)))))
theorem fn139 (k : Nat) (args : List AV) (x : mi139.den) (r : mo139.den) (h1 : args.length = mi139.items.length) (h2 : mi139.dec (Th.start args) = some x) (h3 : F139 k x = some r) : CallOK Tryd.prog 139 args (ansOf (outL mo139.items r)) :=
  call_of hm hT (ok_O105 k) (fn := Tryd.f139) (c := c139) Tryd.func139 rfl rfl rfl (lk139 k) rfl (by decide) rfl h1 h2 h3
noncomputable def O139 (k : Nat) : Orc := fun R f args K => bif Nat.beq f 139 then callF mi139 mo139 (F139 k) args K else O105 k R f args K
theorem ok_O139 (k : Nat) : OrcOK (O139 k) (CallOK Tryd.prog) := orc_add (fn139 k) (ok_O105 k)
noncomputable def c172 : Code := Tryd.f172.body.getD .skip
noncomputable def mi172 : Msk := ⟨[(.tmp 0, .val .str)], []⟩
noncomputable def mo172 : Msk := ⟨[(.tmp 2, .val (.int .u64)), (.tmp 3, .val (.int .i64))], []⟩
noncomputable def L172_9 (k : Nat) : LOrc := fun _ _ _ _ => none
noncomputable def b172_9 : Code := (findLoop 9 c172).getD .skip
noncomputable def m172_9 : Msk := ⟨[(.tmp 4, .val (.int .u64)), (.tmp 19, .row false (.int .u8)), (.tmp 20, .val (.int .i64)), (.tmp 21, .val (.int .i64))], []⟩
noncomputable def x172_9 : List (X × Msk) := [(.exit 1, ⟨[(.tmp 4, .val (.int .u64))], []⟩)]
noncomputable def F172_9 (k : Nat) : Nat → m172_9.den → Option (denE x172_9)
  | 0, _ => none
  | j + 1, v => round TI (O139 k) (L172_9 k) b172_9 m172_9 x172_9 (F172_9 k j) v
theorem lk172_9_ (k : Nat) : LinksOK Tryd.prog 33 (L172_9 k) b172_9 := (And.intro True.intro (And.intro (And.intro True.intro True.intro) (And.intro (And.intro True.intro True.intro) True.intro)))
noncomputable def L172 (k : Nat) : LOrc := fun R lk s K => match lk with
  | .loop r => bif Nat.beq r 9 then link m172_9 x172_9 (F172_9 k k) s K else none
  | .label l => none
theorem lk_L172_9 (k : Nat) : LoopOK Tryd.prog 33 (L172 k) b172_9 := loopOK_of hm hT (ok_O139 k) (fun _ _ _ h => h) rfl (lk172_9_ k) rfl rfl (F := F172_9 k) (fun _ => rfl) (fun _ _ => rfl) (n := k) fun _ _ _ => rfl
noncomputable def F172 (k : Nat) (v : mi172.den) : Option mo172.den := runF TI (O139 k) (L172 k) c172 mi172 mo172 v
theorem lk172 (k : Nat) : LinksOK Tryd.prog 33 (L172 k) c172 := (And.intro True.intro (And.intro (And.intro True.intro (And.intro (And.intro True.intro True.intro) (And.intro True.intro (And.intro (And.intro True.intro True.intro) (And.intro True.intro (And.intro (And.intro True.intro True.intro) True.intro)))))) (And.intro True.intro (And.intro (And.intro True.intro (lk_L172_9 k)) (And.intro True.intro True.intro)))))
theorem fn172 (k : Nat) (args : List AV) (x : mi172.den) (r : mo172.den) (h1 : args.length = mi172.items.length) (h2 : mi172.dec (Th.start args) = some x) (h3 : F172 k x = some r) : CallOK Tryd.prog 172 args (ansOf (outL mo172.items r)) :=
  call_of hm hT (ok_O139 k) (fn := Tryd.f172) (c := c172) Tryd.func172 rfl rfl rfl (lk172 k) rfl (by decide) rfl h1 h2 h3
noncomputable def O172 (k : Nat) : Orc := fun R f args K => bif Nat.beq f 172 then callF mi172 mo172 (F172 k) args K else O139 k R f args K
theorem ok_O172 (k : Nat) : OrcOK (O172 k) (CallOK Tryd.prog) := orc_add (fn172 k) (ok_O139 k)
noncomputable def c195 : Code := Tryd.f195.body.getD .skip
noncomputable def mi195 : Msk := ⟨[(.tmp 0, .val (.st (.cons (.int .i64) (.cons (.int .i64) (.cons (.int .i64) .nil))))), (.tmp 1, .val (.slice (.int .u8)))], []⟩
noncomputable def mo195 : Msk := ⟨[(.tmp 4, .val (.int .i64)), (.tmp 5, .val (.int .i64))], []⟩
noncomputable def L195 (k : Nat) : LOrc := fun _ _ _ _ => none
noncomputable def F195 (k : Nat) (v : mi195.den) : Option mo195.den := runF TI (O172 k) (L195 k) c195 mi195 mo195 v
theorem lk195 (k : Nat) : LinksOK Tryd.prog 41 (L195 k) c195 := (And.intro True.intro (And.intro True.intro (And.intro (And.intro True.intro (And.intro (And.intro True.intro True.intro) True.intro)) (And.intro (And.intro True.intro (And.intro (And.intro True.intro True.intro) True.intro)) (And.intro True.intro (And.intro (And.intro (And.intro True.intro (And.intro True.intro True.intro)) (And.intro (And.intro True.intro True.intro) (And.intro True.intro (And.intro (And.intro True.intro True.intro) True.intro)))) (And.intro True.intro True.intro)))))))
theorem fn195 (k : Nat) (args : List AV) (x : mi195.den) (r : mo195.den) (h1 : args.length = mi195.items.length) (h2 : mi195.dec (Th.start args) = some x) (h3 : F195 k x = some r) : CallOK Tryd.prog 195 args (ansOf (outL mo195.items r)) :=
  call_of hm hT (ok_O172 k) (fn := Tryd.f195) (c := c195) Tryd.func195 rfl rfl rfl (lk195 k) rfl (by decide) rfl h1 h2 h3
noncomputable def O195 (k : Nat) : Orc := fun R f args K => bif Nat.beq f 195 then callF mi195 mo195 (F195 k) args K else O172 k R f args K
theorem ok_O195 (k : Nat) : OrcOK (O195 k) (CallOK Tryd.prog) := orc_add (fn195 k) (ok_O172 k)
noncomputable def c144 : Code := Tryd.f144.body.getD .skip
noncomputable def mi144 : Msk := ⟨[(.tmp 0, .val (.int .i64)), (.tmp 1, .val (.slice (.int .u8)))], []⟩
noncomputable def mo144 : Msk := ⟨[(.tmp 4, .val .str), (.tmp 5, .val (.int .i64)), (.tmp 6, .val (.int .i64))], []⟩
noncomputable def L144 (k : Nat) : LOrc := fun _ _ _ _ => none
noncomputable def F144 (k : Nat) (v : mi144.den) : Option mo144.den := runF TI (O195 k) (L144 k) c144 mi144 mo144 v
theorem lk144 (k : Nat) : LinksOK Tryd.prog 51 (L144 k) c144 := (And.intro True.intro (And.intro True.intro (And.intro (And.intro True.intro (And.intro (And.intro True.intro True.intro) True.intro)) (And.intro True.intro (And.intro (And.intro True.intro (And.intro (And.intro True.intro True.intro) True.intro)) (And.intro True.intro (And.intro True.intro (And.intro (And.intro True.intro (And.intro (And.intro True.intro True.intro) True.intro)) (And.intro True.intro (And.intro (And.intro True.intro (And.intro (And.intro True.intro True.intro) True.intro)) (And.intro True.intro True.intro)))))))))))
theorem fn144 (k : Nat) (args : List AV) (x : mi144.den) (r : mo144.den) (h1 : args.length = mi144.items.length) (h2 : mi144.dec (Th.start args) = some x) (h3 : F144 k x = some r) : CallOK Tryd.prog 144 args (ansOf (outL mo144.items r)) :=
  call_of hm hT (ok_O195 k) (fn := Tryd.f144) (c := c144) Tryd.func144 rfl rfl rfl (lk144 k) rfl (by decide) rfl h1 h2 h3
noncomputable def O144 (k : Nat) : Orc := fun R f args K => bif Nat.beq f 144 then callF mi144 mo144 (F144 k) args K else O195 k R f args K
theorem ok_O144 (k : Nat) : OrcOK (O144 k) (CallOK Tryd.prog) := orc_add (fn144 k) (ok_O195 k)
noncomputable def c42 : Code := Tryd.f42.body.getD .skip
noncomputable def mi42 : Msk := ⟨[(.tmp 0, .val (.int .i64))], []⟩
noncomputable def mo42 : Msk := ⟨[(.tmp 2, .val .bool)], []⟩
noncomputable def L42 (k : Nat) : LOrc := fun _ _ _ _ => none
noncomputable def F42 (k : Nat) (v : mi42.den) : Option mo42.den := runF TI (O144 k) (L42 k) c42 mi42 mo42 v
theorem lk42 (k : Nat) : LinksOK Tryd.prog 9 (L42 k) c42 := (And.intro True.intro (And.intro (And.intro True.intro (And.intro (And.intro True.intro (And.intro True.intro (And.intro True.intro (And.intro True.intro (And.intro True.intro (And.intro True.intro True.intro)))))) (And.intro (And.intro True.intro True.intro) True.intro))) (And.intro True.intro True.intro)))
theorem fn42 (k : Nat) (args : List AV) (x : mi42.den) (r : mo42.den) (h1 : args.length = mi42.items.length) (h2 : mi42.dec (Th.start args) = some x) (h3 : F42 k x = some r) : CallOK Tryd.prog 42 args (ansOf (outL mo42.items r)) :=
  call_of hm hT (ok_O144 k) (fn := Tryd.f42) (c := c42) Tryd.func42 rfl rfl rfl (lk42 k) rfl (by decide) rfl h1 h2 h3
noncomputable def O42 (k : Nat) : Orc := fun R f args K => bif Nat.beq f 42 then callF mi42 mo42 (F42 k) args K else O144 k R f args K
theorem ok_O42 (k : Nat) : OrcOK (O42 k) (CallOK Tryd.prog) := orc_add (fn42 k) (ok_O144 k)
noncomputable def F170 (k : Nat) (v : List UInt8 × Bool × Unit) : Option (Int × Unit) := sel (decide (v.1.length ≤ 9223372036854775807)) (some ((Sum.sumOf (Sum.backs (toBytes v.1)) v.2.1).1, ())) none
noncomputable def O170 (k : Nat) : Orc := fun R f args K => bif Nat.beq f 170 then (match args with | [.str b, .bool t] => ocall (F170 k (b, t, ())) fun r => K (.int .i64 r.1) | _ => none) else O42 k R f args K
theorem ok_O170 (k : Nat) : OrcOK (O170 k) (CallOK Tryd.prog) := by
  intro R f args K r h
  unfold O170 at h
  cases hb : Nat.beq f 170 with
  | false => rw [hb] at h; exact ok_O42 k R f args K r h
  | true =>
    rw [hb] at h
    rw [Nat.eq_of_beq_eq_true hb]
    simp only [cond_true] at h
    split at h
    · rename_i b t
      unfold F170 at h
      by_cases hl : b.length ≤ 9223372036854775807
      · rw [sel_pos hl] at h
        exact ⟨_, Sum.fn170 b hl t, h⟩
      · rw [sel_neg hl] at h; cases h
    · cases h
noncomputable def c107 : Code := Tryd.f107.body.getD .skip
noncomputable def mi107 : Msk := ⟨[(.tmp 0, .val .str)], []⟩
noncomputable def mo107 : Msk := ⟨[(.tmp 2, .val .bool)], []⟩
noncomputable def L107 (k : Nat) : LOrc := fun _ _ _ _ => none
noncomputable def F107 (k : Nat) (v : mi107.den) : Option mo107.den := runF TI (O170 k) (L107 k) c107 mi107 mo107 v
theorem lk107 (k : Nat) : LinksOK Tryd.prog 11 (L107 k) c107 := (And.intro True.intro (And.intro True.intro True.intro))
theorem fn107 (k : Nat) (args : List AV) (x : mi107.den) (r : mo107.den) (h1 : args.length = mi107.items.length) (h2 : mi107.dec (Th.start args) = some x) (h3 : F107 k x = some r) : CallOK Tryd.prog 107 args (ansOf (outL mo107.items r)) :=
  call_of hm hT (ok_O170 k) (fn := Tryd.f107) (c := c107) Tryd.func107 rfl rfl rfl (lk107 k) rfl (by decide) rfl h1 h2 h3
noncomputable def O107 (k : Nat) : Orc := fun R f args K => bif Nat.beq f 107 then callF mi107 mo107 (F107 k) args K else O170 k R f args K
theorem ok_O107 (k : Nat) : OrcOK (O107 k) (CallOK Tryd.prog) := orc_add (fn107 k) (ok_O170 k)
noncomputable def c108 : Code := Tryd.f108.body.getD .skip
noncomputable def mi108 : Msk := ⟨[(.tmp 0, .val (.int .i64))], []⟩
noncomputable def mo108 : Msk := ⟨[(.tmp 2, .val .str)], []⟩
noncomputable def L108 (k : Nat) : LOrc := fun _ _ _ _ => none
noncomputable def F108 (k : Nat) (v : mi108.den) : Option mo108.den := runF TI (O107 k) (L108 k) c108 mi108 mo108 v
theorem lk108 (k : Nat) : LinksOK Tryd.prog 12 (L108 k) c108 := (And.intro True.intro (And.intro (And.intro True.intro (And.intro (And.intro True.intro True.intro) True.intro)) (And.intro True.intro True.intro)))
theorem fn108 (k : Nat) (args : List AV) (x : mi108.den) (r : mo108.den) (h1 : args.length = mi108.items.length) (h2 : mi108.dec (Th.start args) = some x) (h3 : F108 k x = some r) : CallOK Tryd.prog 108 args (ansOf (outL mo108.items r)) :=
  call_of hm hT (ok_O107 k) (fn := Tryd.f108) (c := c108) Tryd.func108 rfl rfl rfl (lk108 k) rfl (by decide) rfl h1 h2 h3
noncomputable def O108 (k : Nat) : Orc := fun R f args K => bif Nat.beq f 108 then callF mi108 mo108 (F108 k) args K else O107 k R f args K
theorem ok_O108 (k : Nat) : OrcOK (O108 k) (CallOK Tryd.prog) := orc_add (fn108 k) (ok_O107 k)
noncomputable def c109 : Code := Tryd.f109.body.getD .skip
noncomputable def mi109 : Msk := ⟨[(.tmp 0, .val (.st (.cons (.int .i64) (.cons .str (.cons (.int .u64) (.cons (.int .u32) (.cons .str (.cons .str .nil))))))))], []⟩
noncomputable def mo109 : Msk := ⟨[(.tmp 2, .row false (.st (.cons (.int .i64) (.cons .str .nil))))], []⟩
noncomputable def L109 (k : Nat) : LOrc := fun _ _ _ _ => none
noncomputable def F109 (k : Nat) (v : mi109.den) : Option mo109.den := runF TI (O108 k) (L109 k) c109 mi109 mo109 v
theorem lk109 (k : Nat) : LinksOK Tryd.prog 57 (L109 k) c109 := (And.intro True.intro (And.intro True.intro (And.intro True.intro (And.intro (And.intro True.intro (And.intro (And.intro True.intro True.intro) True.intro)) (And.intro True.intro (And.intro True.intro (And.intro (And.intro True.intro (And.intro True.intro True.intro)) (And.intro True.intro True.intro))))))))
theorem fn109 (k : Nat) (args : List AV) (x : mi109.den) (r : mo109.den) (h1 : args.length = mi109.items.length) (h2 : mi109.dec (Th.start args) = some x) (h3 : F109 k x = some r) : CallOK Tryd.prog 109 args (ansOf (outL mo109.items r)) :=
  call_of hm hT (ok_O108 k) (fn := Tryd.f109) (c := c109) Tryd.func109 rfl rfl rfl (lk109 k) rfl (by decide) rfl h1 h2 h3
noncomputable def O109 (k : Nat) : Orc := fun R f args K => bif Nat.beq f 109 then callF mi109 mo109 (F109 k) args K else O108 k R f args K
theorem ok_O109 (k : Nat) : OrcOK (O109 k) (CallOK Tryd.prog) := orc_add (fn109 k) (ok_O108 k)
noncomputable def c121 : Code := Tryd.f121.body.getD .skip
noncomputable def mi121 : Msk := ⟨[(.tmp 0, .val .str)], []⟩
noncomputable def mo121 : Msk := ⟨[(.tmp 2, .val .bool)], []⟩
noncomputable def L121 (k : Nat) : LOrc := fun _ _ _ _ => none
noncomputable def F121 (k : Nat) (v : mi121.den) : Option mo121.den := runF TI (O109 k) (L121 k) c121 mi121 mo121 v
theorem lk121 (k : Nat) : LinksOK Tryd.prog 12 (L121 k) c121 := (And.intro True.intro (And.intro (And.intro True.intro (And.intro (And.intro True.intro (And.intro True.intro (And.intro True.intro (And.intro True.intro (And.intro True.intro (And.intro True.intro (And.intro True.intro (And.intro True.intro (And.intro True.intro (And.intro True.intro (And.intro True.intro (And.intro True.intro True.intro)))))))))))) (And.intro (And.intro True.intro True.intro) True.intro))) (And.intro True.intro True.intro)))
theorem fn121 (k : Nat) (args : List AV) (x : mi121.den) (r : mo121.den) (h1 : args.length = mi121.items.length) (h2 : mi121.dec (Th.start args) = some x) (h3 : F121 k x = some r) : CallOK Tryd.prog 121 args (ansOf (outL mo121.items r)) :=
  call_of hm hT (ok_O109 k) (fn := Tryd.f121) (c := c121) Tryd.func121 rfl rfl rfl (lk121 k) rfl (by decide) rfl h1 h2 h3
noncomputable def O121 (k : Nat) : Orc := fun R f args K => bif Nat.beq f 121 then callF mi121 mo121 (F121 k) args K else O109 k R f args K
theorem ok_O121 (k : Nat) : OrcOK (O121 k) (CallOK Tryd.prog) := orc_add (fn121 k) (ok_O109 k)
noncomputable def c44 : Code := Tryd.f44.body.getD .skip
noncomputable def mi44 : Msk := ⟨[(.tmp 0, .val (.st (.cons .str (.cons (.slice (.st (.cons (.int .i64) (.cons .str .nil)))) .nil))))], []⟩
noncomputable def mo44 : Msk := ⟨[(.tmp 2, .val .bool)], []⟩
noncomputable def L44_3 (k : Nat) : LOrc := fun _ _ _ _ => none
noncomputable def b44_3 : Code := (findLoop 3 c44).getD .skip
noncomputable def m44_3 : Msk := ⟨[(.tmp 1, .ptr 1 0), (.tmp 3, .val (.int .i64)), (.tmp 7, .val (.slice (.st (.cons (.int .i64) (.cons .str .nil))))), (.tmp 8, .val (.int .i64)), (.tmp 9, .val (.int .i64)), (.cell 1 0, .val .str), (.cell 1 1, .val (.slice (.st (.cons (.int .i64) (.cons .str .nil)))))], [(1, 2)]⟩
noncomputable def x44_3 : List (X × Msk) := [(.exit 0, ⟨[(.tmp 1, .ptr 1 0), (.cell 1 0, .val .str), (.cell 1 1, .val (.slice (.st (.cons (.int .i64) (.cons .str .nil)))))], [(1, 2)]⟩), (.ret, ⟨[(.tmp 2, .val .bool)], []⟩)]
noncomputable def F44_3 (k : Nat) : Nat → m44_3.den → Option (denE x44_3)
  | 0, _ => none
  | j + 1, v => round TI (O121 k) (L44_3 k) b44_3 m44_3 x44_3 (F44_3 k j) v
theorem lk44_3_ (k : Nat) : LinksOK Tryd.prog 37 (L44_3 k) b44_3 := (And.intro True.intro (And.intro (And.intro True.intro True.intro) (And.intro (And.intro True.intro (And.intro (And.intro True.intro (And.intro (And.intro True.intro True.intro) True.intro)) True.intro)) True.intro)))
noncomputable def L44 (k : Nat) : LOrc := fun R lk s K => match lk with
  | .loop r => bif Nat.beq r 3 then link m44_3 x44_3 (F44_3 k k) s K else none
  | .label l => none
theorem lk_L44_3 (k : Nat) : LoopOK Tryd.prog 37 (L44 k) b44_3 := loopOK_of hm hT (ok_O121 k) (fun _ _ _ h => h) rfl (lk44_3_ k) rfl rfl (F := F44_3 k) (fun _ => rfl) (fun _ _ => rfl) (n := k) fun _ _ _ => rfl
noncomputable def F44 (k : Nat) (v : mi44.den) : Option mo44.den := runF TI (O121 k) (L44 k) c44 mi44 mo44 v
theorem lk44 (k : Nat) : LinksOK Tryd.prog 37 (L44 k) c44 := (And.intro True.intro (And.intro True.intro (And.intro (And.intro True.intro (lk_L44_3 k)) (And.intro True.intro True.intro))))
theorem fn44 (k : Nat) (args : List AV) (x : mi44.den) (r : mo44.den) (h1 : args.length = mi44.items.length) (h2 : mi44.dec (Th.start args) = some x) (h3 : F44 k x = some r) : CallOK Tryd.prog 44 args (ansOf (outL mo44.items r)) :=
  call_of hm hT (ok_O121 k) (fn := Tryd.f44) (c := c44) Tryd.func44 rfl rfl rfl (lk44 k) rfl (by decide) rfl h1 h2 h3
noncomputable def O44 (k : Nat) : Orc := fun R f args K => bif Nat.beq f 44 then callF mi44 mo44 (F44 k) args K else O121 k R f args K
theorem ok_O44 (k : Nat) : OrcOK (O44 k) (CallOK Tryd.prog) := orc_add (fn44 k) (ok_O121 k)
noncomputable def c33 : Code := Tryd.f33.body.getD .skip
noncomputable def mi33 : Msk := ⟨[(.tmp 0, .val (.st (.cons (.int .i64) (.cons .str (.cons (.int .u64) (.cons (.int .u32) (.cons .str (.cons .str .nil))))))))], []⟩
noncomputable def mo33 : Msk := ⟨[(.tmp 2, .val .bool)], []⟩
noncomputable def L33 (k : Nat) : LOrc := fun _ _ _ _ => none
noncomputable def F33 (k : Nat) (v : mi33.den) : Option mo33.den := runF TI (O44 k) (L33 k) c33 mi33 mo33 v
theorem lk33 (k : Nat) : LinksOK Tryd.prog 30 (L33 k) c33 := (And.intro True.intro (And.intro (And.intro True.intro (And.intro (And.intro True.intro (And.intro (And.intro True.intro True.intro) True.intro)) (And.intro True.intro (And.intro (And.intro True.intro True.intro) True.intro)))) (And.intro True.intro True.intro)))
theorem fn33 (k : Nat) (args : List AV) (x : mi33.den) (r : mo33.den) (h1 : args.length = mi33.items.length) (h2 : mi33.dec (Th.start args) = some x) (h3 : F33 k x = some r) : CallOK Tryd.prog 33 args (ansOf (outL mo33.items r)) :=
  call_of hm hT (ok_O44 k) (fn := Tryd.f33) (c := c33) Tryd.func33 rfl rfl rfl (lk33 k) rfl (by decide) rfl h1 h2 h3
noncomputable def O33 (k : Nat) : Orc := fun R f args K => bif Nat.beq f 33 then callF mi33 mo33 (F33 k) args K else O44 k R f args K
theorem ok_O33 (k : Nat) : OrcOK (O33 k) (CallOK Tryd.prog) := orc_add (fn33 k) (ok_O44 k)
noncomputable def c27 : Code := Tryd.f27.body.getD .skip
noncomputable def mi27 : Msk := ⟨[(.tmp 0, .val (.st (.cons (.int .u32) (.cons .str .nil))))], []⟩
noncomputable def mo27 : Msk := ⟨[(.tmp 2, .val .bool)], []⟩
noncomputable def L27 (k : Nat) : LOrc := fun _ _ _ _ => none
noncomputable def F27 (k : Nat) (v : mi27.den) : Option mo27.den := runF TI (O33 k) (L27 k) c27 mi27 mo27 v
theorem lk27 (k : Nat) : LinksOK Tryd.prog 9 (L27 k) c27 := (And.intro True.intro (And.intro True.intro True.intro))
theorem fn27 (k : Nat) (args : List AV) (x : mi27.den) (r : mo27.den) (h1 : args.length = mi27.items.length) (h2 : mi27.dec (Th.start args) = some x) (h3 : F27 k x = some r) : CallOK Tryd.prog 27 args (ansOf (outL mo27.items r)) :=
  call_of hm hT (ok_O33 k) (fn := Tryd.f27) (c := c27) Tryd.func27 rfl rfl rfl (lk27 k) rfl (by decide) rfl h1 h2 h3
noncomputable def O27 (k : Nat) : Orc := fun R f args K => bif Nat.beq f 27 then callF mi27 mo27 (F27 k) args K else O33 k R f args K
theorem ok_O27 (k : Nat) : OrcOK (O27 k) (CallOK Tryd.prog) := orc_add (fn27 k) (ok_O33 k)
noncomputable def c26 : Code := Tryd.f26.body.getD .skip
noncomputable def mi26 : Msk := ⟨[(.tmp 0, .val (.st (.cons (.int .i64) (.cons .str (.cons (.int .u64) (.cons (.int .u32) (.cons .str (.cons .str .nil))))))))], []⟩
noncomputable def mo26 : Msk := ⟨[(.res 2, .val (.st (.cons (.int .u32) (.cons .str .nil))))], []⟩
noncomputable def L26 (k : Nat) : LOrc := fun _ _ _ _ => none
noncomputable def F26 (k : Nat) (v : mi26.den) : Option mo26.den := runF TI (O27 k) (L26 k) c26 mi26 mo26 v
theorem lk26 (k : Nat) : LinksOK Tryd.prog 8 (L26 k) c26 := (And.intro True.intro (And.intro True.intro True.intro))
theorem fn26 (k : Nat) (args : List AV) (x : mi26.den) (r : mo26.den) (h1 : args.length = mi26.items.length) (h2 : mi26.dec (Th.start args) = some x) (h3 : F26 k x = some r) : CallOK Tryd.prog 26 args (ansOf (outL mo26.items r)) :=
  call_of hm hT (ok_O27 k) (fn := Tryd.f26) (c := c26) Tryd.func26 rfl rfl rfl (lk26 k) rfl (by decide) rfl h1 h2 h3
noncomputable def O26 (k : Nat) : Orc := fun R f args K => bif Nat.beq f 26 then callF mi26 mo26 (F26 k) args K else O27 k R f args K
theorem ok_O26 (k : Nat) : OrcOK (O26 k) (CallOK Tryd.prog) := orc_add (fn26 k) (ok_O27 k)
noncomputable def c3 : Code := Tryd.f3.body.getD .skip
noncomputable def mi3 : Msk := ⟨[(.tmp 0, .val (.st (.cons (.int .i64) (.cons .str (.cons (.int .u64) (.cons (.int .u32) (.cons .str (.cons .str .nil)))))))), (.tmp 1, .val (.st (.cons (.int .u32) (.cons .str .nil)))), (.tmp 2, .val (.st (.cons (.int .u32) (.cons .str .nil)))), (.tmp 3, .val (.int .i64))], []⟩
noncomputable def mo3 : Msk := ⟨[(.tmp 8, .val .bool)], []⟩
noncomputable def L3 (k : Nat) : LOrc := fun _ _ _ _ => none
noncomputable def F3 (k : Nat) (v : mi3.den) : Option mo3.den := runF TI (O26 k) (L3 k) c3 mi3 mo3 v
theorem lk3 (k : Nat) : LinksOK Tryd.prog 57 (L3 k) c3 := (And.intro True.intro (And.intro (And.intro True.intro (And.intro (And.intro True.intro True.intro) True.intro)) (And.intro (And.intro True.intro (And.intro (And.intro True.intro True.intro) True.intro)) (And.intro True.intro True.intro))))
theorem fn3 (k : Nat) (args : List AV) (x : mi3.den) (r : mo3.den) (h1 : args.length = mi3.items.length) (h2 : mi3.dec (Th.start args) = some x) (h3 : F3 k x = some r) : CallOK Tryd.prog 3 args (ansOf (outL mo3.items r)) :=
  call_of hm hT (ok_O26 k) (fn := Tryd.f3) (c := c3) Tryd.func3 rfl rfl rfl (lk3 k) rfl (by decide) rfl h1 h2 h3
noncomputable def O3 (k : Nat) : Orc := fun R f args K => bif Nat.beq f 3 then callF mi3 mo3 (F3 k) args K else O26 k R f args K
theorem ok_O3 (k : Nat) : OrcOK (O3 k) (CallOK Tryd.prog) := orc_add (fn3 k) (ok_O26 k)
noncomputable def c4 : Code := Tryd.f4.body.getD .skip
noncomputable def mi4 : Msk := ⟨[(.tmp 0, .val (.st (.cons (.int .u32) (.cons .str .nil)))), (.tmp 1, .val (.st (.cons (.int .u32) (.cons .str .nil)))), (.tmp 2, .val (.st (.cons (.int .u32) (.cons .str .nil))))], []⟩
noncomputable def mo4 : Msk := ⟨[(.tmp 6, .val .bool)], []⟩
noncomputable def L4 (k : Nat) : LOrc := fun _ _ _ _ => none
noncomputable def F4 (k : Nat) (v : mi4.den) : Option mo4.den := runF TI (O3 k) (L4 k) c4 mi4 mo4 v
theorem lk4 (k : Nat) : LinksOK Tryd.prog 72 (L4 k) c4 := (And.intro True.intro (And.intro (And.intro True.intro (And.intro (And.intro True.intro True.intro) True.intro)) (And.intro (And.intro True.intro (And.intro (And.intro True.intro True.intro) True.intro)) (And.intro True.intro (And.intro True.intro True.intro)))))
theorem fn4 (k : Nat) (args : List AV) (x : mi4.den) (r : mo4.den) (h1 : args.length = mi4.items.length) (h2 : mi4.dec (Th.start args) = some x) (h3 : F4 k x = some r) : CallOK Tryd.prog 4 args (ansOf (outL mo4.items r)) :=
  call_of hm hT (ok_O3 k) (fn := Tryd.f4) (c := c4) Tryd.func4 rfl rfl rfl (lk4 k) rfl (by decide) rfl h1 h2 h3
noncomputable def O4 (k : Nat) : Orc := fun R f args K => bif Nat.beq f 4 then callF mi4 mo4 (F4 k) args K else O3 k R f args K
theorem ok_O4 (k : Nat) : OrcOK (O4 k) (CallOK Tryd.prog) := orc_add (fn4 k) (ok_O3 k)
noncomputable def c5 : Code := Tryd.f5.body.getD .skip
noncomputable def mi5 : Msk := ⟨[(.tmp 0, .val (.st (.cons (.int .i64) (.cons .str (.cons (.int .u64) (.cons (.int .u32) (.cons .str (.cons .str .nil)))))))), (.tmp 1, .val (.int .u8)), (.tmp 2, .val (.int .u8))], []⟩
noncomputable def mo5 : Msk := ⟨[(.tmp 6, .val .bool)], []⟩
noncomputable def L5 (k : Nat) : LOrc := fun _ _ _ _ => none
noncomputable def F5 (k : Nat) (v : mi5.den) : Option mo5.den := runF TI (O4 k) (L5 k) c5 mi5 mo5 v
theorem lk5 (k : Nat) : LinksOK Tryd.prog 60 (L5 k) c5 := (And.intro True.intro (And.intro (And.intro True.intro (And.intro (And.intro True.intro True.intro) True.intro)) (And.intro (And.intro True.intro (And.intro (And.intro True.intro True.intro) True.intro)) (And.intro True.intro (And.intro True.intro (And.intro True.intro (And.intro True.intro (And.intro True.intro True.intro))))))))
theorem fn5 (k : Nat) (args : List AV) (x : mi5.den) (r : mo5.den) (h1 : args.length = mi5.items.length) (h2 : mi5.dec (Th.start args) = some x) (h3 : F5 k x = some r) : CallOK Tryd.prog 5 args (ansOf (outL mo5.items r)) :=
  call_of hm hT (ok_O4 k) (fn := Tryd.f5) (c := c5) Tryd.func5 rfl rfl rfl (lk5 k) rfl (by decide) rfl h1 h2 h3
noncomputable def O5 (k : Nat) : Orc := fun R f args K => bif Nat.beq f 5 then callF mi5 mo5 (F5 k) args K else O4 k R f args K
theorem ok_O5 (k : Nat) : OrcOK (O5 k) (CallOK Tryd.prog) := orc_add (fn5 k) (ok_O4 k)
noncomputable def c37 : Code := Tryd.f37.body.getD .skip
noncomputable def mi37 : Msk := ⟨[(.tmp 0, .val (.st (.cons (.int .i64) (.cons .str (.cons (.int .u64) (.cons (.int .u32) (.cons .str (.cons .str .nil))))))))], []⟩
noncomputable def mo37 : Msk := ⟨[(.res 2, .val (.st (.cons .str (.cons (.slice (.st (.cons (.int .i64) (.cons .str .nil)))) .nil)))), (.tmp 3, .val (.int .i64))], []⟩
noncomputable def L37 (k : Nat) : LOrc := fun _ _ _ _ => none
noncomputable def F37 (k : Nat) (v : mi37.den) : Option mo37.den := runF TI (O5 k) (L37 k) c37 mi37 mo37 v
theorem lk37 (k : Nat) : LinksOK Tryd.prog 14 (L37 k) c37 := (And.intro True.intro (And.intro (And.intro True.intro (And.intro (And.intro True.intro True.intro) True.intro)) (And.intro True.intro True.intro)))
theorem fn37 (k : Nat) (args : List AV) (x : mi37.den) (r : mo37.den) (h1 : args.length = mi37.items.length) (h2 : mi37.dec (Th.start args) = some x) (h3 : F37 k x = some r) : CallOK Tryd.prog 37 args (ansOf (outL mo37.items r)) :=
  call_of hm hT (ok_O5 k) (fn := Tryd.f37) (c := c37) Tryd.func37 rfl rfl rfl (lk37 k) rfl (by decide) rfl h1 h2 h3
noncomputable def O37 (k : Nat) : Orc := fun R f args K => bif Nat.beq f 37 then callF mi37 mo37 (F37 k) args K else O5 k R f args K
theorem ok_O37 (k : Nat) : OrcOK (O37 k) (CallOK Tryd.prog) := orc_add (fn37 k) (ok_O5 k)
noncomputable def c113 : Code := Tryd.f113.body.getD .skip
noncomputable def mi113 : Msk := ⟨[(.tmp 0, .val .str)], []⟩
noncomputable def mo113 : Msk := ⟨[(.tmp 2, .val (.int .i64))], []⟩
noncomputable def L113_2 (k : Nat) : LOrc := fun _ _ _ _ => none
noncomputable def b113_2 : Code := (findLoop 2 c113).getD .skip
noncomputable def m113_2 : Msk := ⟨[(.tmp 0, .val .str), (.tmp 3, .val (.int .i64))], []⟩
noncomputable def x113_2 : List (X × Msk) := [(.exit 0, ⟨[], []⟩), (.ret, ⟨[(.tmp 2, .val (.int .i64))], []⟩)]
noncomputable def F113_2 (k : Nat) : Nat → m113_2.den → Option (denE x113_2)
  | 0, _ => none
  | j + 1, v => round TI (O37 k) (L113_2 k) b113_2 m113_2 x113_2 (F113_2 k j) v
theorem lk113_2_ (k : Nat) : LinksOK Tryd.prog 13 (L113_2 k) b113_2 := (And.intro (And.intro True.intro (And.intro True.intro True.intro)) (And.intro (And.intro True.intro (And.intro (And.intro True.intro True.intro) True.intro)) True.intro))
noncomputable def L113 (k : Nat) : LOrc := fun R lk s K => match lk with
  | .loop r => bif Nat.beq r 2 then link m113_2 x113_2 (F113_2 k k) s K else none
  | .label l => none
theorem lk_L113_2 (k : Nat) : LoopOK Tryd.prog 13 (L113 k) b113_2 := loopOK_of hm hT (ok_O37 k) (fun _ _ _ h => h) rfl (lk113_2_ k) rfl rfl (F := F113_2 k) (fun _ => rfl) (fun _ _ => rfl) (n := k) fun _ _ _ => rfl
noncomputable def F113 (k : Nat) (v : mi113.den) : Option mo113.den := runF TI (O37 k) (L113 k) c113 mi113 mo113 v
theorem lk113 (k : Nat) : LinksOK Tryd.prog 13 (L113 k) c113 := (And.intro True.intro (And.intro (And.intro True.intro (lk_L113_2 k)) (And.intro True.intro True.intro)))
theorem fn113 (k : Nat) (args : List AV) (x : mi113.den) (r : mo113.den) (h1 : args.length = mi113.items.length) (h2 : mi113.dec (Th.start args) = some x) (h3 : F113 k x = some r) : CallOK Tryd.prog 113 args (ansOf (outL mo113.items r)) :=
  call_of hm hT (ok_O37 k) (fn := Tryd.f113) (c := c113) Tryd.func113 rfl rfl rfl (lk113 k) rfl (by decide) rfl h1 h2 h3
noncomputable def O113 (k : Nat) : Orc := fun R f args K => bif Nat.beq f 113 then callF mi113 mo113 (F113 k) args K else O37 k R f args K
theorem ok_O113 (k : Nat) : OrcOK (O113 k) (CallOK Tryd.prog) := orc_add (fn113 k) (ok_O37 k)
noncomputable def c174 : Code := Tryd.f174.body.getD .skip
noncomputable def mi174 : Msk := ⟨[(.tmp 0, .val (.st (.cons (.int .i64) (.cons .str .nil)))), (.tmp 1, .val (.ref (.cons (.int .i64) .nil)))], []⟩
noncomputable def mo174 : Msk := ⟨[(.tmp 3, .val .bool)], []⟩
noncomputable def L174 (k : Nat) : LOrc := fun _ _ _ _ => none
noncomputable def F174 (k : Nat) (v : mi174.den) : Option mo174.den := runF TI (O113 k) (L174 k) c174 mi174 mo174 v
theorem lk174 (k : Nat) : LinksOK Tryd.prog 8 (L174 k) c174 := (And.intro True.intro (And.intro True.intro True.intro))
theorem fn174 (k : Nat) (args : List AV) (x : mi174.den) (r : mo174.den) (h1 : args.length = mi174.items.length) (h2 : mi174.dec (Th.start args) = some x) (h3 : F174 k x = some r) : CallOK Tryd.prog 174 args (ansOf (outL mo174.items r)) :=
  call_of hm hT (ok_O113 k) (fn := Tryd.f174) (c := c174) Tryd.func174 rfl rfl rfl (lk174 k) rfl (by decide) rfl h1 h2 h3
noncomputable def O174 (k : Nat) : Orc := fun R f args K => bif Nat.beq f 174 then callF mi174 mo174 (F174 k) args K else O113 k R f args K
theorem ok_O174 (k : Nat) : OrcOK (O174 k) (CallOK Tryd.prog) := orc_add (fn174 k) (ok_O113 k)
noncomputable def c7000000 : Code := Tryd.f173.body.getD .skip
noncomputable def mi7000000 : Msk := ⟨[(.tmp 0, .val (.slice (.st (.cons (.int .i64) (.cons .str .nil))))), (.tmp 1, .val (.clo 174 (.cons (.ref (.cons (.int .i64) .nil)) .nil)))], []⟩
noncomputable def mo7000000 : Msk := ⟨[(.tmp 4, .val (.int .i64))], []⟩
noncomputable def L7000000_2 (k : Nat) : LOrc := fun _ _ _ _ => none
noncomputable def b7000000_2 : Code := (findLoop 2 c7000000).getD .skip
noncomputable def m7000000_2 : Msk := ⟨[(.tmp 0, .val (.slice (.st (.cons (.int .i64) (.cons .str .nil))))), (.tmp 1, .val (.clo 174 (.cons (.ref (.cons (.int .i64) .nil)) .nil))), (.tmp 7, .val (.int .i64)), (.tmp 8, .val (.int .i64))], []⟩
noncomputable def x7000000_2 : List (X × Msk) := [(.exit 0, ⟨[], []⟩), (.ret, ⟨[(.tmp 4, .val (.int .i64))], []⟩)]
noncomputable def F7000000_2 (k : Nat) : Nat → m7000000_2.den → Option (denE x7000000_2)
  | 0, _ => none
  | j + 1, v => round TI (O174 k) (L7000000_2 k) b7000000_2 m7000000_2 x7000000_2 (F7000000_2 k j) v
theorem lk7000000_2_ (k : Nat) : LinksOK Tryd.prog 19 (L7000000_2 k) b7000000_2 := (And.intro True.intro (And.intro (And.intro True.intro True.intro) (And.intro (And.intro True.intro (And.intro True.intro (And.intro (And.intro True.intro True.intro) True.intro))) True.intro)))
noncomputable def L7000000 (k : Nat) : LOrc := fun R lk s K => match lk with
  | .loop r => bif Nat.beq r 2 then link m7000000_2 x7000000_2 (F7000000_2 k k) s K else none
  | .label l => none
theorem lk_L7000000_2 (k : Nat) : LoopOK Tryd.prog 19 (L7000000 k) b7000000_2 := loopOK_of hm hT (ok_O174 k) (fun _ _ _ h => h) rfl (lk7000000_2_ k) rfl rfl (F := F7000000_2 k) (fun _ => rfl) (fun _ _ => rfl) (n := k) fun _ _ _ => rfl
noncomputable def F7000000 (k : Nat) (v : mi7000000.den) : Option mo7000000.den := runF TI (O174 k) (L7000000 k) c7000000 mi7000000 mo7000000 v
theorem lk7000000 (k : Nat) : LinksOK Tryd.prog 19 (L7000000 k) c7000000 := (And.intro True.intro (And.intro (And.intro True.intro (lk_L7000000_2 k)) (And.intro True.intro True.intro)))
theorem fn7000000 (k : Nat) (args : List AV) (x : mi7000000.den) (r : mo7000000.den) (h1 : args.length = mi7000000.items.length) (h2 : mi7000000.dec (Th.start args) = some x) (h3 : F7000000 k x = some r) : CallOK Tryd.prog 173 args (ansOf (outL mo7000000.items r)) :=
  call_of hm hT (ok_O174 k) (fn := Tryd.f173) (c := c7000000) Tryd.func173 rfl rfl rfl (lk7000000 k) rfl (by decide) rfl h1 h2 h3
noncomputable def O7000000 (k : Nat) : Orc := fun R f args K => bif (bif Nat.beq f 173 then isClo 1 174 args else false) then callF mi7000000 mo7000000 (F7000000 k) args K else O174 k R f args K
theorem ok_O7000000 (k : Nat) : OrcOK (O7000000 k) (CallOK Tryd.prog) := orc_addP (fn7000000 k) (ok_O174 k)
noncomputable def c115 : Code := Tryd.f115.body.getD .skip
noncomputable def mi115 : Msk := ⟨[(.tmp 0, .val (.st (.cons .str (.cons (.slice (.st (.cons (.int .i64) (.cons .str .nil)))) .nil)))), (.tmp 1, .val (.int .i64))], []⟩
noncomputable def mo115 : Msk := ⟨[(.tmp 4, .val .str), (.tmp 5, .val .bool)], []⟩
noncomputable def L115 (k : Nat) : LOrc := fun _ _ _ _ => none
noncomputable def F115 (k : Nat) (v : mi115.den) : Option mo115.den := runF TI (O7000000 k) (L115 k) c115 mi115 mo115 v
theorem lk115 (k : Nat) : LinksOK Tryd.prog 19 (L115 k) c115 := (And.intro True.intro (And.intro True.intro (And.intro (And.intro True.intro (And.intro (And.intro True.intro True.intro) True.intro)) (And.intro True.intro True.intro))))
theorem fn115 (k : Nat) (args : List AV) (x : mi115.den) (r : mo115.den) (h1 : args.length = mi115.items.length) (h2 : mi115.dec (Th.start args) = some x) (h3 : F115 k x = some r) : CallOK Tryd.prog 115 args (ansOf (outL mo115.items r)) :=
  call_of hm hT (ok_O7000000 k) (fn := Tryd.f115) (c := c115) Tryd.func115 rfl rfl rfl (lk115 k) rfl (by decide) rfl h1 h2 h3
noncomputable def O115 (k : Nat) : Orc := fun R f args K => bif Nat.beq f 115 then callF mi115 mo115 (F115 k) args K else O7000000 k R f args K
theorem ok_O115 (k : Nat) : OrcOK (O115 k) (CallOK Tryd.prog) := orc_add (fn115 k) (ok_O7000000 k)
noncomputable def c114 : Code := Tryd.f114.body.getD .skip
noncomputable def mi114 : Msk := ⟨[(.tmp 0, .val (.st (.cons .str (.cons (.slice (.st (.cons (.int .i64) (.cons .str .nil)))) .nil)))), (.tmp 1, .val (.int .i64))], []⟩
noncomputable def mo114 : Msk := ⟨[(.tmp 4, .val (.int .u64))], []⟩
noncomputable def L114 (k : Nat) : LOrc := fun _ _ _ _ => none
noncomputable def F114 (k : Nat) (v : mi114.den) : Option mo114.den := runF TI (O115 k) (L114 k) c114 mi114 mo114 v
theorem lk114 (k : Nat) : LinksOK Tryd.prog 21 (L114 k) c114 := (And.intro True.intro (And.intro True.intro (And.intro True.intro (And.intro True.intro True.intro))))
theorem fn114 (k : Nat) (args : List AV) (x : mi114.den) (r : mo114.den) (h1 : args.length = mi114.items.length) (h2 : mi114.dec (Th.start args) = some x) (h3 : F114 k x = some r) : CallOK Tryd.prog 114 args (ansOf (outL mo114.items r)) :=
  call_of hm hT (ok_O115 k) (fn := Tryd.f114) (c := c114) Tryd.func114 rfl rfl rfl (lk114 k) rfl (by decide) rfl h1 h2 h3
noncomputable def O114 (k : Nat) : Orc := fun R f args K => bif Nat.beq f 114 then callF mi114 mo114 (F114 k) args K else O115 k R f args K
theorem ok_O114 (k : Nat) : OrcOK (O114 k) (CallOK Tryd.prog) := orc_add (fn114 k) (ok_O115 k)
noncomputable def c116 : Code := Tryd.f116.body.getD .skip
noncomputable def mi116 : Msk := ⟨[(.tmp 0, .val (.st (.cons .str (.cons (.slice (.st (.cons (.int .i64) (.cons .str .nil)))) .nil)))), (.tmp 1, .val (.st (.cons (.int .i64) (.cons .str (.cons (.int .u64) (.cons (.int .u32) (.cons .str (.cons .str .nil))))))))], []⟩
noncomputable def mo116 : Msk := ⟨[(.tmp 4, .val .bool)], []⟩
noncomputable def L116_5 (k : Nat) : LOrc := fun _ _ _ _ => none
noncomputable def b116_5 : Code := (findLoop 5 c116).getD .skip
noncomputable def m116_5 : Msk := ⟨[(.tmp 2, .ptr 2 0), (.tmp 16, .row false (.st (.cons (.int .i64) (.cons .str .nil)))), (.tmp 17, .val (.int .i64)), (.tmp 18, .val (.int .i64)), (.cell 2 0, .val .str), (.cell 2 1, .val (.slice (.st (.cons (.int .i64) (.cons .str .nil)))))], [(2, 2)]⟩
noncomputable def x116_5 : List (X × Msk) := [(.exit 0, ⟨[], []⟩), (.ret, ⟨[(.tmp 4, .val .bool)], []⟩)]
noncomputable def F116_5 (k : Nat) : Nat → m116_5.den → Option (denE x116_5)
  | 0, _ => none
  | j + 1, v => round TI (O114 k) (L116_5 k) b116_5 m116_5 x116_5 (F116_5 k j) v
theorem lk116_5_ (k : Nat) : LinksOK Tryd.prog 33 (L116_5 k) b116_5 := (And.intro True.intro (And.intro (And.intro True.intro True.intro) (And.intro (And.intro True.intro (And.intro True.intro (And.intro (And.intro True.intro True.intro) True.intro))) True.intro)))
noncomputable def L116 (k : Nat) : LOrc := fun R lk s K => match lk with
  | .loop r => bif Nat.beq r 5 then link m116_5 x116_5 (F116_5 k k) s K else none
  | .label l => none
theorem lk_L116_5 (k : Nat) : LoopOK Tryd.prog 33 (L116 k) b116_5 := loopOK_of hm hT (ok_O114 k) (fun _ _ _ h => h) rfl (lk116_5_ k) rfl rfl (F := F116_5 k) (fun _ => rfl) (fun _ _ => rfl) (n := k) fun _ _ _ => rfl
noncomputable def F116 (k : Nat) (v : mi116.den) : Option mo116.den := runF TI (O114 k) (L116 k) c116 mi116 mo116 v
theorem lk116 (k : Nat) : LinksOK Tryd.prog 33 (L116 k) c116 := (And.intro True.intro (And.intro True.intro (And.intro (And.intro True.intro (And.intro (And.intro True.intro True.intro) True.intro)) (And.intro (And.intro True.intro (lk_L116_5 k)) (And.intro True.intro True.intro)))))
theorem fn116 (k : Nat) (args : List AV) (x : mi116.den) (r : mo116.den) (h1 : args.length = mi116.items.length) (h2 : mi116.dec (Th.start args) = some x) (h3 : F116 k x = some r) : CallOK Tryd.prog 116 args (ansOf (outL mo116.items r)) :=
  call_of hm hT (ok_O114 k) (fn := Tryd.f116) (c := c116) Tryd.func116 rfl rfl rfl (lk116 k) rfl (by decide) rfl h1 h2 h3
noncomputable def O116 (k : Nat) : Orc := fun R f args K => bif Nat.beq f 116 then callF mi116 mo116 (F116 k) args K else O114 k R f args K
theorem ok_O116 (k : Nat) : OrcOK (O116 k) (CallOK Tryd.prog) := orc_add (fn116 k) (ok_O114 k)
noncomputable def c40 : Code := Tryd.f40.body.getD .skip
noncomputable def mi40 : Msk := ⟨[(.tmp 0, .val (.st (.cons .str (.cons (.slice (.st (.cons (.int .i64) (.cons .str .nil)))) .nil))))], []⟩
noncomputable def mo40 : Msk := ⟨[(.res 2, .val (.st (.cons (.int .i64) (.cons .str (.cons (.int .u64) (.cons (.int .u32) (.cons .str (.cons .str .nil)))))))), (.tmp 3, .val (.int .i64))], []⟩
noncomputable def L40 (k : Nat) : LOrc := fun _ _ _ _ => none
noncomputable def F40 (k : Nat) (v : mi40.den) : Option mo40.den := runF TI (O116 k) (L40 k) c40 mi40 mo40 v
theorem lk40 (k : Nat) : LinksOK Tryd.prog 84 (L40 k) c40 := (And.intro True.intro (And.intro (And.intro True.intro (And.intro (And.intro True.intro True.intro) True.intro)) (And.intro True.intro (And.intro True.intro (And.intro True.intro (And.intro True.intro (And.intro True.intro (And.intro (And.intro (And.intro True.intro (And.intro True.intro True.intro)) (And.intro (And.intro True.intro True.intro) (And.intro True.intro (And.intro (And.intro True.intro True.intro) (And.intro True.intro (And.intro (And.intro True.intro True.intro) True.intro)))))) (And.intro True.intro True.intro)))))))))
theorem fn40 (k : Nat) (args : List AV) (x : mi40.den) (r : mo40.den) (h1 : args.length = mi40.items.length) (h2 : mi40.dec (Th.start args) = some x) (h3 : F40 k x = some r) : CallOK Tryd.prog 40 args (ansOf (outL mo40.items r)) :=
  call_of hm hT (ok_O116 k) (fn := Tryd.f40) (c := c40) Tryd.func40 rfl rfl rfl (lk40 k) rfl (by decide) rfl h1 h2 h3
noncomputable def O40 (k : Nat) : Orc := fun R f args K => bif Nat.beq f 40 then callF mi40 mo40 (F40 k) args K else O116 k R f args K
theorem ok_O40 (k : Nat) : OrcOK (O40 k) (CallOK Tryd.prog) := orc_add (fn40 k) (ok_O116 k)
noncomputable def c6 : Code := Tryd.f6.body.getD .skip
noncomputable def mi6 : Msk := ⟨[(.tmp 0, .val (.st (.cons (.int .i64) (.cons .str (.cons (.int .u64) (.cons (.int .u32) (.cons .str (.cons .str .nil)))))))), (.tmp 1, .val (.st (.cons .str (.cons (.slice (.st (.cons (.int .i64) (.cons .str .nil)))) .nil)))), (.tmp 2, .val (.int .i64))], []⟩
noncomputable def mo6 : Msk := ⟨[(.tmp 6, .val .bool)], []⟩
noncomputable def L6 (k : Nat) : LOrc := fun _ _ _ _ => none
noncomputable def F6 (k : Nat) (v : mi6.den) : Option mo6.den := runF TI (O40 k) (L6 k) c6 mi6 mo6 v
theorem lk6 (k : Nat) : LinksOK Tryd.prog 88 (L6 k) c6 := (And.intro True.intro (And.intro (And.intro True.intro (And.intro (And.intro True.intro True.intro) True.intro)) (And.intro (And.intro True.intro (And.intro (And.intro True.intro True.intro) True.intro)) (And.intro True.intro (And.intro True.intro (And.intro (And.intro True.intro (And.intro (And.intro True.intro True.intro) True.intro)) (And.intro True.intro (And.intro True.intro (And.intro True.intro True.intro)))))))))
theorem fn6 (k : Nat) (args : List AV) (x : mi6.den) (r : mo6.den) (h1 : args.length = mi6.items.length) (h2 : mi6.dec (Th.start args) = some x) (h3 : F6 k x = some r) : CallOK Tryd.prog 6 args (ansOf (outL mo6.items r)) :=
  call_of hm hT (ok_O40 k) (fn := Tryd.f6) (c := c6) Tryd.func6 rfl rfl rfl (lk6 k) rfl (by decide) rfl h1 h2 h3
noncomputable def O6 (k : Nat) : Orc := fun R f args K => bif Nat.beq f 6 then callF mi6 mo6 (F6 k) args K else O40 k R f args K
theorem ok_O6 (k : Nat) : OrcOK (O6 k) (CallOK Tryd.prog) := orc_add (fn6 k) (ok_O40 k)
noncomputable def c7 : Code := Tryd.f7.body.getD .skip
noncomputable def mi7 : Msk := ⟨[(.tmp 0, .val (.st (.cons (.int .i64) (.cons .str (.cons (.int .u64) (.cons (.int .u32) (.cons .str (.cons .str .nil)))))))), (.tmp 1, .val (.st (.cons (.int .i64) (.cons .str (.cons (.int .u64) (.cons (.int .u32) (.cons .str (.cons .str .nil)))))))), (.tmp 2, .val (.st (.cons .str (.cons (.slice (.st (.cons (.int .i64) (.cons .str .nil)))) .nil))))], []⟩
noncomputable def mo7 : Msk := ⟨[(.tmp 6, .val .bool)], []⟩
noncomputable def L7 (k : Nat) : LOrc := fun _ _ _ _ => none
noncomputable def F7 (k : Nat) (v : mi7.den) : Option mo7.den := runF TI (O6 k) (L7 k) c7 mi7 mo7 v
theorem lk7 (k : Nat) : LinksOK Tryd.prog 100 (L7 k) c7 := (And.intro True.intro (And.intro (And.intro True.intro (And.intro (And.intro True.intro True.intro) True.intro)) (And.intro (And.intro True.intro (And.intro (And.intro True.intro True.intro) True.intro)) (And.intro True.intro (And.intro True.intro (And.intro (And.intro True.intro (And.intro (And.intro True.intro (And.intro True.intro (And.intro (And.intro True.intro True.intro) True.intro))) True.intro)) (And.intro True.intro (And.intro (And.intro True.intro (And.intro (And.intro True.intro True.intro) True.intro)) (And.intro True.intro (And.intro True.intro True.intro))))))))))
theorem fn7 (k : Nat) (args : List AV) (x : mi7.den) (r : mo7.den) (h1 : args.length = mi7.items.length) (h2 : mi7.dec (Th.start args) = some x) (h3 : F7 k x = some r) : CallOK Tryd.prog 7 args (ansOf (outL mo7.items r)) :=
  call_of hm hT (ok_O6 k) (fn := Tryd.f7) (c := c7) Tryd.func7 rfl rfl rfl (lk7 k) rfl (by decide) rfl h1 h2 h3
noncomputable def O7 (k : Nat) : Orc := fun R f args K => bif Nat.beq f 7 then callF mi7 mo7 (F7 k) args K else O6 k R f args K
theorem ok_O7 (k : Nat) : OrcOK (O7 k) (CallOK Tryd.prog) := orc_add (fn7 k) (ok_O6 k)
noncomputable def c128 : Code := Tryd.f128.body.getD .skip
noncomputable def mi128 : Msk := ⟨[(.tmp 0, .val (.int .i64))], []⟩
noncomputable def mo128 : Msk := ⟨[(.tmp 2, .val (.int .i64))], []⟩
noncomputable def L128 (k : Nat) : LOrc := fun _ _ _ _ => none
noncomputable def F128 (k : Nat) (v : mi128.den) : Option mo128.den := runF TI (O7 k) (L128 k) c128 mi128 mo128 v
theorem lk128 (k : Nat) : LinksOK Tryd.prog 12 (L128 k) c128 := (And.intro True.intro (And.intro (And.intro True.intro (And.intro True.intro (And.intro (And.intro True.intro True.intro) (And.intro True.intro (And.intro (And.intro True.intro True.intro) (And.intro True.intro (And.intro (And.intro True.intro True.intro) (And.intro True.intro (And.intro (And.intro True.intro True.intro) True.intro))))))))) (And.intro True.intro True.intro)))
theorem fn128 (k : Nat) (args : List AV) (x : mi128.den) (r : mo128.den) (h1 : args.length = mi128.items.length) (h2 : mi128.dec (Th.start args) = some x) (h3 : F128 k x = some r) : CallOK Tryd.prog 128 args (ansOf (outL mo128.items r)) :=
  call_of hm hT (ok_O7 k) (fn := Tryd.f128) (c := c128) Tryd.func128 rfl rfl rfl (lk128 k) rfl (by decide) rfl h1 h2 h3
noncomputable def O128 (k : Nat) : Orc := fun R f args K => bif Nat.beq f 128 then callF mi128 mo128 (F128 k) args K else O7 k R f args K
theorem ok_O128 (k : Nat) : OrcOK (O128 k) (CallOK Tryd.prog) := orc_add (fn128 k) (ok_O7 k)
noncomputable def c49 : Code := Tryd.f49.body.getD .skip
noncomputable def mi49 : Msk := ⟨[(.tmp 0, .val (.st (.cons (.int .i64) (.cons (.st (.cons (.int .i64) (.cons .str (.cons (.int .u64) (.cons (.int .u32) (.cons .str (.cons .str .nil))))))) .nil))))], []⟩
noncomputable def mo49 : Msk := ⟨[(.tmp 2, .val .bool)], []⟩
noncomputable def L49 (k : Nat) : LOrc := fun _ _ _ _ => none
noncomputable def F49 (k : Nat) (v : mi49.den) : Option mo49.den := runF TI (O128 k) (L49 k) c49 mi49 mo49 v
theorem lk49 (k : Nat) : LinksOK Tryd.prog 40 (L49 k) c49 := (And.intro True.intro (And.intro (And.intro True.intro (And.intro (And.intro True.intro True.intro) True.intro)) (And.intro True.intro True.intro)))
theorem fn49 (k : Nat) (args : List AV) (x : mi49.den) (r : mo49.den) (h1 : args.length = mi49.items.length) (h2 : mi49.dec (Th.start args) = some x) (h3 : F49 k x = some r) : CallOK Tryd.prog 49 args (ansOf (outL mo49.items r)) :=
  call_of hm hT (ok_O128 k) (fn := Tryd.f49) (c := c49) Tryd.func49 rfl rfl rfl (lk49 k) rfl (by decide) rfl h1 h2 h3
noncomputable def O49 (k : Nat) : Orc := fun R f args K => bif Nat.beq f 49 then callF mi49 mo49 (F49 k) args K else O128 k R f args K
theorem ok_O49 (k : Nat) : OrcOK (O49 k) (CallOK Tryd.prog) := orc_add (fn49 k) (ok_O128 k)
noncomputable def c8 : Code := Tryd.f8.body.getD .skip
noncomputable def mi8 : Msk := ⟨[(.tmp 0, .val (.st (.cons (.st (.cons (.int .u32) (.cons .str .nil))) (.cons (.int .i64) (.cons .str (.cons (.int .u64) (.cons .str (.cons (.int .i64) (.cons (.int .i64) .nil))))))))), (.tmp 1, .val (.st (.cons (.int .i64) (.cons (.st (.cons (.int .i64) (.cons .str (.cons (.int .u64) (.cons (.int .u32) (.cons .str (.cons .str .nil))))))) .nil)))), (.tmp 2, .val (.int .i64)), (.tmp 3, .val (.int .i64))], []⟩
noncomputable def mo8 : Msk := ⟨[(.tmp 8, .val .bool)], []⟩
noncomputable def L8 (k : Nat) : LOrc := fun _ _ _ _ => none
noncomputable def F8 (k : Nat) (v : mi8.den) : Option mo8.den := runF TI (O49 k) (L8 k) c8 mi8 mo8 v
theorem lk8 (k : Nat) : LinksOK Tryd.prog 84 (L8 k) c8 := (And.intro True.intro (And.intro (And.intro True.intro (And.intro (And.intro True.intro True.intro) True.intro)) (And.intro (And.intro True.intro (And.intro (And.intro True.intro True.intro) True.intro)) (And.intro True.intro (And.intro True.intro (And.intro True.intro (And.intro True.intro True.intro)))))))
theorem fn8 (k : Nat) (args : List AV) (x : mi8.den) (r : mo8.den) (h1 : args.length = mi8.items.length) (h2 : mi8.dec (Th.start args) = some x) (h3 : F8 k x = some r) : CallOK Tryd.prog 8 args (ansOf (outL mo8.items r)) :=
  call_of hm hT (ok_O49 k) (fn := Tryd.f8) (c := c8) Tryd.func8 rfl rfl rfl (lk8 k) rfl (by decide) rfl h1 h2 h3
noncomputable def O8 (k : Nat) : Orc := fun R f args K => bif Nat.beq f 8 then callF mi8 mo8 (F8 k) args K else O49 k R f args K
theorem ok_O8 (k : Nat) : OrcOK (O8 k) (CallOK Tryd.prog) := orc_add (fn8 k) (ok_O49 k)
noncomputable def c9 : Code := Tryd.f9.body.getD .skip
noncomputable def mi9 : Msk := ⟨[(.tmp 0, .val (.st (.cons (.st (.cons (.int .u32) (.cons .str .nil))) (.cons (.int .i64) (.cons .str (.cons (.int .u64) (.cons .str (.cons (.int .i64) (.cons (.int .i64) .nil))))))))), (.tmp 1, .val (.st (.cons (.int .i64) (.cons (.st (.cons (.int .i64) (.cons .str (.cons (.int .u64) (.cons (.int .u32) (.cons .str (.cons .str .nil))))))) .nil)))), (.tmp 2, .val (.int .i64))], []⟩
noncomputable def mo9 : Msk := ⟨[(.tmp 6, .val .bool)], []⟩
noncomputable def L9_12 (k : Nat) : LOrc := fun _ _ _ _ => none
noncomputable def b9_12 : Code := (findLoop 12 c9).getD .skip
noncomputable def m9_12 : Msk := ⟨[(.tmp 3, .ptr 3 0), (.tmp 4, .ptr 4 0), (.tmp 7, .ptr 7 0), (.tmp 10, .val (.int .i64)), (.cell 3 0, .val (.int .u32)), (.cell 3 1, .val .str), (.cell 3 2, .val (.int .i64)), (.cell 3 3, .val .str), (.cell 3 4, .val (.int .u64)), (.cell 3 5, .val .str), (.cell 3 6, .val (.int .i64)), (.cell 3 7, .val (.int .i64)), (.cell 4 0, .val (.int .i64)), (.cell 4 1, .val (.int .i64)), (.cell 4 2, .val .str), (.cell 4 3, .val (.int .u64)), (.cell 4 4, .val (.int .u32)), (.cell 4 5, .val .str), (.cell 4 6, .val .str), (.cell 7 0, .val (.int .u32)), (.cell 7 1, .val .str), (.cell 7 2, .val (.int .i64)), (.cell 7 3, .val .str), (.cell 7 4, .val (.int .u64)), (.cell 7 5, .val .str), (.cell 7 6, .val (.int .i64)), (.cell 7 7, .val (.int .i64)), (.cell 7 8, .val (.slice (.st (.cons (.int .i64) (.cons .str (.cons (.int .u64) (.cons (.int .u32) (.cons .str (.cons .str .nil))))))))), (.cell 7 9, .val (.slice (.st (.cons (.int .i64) (.cons .str (.cons (.int .u64) (.cons (.int .u32) (.cons .str (.cons .str .nil))))))))), (.cell 7 10, .val (.int .i64)), (.cell 7 11, .val .bool)], [(3, 8), (4, 7), (7, 12)]⟩
noncomputable def x9_12 : List (X × Msk) := [(.exit 0, ⟨[(.tmp 3, .ptr 3 0), (.tmp 4, .ptr 4 0), (.tmp 7, .ptr 7 0), (.cell 3 0, .val (.int .u32)), (.cell 3 1, .val .str), (.cell 3 2, .val (.int .i64)), (.cell 3 3, .val .str), (.cell 3 4, .val (.int .u64)), (.cell 3 5, .val .str), (.cell 3 6, .val (.int .i64)), (.cell 3 7, .val (.int .i64)), (.cell 4 0, .val (.int .i64)), (.cell 4 1, .val (.int .i64)), (.cell 4 2, .val .str), (.cell 4 3, .val (.int .u64)), (.cell 4 4, .val (.int .u32)), (.cell 4 5, .val .str), (.cell 4 6, .val .str), (.cell 7 0, .val (.int .u32)), (.cell 7 1, .val .str), (.cell 7 2, .val (.int .i64)), (.cell 7 3, .val .str), (.cell 7 4, .val (.int .u64)), (.cell 7 5, .val .str), (.cell 7 6, .val (.int .i64)), (.cell 7 7, .val (.int .i64)), (.cell 7 8, .val (.slice (.st (.cons (.int .i64) (.cons .str (.cons (.int .u64) (.cons (.int .u32) (.cons .str (.cons .str .nil))))))))), (.cell 7 9, .val (.slice (.st (.cons (.int .i64) (.cons .str (.cons (.int .u64) (.cons (.int .u32) (.cons .str (.cons .str .nil))))))))), (.cell 7 10, .val (.int .i64)), (.cell 7 11, .val .bool)], [(3, 8), (4, 7), (7, 12)]⟩), (.ret, ⟨[(.tmp 6, .val .bool)], []⟩)]
noncomputable def F9_12 (k : Nat) : Nat → m9_12.den → Option (denE x9_12)
  | 0, _ => none
  | j + 1, v => round TI (O8 k) (L9_12 k) b9_12 m9_12 x9_12 (F9_12 k j) v
theorem lk9_12_ (k : Nat) : LinksOK Tryd.prog 222 (L9_12 k) b9_12 := (And.intro (And.intro True.intro (And.intro True.intro True.intro)) (And.intro (And.intro True.intro (And.intro True.intro (And.intro (And.intro True.intro True.intro) True.intro))) True.intro))
noncomputable def L9_18 (k : Nat) : LOrc := fun _ _ _ _ => none
noncomputable def b9_18 : Code := (findLoop 18 c9).getD .skip
noncomputable def m9_18 : Msk := ⟨[(.tmp 3, .ptr 3 0), (.tmp 4, .ptr 4 0), (.tmp 7, .ptr 7 0), (.tmp 12, .val (.int .i64)), (.cell 3 0, .val (.int .u32)), (.cell 3 1, .val .str), (.cell 3 2, .val (.int .i64)), (.cell 3 3, .val .str), (.cell 3 4, .val (.int .u64)), (.cell 3 5, .val .str), (.cell 3 6, .val (.int .i64)), (.cell 3 7, .val (.int .i64)), (.cell 4 0, .val (.int .i64)), (.cell 4 1, .val (.int .i64)), (.cell 4 2, .val .str), (.cell 4 3, .val (.int .u64)), (.cell 4 4, .val (.int .u32)), (.cell 4 5, .val .str), (.cell 4 6, .val .str), (.cell 7 0, .val (.int .u32)), (.cell 7 1, .val .str), (.cell 7 2, .val (.int .i64)), (.cell 7 3, .val .str), (.cell 7 4, .val (.int .u64)), (.cell 7 5, .val .str), (.cell 7 6, .val (.int .i64)), (.cell 7 7, .val (.int .i64)), (.cell 7 8, .val (.slice (.st (.cons (.int .i64) (.cons .str (.cons (.int .u64) (.cons (.int .u32) (.cons .str (.cons .str .nil))))))))), (.cell 7 9, .val (.slice (.st (.cons (.int .i64) (.cons .str (.cons (.int .u64) (.cons (.int .u32) (.cons .str (.cons .str .nil))))))))), (.cell 7 10, .val (.int .i64)), (.cell 7 11, .val .bool)], [(3, 8), (4, 7), (7, 12)]⟩
noncomputable def x9_18 : List (X × Msk) := [(.exit 2, ⟨[(.tmp 3, .ptr 3 0), (.tmp 7, .ptr 7 0), (.cell 3 0, .val (.int .u32)), (.cell 3 1, .val .str), (.cell 3 2, .val (.int .i64)), (.cell 3 3, .val .str), (.cell 3 4, .val (.int .u64)), (.cell 3 5, .val .str), (.cell 3 6, .val (.int .i64)), (.cell 3 7, .val (.int .i64)), (.cell 7 0, .val (.int .u32)), (.cell 7 1, .val .str), (.cell 7 2, .val (.int .i64)), (.cell 7 3, .val .str), (.cell 7 4, .val (.int .u64)), (.cell 7 5, .val .str), (.cell 7 6, .val (.int .i64)), (.cell 7 7, .val (.int .i64)), (.cell 7 8, .val (.slice (.st (.cons (.int .i64) (.cons .str (.cons (.int .u64) (.cons (.int .u32) (.cons .str (.cons .str .nil))))))))), (.cell 7 9, .val (.slice (.st (.cons (.int .i64) (.cons .str (.cons (.int .u64) (.cons (.int .u32) (.cons .str (.cons .str .nil))))))))), (.cell 7 10, .val (.int .i64)), (.cell 7 11, .val .bool)], [(3, 8), (7, 12)]⟩), (.ret, ⟨[(.tmp 6, .val .bool)], []⟩)]
noncomputable def F9_18 (k : Nat) : Nat → m9_18.den → Option (denE x9_18)
  | 0, _ => none
  | j + 1, v => round TI (O8 k) (L9_18 k) b9_18 m9_18 x9_18 (F9_18 k j) v
theorem lk9_18_ (k : Nat) : LinksOK Tryd.prog 222 (L9_18 k) b9_18 := (And.intro (And.intro True.intro (And.intro True.intro True.intro)) (And.intro (And.intro True.intro (And.intro True.intro (And.intro (And.intro True.intro True.intro) True.intro))) True.intro))
noncomputable def L9 (k : Nat) : LOrc := fun R lk s K => match lk with
  | .loop r => bif Nat.beq r 12 then link m9_12 x9_12 (F9_12 k k) s K else bif Nat.beq r 18 then link m9_18 x9_18 (F9_18 k k) s K else none
  | .label l => none
theorem lk_L9_12 (k : Nat) : LoopOK Tryd.prog 222 (L9 k) b9_12 := loopOK_of hm hT (ok_O8 k) (fun _ _ _ h => h) rfl (lk9_12_ k) rfl rfl (F := F9_12 k) (fun _ => rfl) (fun _ _ => rfl) (n := k) fun _ _ _ => rfl
theorem lk_L9_18 (k : Nat) : LoopOK Tryd.prog 222 (L9 k) b9_18 := loopOK_of hm hT (ok_O8 k) (fun _ _ _ h => h) rfl (lk9_18_ k) rfl rfl (F := F9_18 k) (fun _ => rfl) (fun _ _ => rfl) (n := k) fun _ _ _ => rfl
noncomputable def F9 (k : Nat) (v : mi9.den) : Option mo9.den := runF TI (O8 k) (L9 k) c9 mi9 mo9 v
theorem lk9 (k : Nat) : LinksOK Tryd.prog 222 (L9 k) c9 := (And.intro True.intro (And.intro (And.intro True.intro (And.intro (And.intro True.intro True.intro) True.intro)) (And.intro (And.intro True.intro (And.intro (And.intro True.intro True.intro) True.intro)) (And.intro True.intro (And.intro (And.intro True.intro (And.intro (And.intro True.intro True.intro) True.intro)) (And.intro True.intro (And.intro (And.intro True.intro (And.intro (And.intro True.intro True.intro) True.intro)) (And.intro (And.intro True.intro (lk_L9_12 k)) (And.intro (And.intro True.intro (lk_L9_18 k)) (And.intro True.intro True.intro))))))))))
theorem fn9 (k : Nat) (args : List AV) (x : mi9.den) (r : mo9.den) (h1 : args.length = mi9.items.length) (h2 : mi9.dec (Th.start args) = some x) (h3 : F9 k x = some r) : CallOK Tryd.prog 9 args (ansOf (outL mo9.items r)) :=
  call_of hm hT (ok_O8 k) (fn := Tryd.f9) (c := c9) Tryd.func9 rfl rfl rfl (lk9 k) rfl (by decide) rfl h1 h2 h3
noncomputable def O9 (k : Nat) : Orc := fun R f args K => bif Nat.beq f 9 then callF mi9 mo9 (F9 k) args K else O8 k R f args K
theorem ok_O9 (k : Nat) : OrcOK (O9 k) (CallOK Tryd.prog) := orc_add (fn9 k) (ok_O8 k)
noncomputable def c213 : Code := Tryd.f213.body.getD .skip
noncomputable def mi213 : Msk := ⟨[(.tmp 0, .ptr 900 0), (.tmp 1, .val (.int .i64)), (.cell 900 0, .val (.int .u64)), (.cell 900 1, .val (.int .u64))], [(900, 2)]⟩
noncomputable def mo213 : List Msk := [⟨[(.tmp 4, .ptr 900 0), (.tmp 5, .val (.int .u64)), (.cell 900 0, .val (.int .u64)), (.cell 900 1, .val (.int .u64))], [(900, 2)]⟩, ⟨[(.tmp 4, .ptr 900 1), (.tmp 5, .val (.int .u64)), (.cell 900 0, .val (.int .u64)), (.cell 900 1, .val (.int .u64))], [(900, 2)]⟩]
noncomputable def L213 (k : Nat) : LOrc := fun _ _ _ _ => none
noncomputable def F213 (k : Nat) (v : mi213.den) : Option (denA mo213) := runA TI (O9 k) (L213 k) c213 mi213 mo213 v
theorem lk213 (k : Nat) : LinksOK Tryd.prog 21 (L213 k) c213 := (And.intro True.intro (And.intro (And.intro True.intro (And.intro (And.intro True.intro True.intro) True.intro)) (And.intro True.intro True.intro)))
theorem fn213 (k : Nat) (vs cs : List AV) (x : mi213.den) (r : denA mo213) (h1 : vs.length = 2) (h2 : mi213.dec (startL vs cs) = some x) (h3 : F213 k x = some r) : CallOK Tryd.prog 213 (vs ++ [.lent cs]) (valB 2 mo213 r) :=
  call_ofL hm hT (ok_O9 k) (fn := Tryd.f213) (c := c213) Tryd.func213 rfl rfl rfl (lk213 k) rfl (by decide) (by decide) rfl h1 h2 h3
noncomputable def O213 (k : Nat) : Orc := fun R f args K => bif Nat.beq f 213 then callB mi213 2 2 mo213 (F213 k) args K else O9 k R f args K
theorem ok_O213 (k : Nat) : OrcOK (O213 k) (CallOK Tryd.prog) := orc_addL (fn213 k) (ok_O9 k)
noncomputable def c214 : Code := Tryd.f214.body.getD .skip
noncomputable def mi214 : Msk := ⟨[(.tmp 0, .val (.st (.cons (.int .u64) (.cons (.int .u64) .nil)))), (.tmp 1, .val (.int .i64))], []⟩
noncomputable def mo214 : Msk := ⟨[(.tmp 4, .val .bool)], []⟩
noncomputable def L214 (k : Nat) : LOrc := fun _ _ _ _ => none
noncomputable def F214 (k : Nat) (v : mi214.den) : Option mo214.den := runF TI (O213 k) (L214 k) c214 mi214 mo214 v
theorem lk214 (k : Nat) : LinksOK Tryd.prog 18 (L214 k) c214 := (And.intro True.intro (And.intro True.intro (And.intro True.intro True.intro)))
theorem fn214 (k : Nat) (args : List AV) (x : mi214.den) (r : mo214.den) (h1 : args.length = mi214.items.length) (h2 : mi214.dec (Th.start args) = some x) (h3 : F214 k x = some r) : CallOK Tryd.prog 214 args (ansOf (outL mo214.items r)) :=
  call_of hm hT (ok_O213 k) (fn := Tryd.f214) (c := c214) Tryd.func214 rfl rfl rfl (lk214 k) rfl (by decide) rfl h1 h2 h3
noncomputable def O214 (k : Nat) : Orc := fun R f args K => bif Nat.beq f 214 then callF mi214 mo214 (F214 k) args K else O213 k R f args K
theorem ok_O214 (k : Nat) : OrcOK (O214 k) (CallOK Tryd.prog) := orc_add (fn214 k) (ok_O213 k)
noncomputable def c190 : Code := Tryd.f190.body.getD .skip
noncomputable def mi190 : Msk := ⟨[(.tmp 0, .val (.st (.cons (.int .u64) (.cons (.int .u64) .nil))))], []⟩
noncomputable def mo190 : Msk := ⟨[(.tmp 2, .val .bool)], []⟩
noncomputable def L190 (k : Nat) : LOrc := fun _ _ _ _ => none
noncomputable def F190 (k : Nat) (v : mi190.den) : Option mo190.den := runF TI (O214 k) (L190 k) c190 mi190 mo190 v
theorem lk190 (k : Nat) : LinksOK Tryd.prog 14 (L190 k) c190 := (And.intro True.intro (And.intro True.intro True.intro))
theorem fn190 (k : Nat) (args : List AV) (x : mi190.den) (r : mo190.den) (h1 : args.length = mi190.items.length) (h2 : mi190.dec (Th.start args) = some x) (h3 : F190 k x = some r) : CallOK Tryd.prog 190 args (ansOf (outL mo190.items r)) :=
  call_of hm hT (ok_O214 k) (fn := Tryd.f190) (c := c190) Tryd.func190 rfl rfl rfl (lk190 k) rfl (by decide) rfl h1 h2 h3
noncomputable def O190 (k : Nat) : Orc := fun R f args K => bif Nat.beq f 190 then callF mi190 mo190 (F190 k) args K else O214 k R f args K
theorem ok_O190 (k : Nat) : OrcOK (O190 k) (CallOK Tryd.prog) := orc_add (fn190 k) (ok_O214 k)
noncomputable def c212 : Code := Tryd.f212.body.getD .skip
noncomputable def mi212 : Msk := ⟨[(.tmp 0, .val (.int .i64))], []⟩
noncomputable def mo212 : Msk := ⟨[(.tmp 2, .val .bool)], []⟩
noncomputable def L212 (k : Nat) : LOrc := fun _ _ _ _ => none
noncomputable def F212 (k : Nat) (v : mi212.den) : Option mo212.den := runF TI (O190 k) (L212 k) c212 mi212 mo212 v
theorem lk212 (k : Nat) : LinksOK Tryd.prog 13 (L212 k) c212 := (And.intro True.intro (And.intro True.intro True.intro))
theorem fn212 (k : Nat) (args : List AV) (x : mi212.den) (r : mo212.den) (h1 : args.length = mi212.items.length) (h2 : mi212.dec (Th.start args) = some x) (h3 : F212 k x = some r) : CallOK Tryd.prog 212 args (ansOf (outL mo212.items r)) :=
  call_of hm hT (ok_O190 k) (fn := Tryd.f212) (c := c212) Tryd.func212 rfl rfl rfl (lk212 k) rfl (by decide) rfl h1 h2 h3
noncomputable def O212 (k : Nat) : Orc := fun R f args K => bif Nat.beq f 212 then callF mi212 mo212 (F212 k) args K else O190 k R f args K
theorem ok_O212 (k : Nat) : OrcOK (O212 k) (CallOK Tryd.prog) := orc_add (fn212 k) (ok_O190 k)
noncomputable def c189 : Code := Tryd.f189.body.getD .skip
noncomputable def mi189 : Msk := ⟨[(.tmp 0, .val (.st (.cons (.int .u64) (.cons (.int .u64) .nil)))), (.tmp 1, .val (.int .i64))], []⟩
noncomputable def mo189 : Msk := ⟨[(.res 4, .val (.st (.cons (.int .u64) (.cons (.int .u64) .nil)))), (.tmp 5, .val (.int .i64))], []⟩
noncomputable def L189 (k : Nat) : LOrc := fun _ _ _ _ => none
noncomputable def F189 (k : Nat) (v : mi189.den) : Option mo189.den := runF TI (O212 k) (L189 k) c189 mi189 mo189 v
theorem lk189 (k : Nat) : LinksOK Tryd.prog 36 (L189 k) c189 := (And.intro True.intro (And.intro (And.intro True.intro (And.intro (And.intro True.intro True.intro) True.intro)) (And.intro True.intro (And.intro True.intro (And.intro (And.intro True.intro (And.intro True.intro True.intro)) (And.intro True.intro True.intro))))))
theorem fn189 (k : Nat) (args : List AV) (x : mi189.den) (r : mo189.den) (h1 : args.length = mi189.items.length) (h2 : mi189.dec (Th.start args) = some x) (h3 : F189 k x = some r) : CallOK Tryd.prog 189 args (ansOf (outL mo189.items r)) :=
  call_of hm hT (ok_O212 k) (fn := Tryd.f189) (c := c189) Tryd.func189 rfl rfl rfl (lk189 k) rfl (by decide) rfl h1 h2 h3
noncomputable def O189 (k : Nat) : Orc := fun R f args K => bif Nat.beq f 189 then callF mi189 mo189 (F189 k) args K else O212 k R f args K
theorem ok_O189 (k : Nat) : OrcOK (O189 k) (CallOK Tryd.prog) := orc_add (fn189 k) (ok_O212 k)
noncomputable def c140 : Code := Tryd.f140.body.getD .skip
noncomputable def mi140 : Msk := ⟨[(.tmp 0, .val (.slice (.int .i64)))], []⟩
noncomputable def mo140 : Msk := ⟨[(.res 2, .val (.st (.cons (.int .u64) (.cons (.int .u64) .nil)))), (.tmp 3, .val (.int .i64))], []⟩
noncomputable def L140_3 (k : Nat) : LOrc := fun _ _ _ _ => none
noncomputable def b140_3 : Code := (findLoop 3 c140).getD .skip
noncomputable def m140_3 : Msk := ⟨[(.tmp 2, .ptr 2 0), (.tmp 4, .ptr 4 0), (.tmp 9, .val (.slice (.int .i64))), (.tmp 10, .val (.int .i64)), (.tmp 11, .val (.int .i64)), (.cell 2 0, .val (.int .u64)), (.cell 2 1, .val (.int .u64)), (.cell 4 0, .val (.int .u64)), (.cell 4 1, .val (.int .u64))], [(2, 2), (4, 2)]⟩
noncomputable def x140_3 : List (X × Msk) := [(.exit 0, ⟨[(.tmp 2, .ptr 2 0), (.tmp 4, .ptr 4 0), (.cell 2 0, .val (.int .u64)), (.cell 2 1, .val (.int .u64)), (.cell 4 0, .val (.int .u64)), (.cell 4 1, .val (.int .u64))], [(2, 2), (4, 2)]⟩), (.ret, ⟨[(.tmp 2, .ptr 2 0), (.tmp 3, .val (.int .i64)), (.cell 2 0, .val (.int .u64)), (.cell 2 1, .val (.int .u64))], [(2, 2)]⟩)]
noncomputable def F140_3 (k : Nat) : Nat → m140_3.den → Option (denE x140_3)
  | 0, _ => none
  | j + 1, v => round TI (O189 k) (L140_3 k) b140_3 m140_3 x140_3 (F140_3 k j) v
theorem lk140_3_ (k : Nat) : LinksOK Tryd.prog 28 (L140_3 k) b140_3 := (And.intro True.intro (And.intro (And.intro True.intro True.intro) (And.intro (And.intro True.intro (And.intro True.intro (And.intro (And.intro True.intro (And.intro (And.intro True.intro True.intro) True.intro)) True.intro))) True.intro)))
noncomputable def L140 (k : Nat) : LOrc := fun R lk s K => match lk with
  | .loop r => bif Nat.beq r 3 then link m140_3 x140_3 (F140_3 k k) s K else none
  | .label l => none
theorem lk_L140_3 (k : Nat) : LoopOK Tryd.prog 28 (L140 k) b140_3 := loopOK_of hm hT (ok_O189 k) (fun _ _ _ h => h) rfl (lk140_3_ k) rfl rfl (F := F140_3 k) (fun _ => rfl) (fun _ _ => rfl) (n := k) fun _ _ _ => rfl
noncomputable def F140 (k : Nat) (v : mi140.den) : Option mo140.den := runF TI (O189 k) (L140 k) c140 mi140 mo140 v
theorem lk140 (k : Nat) : LinksOK Tryd.prog 28 (L140 k) c140 := (And.intro True.intro (And.intro True.intro (And.intro (And.intro True.intro (lk_L140_3 k)) (And.intro True.intro True.intro))))
theorem fn140 (k : Nat) (args : List AV) (x : mi140.den) (r : mo140.den) (h1 : args.length = mi140.items.length) (h2 : mi140.dec (Th.start args) = some x) (h3 : F140 k x = some r) : CallOK Tryd.prog 140 args (ansOf (outL mo140.items r)) :=
  call_of hm hT (ok_O189 k) (fn := Tryd.f140) (c := c140) Tryd.func140 rfl rfl rfl (lk140 k) rfl (by decide) rfl h1 h2 h3
noncomputable def O140 (k : Nat) : Orc := fun R f args K => bif Nat.beq f 140 then callF mi140 mo140 (F140 k) args K else O189 k R f args K
theorem ok_O140 (k : Nat) : OrcOK (O140 k) (CallOK Tryd.prog) := orc_add (fn140 k) (ok_O189 k)
noncomputable def c191 : Code := Tryd.f191.body.getD .skip
noncomputable def mi191 : Msk := ⟨[(.tmp 0, .row false (.int .u8)), (.tmp 1, .val (.int .u64))], []⟩
noncomputable def mo191 : Msk := ⟨[(.tmp 4, .row false (.int .u8))], []⟩
noncomputable def L191_2 (k : Nat) : LOrc := fun _ _ _ _ => none
noncomputable def b191_2 : Code := (findLoop 2 c191).getD .skip
noncomputable def m191_2 : Msk := ⟨[(.tmp 0, .row false (.int .u8)), (.tmp 1, .val (.int .u64)), (.tmp 6, .val (.int .i64))], []⟩
noncomputable def x191_2 : List (X × Msk) := [(.exit 0, ⟨[(.tmp 0, .row false (.int .u8))], []⟩)]
noncomputable def F191_2 (k : Nat) : Nat → m191_2.den → Option (denE x191_2)
  | 0, _ => none
  | j + 1, v => round TI (O140 k) (L191_2 k) b191_2 m191_2 x191_2 (F191_2 k j) v
theorem lk191_2_ (k : Nat) : LinksOK Tryd.prog 21 (L191_2 k) b191_2 := (And.intro True.intro (And.intro (And.intro True.intro True.intro) (And.intro (And.intro True.intro True.intro) True.intro)))
noncomputable def L191 (k : Nat) : LOrc := fun R lk s K => match lk with
  | .loop r => bif Nat.beq r 2 then link m191_2 x191_2 (F191_2 k k) s K else none
  | .label l => none
theorem lk_L191_2 (k : Nat) : LoopOK Tryd.prog 21 (L191 k) b191_2 := loopOK_of hm hT (ok_O140 k) (fun _ _ _ h => h) rfl (lk191_2_ k) rfl rfl (F := F191_2 k) (fun _ => rfl) (fun _ _ => rfl) (n := k) fun _ _ _ => rfl
noncomputable def F191 (k : Nat) (v : mi191.den) : Option mo191.den := runF TI (O140 k) (L191 k) c191 mi191 mo191 v
theorem lk191 (k : Nat) : LinksOK Tryd.prog 21 (L191 k) c191 := (And.intro True.intro (And.intro (And.intro True.intro (lk_L191_2 k)) (And.intro True.intro True.intro)))
theorem fn191 (k : Nat) (a0 : AV) (rest : List AV) (x : mi191.den) (r : mo191.den) (h1 : (a0 :: rest).length = mi191.items.length) (h2 : mi191.dec (startE a0 rest) = some x) (h3 : F191 k x = some r) : CallOK Tryd.prog 191 (a0 :: rest) (.back (ansOf (outL mo191.items r)) [.lent []]) :=
  call_ofE hm hT (ok_O140 k) (fn := Tryd.f191) (c := c191) Tryd.func191 rfl rfl rfl (lk191 k) rfl (by decide) rfl h1 h2 h3
noncomputable def O191 (k : Nat) : Orc := fun R f args K => bif Nat.beq f 191 then callE mi191 mo191 (F191 k) args K else O140 k R f args K
theorem ok_O191 (k : Nat) : OrcOK (O191 k) (CallOK Tryd.prog) := orc_addE (fn191 k) (ok_O140 k)
noncomputable def c141 : Code := Tryd.f141.body.getD .skip
noncomputable def mi141 : Msk := ⟨[(.tmp 0, .val (.st (.cons (.int .u64) (.cons (.int .u64) .nil))))], []⟩
noncomputable def mo141 : Msk := ⟨[(.tmp 2, .row false (.int .u8)), (.tmp 3, .val (.int .i64))], []⟩
noncomputable def L141 (k : Nat) : LOrc := fun _ _ _ _ => none
noncomputable def F141 (k : Nat) (v : mi141.den) : Option mo141.den := runF TI (O191 k) (L141 k) c141 mi141 mo141 v
theorem lk141 (k : Nat) : LinksOK Tryd.prog 19 (L141 k) c141 := (And.intro True.intro (And.intro (And.intro True.intro (And.intro (And.intro True.intro True.intro) True.intro)) (And.intro True.intro (And.intro (And.intro True.intro (And.intro True.intro True.intro)) (And.intro True.intro True.intro)))))
theorem fn141 (k : Nat) (args : List AV) (x : mi141.den) (r : mo141.den) (h1 : args.length = mi141.items.length) (h2 : mi141.dec (Th.start args) = some x) (h3 : F141 k x = some r) : CallOK Tryd.prog 141 args (ansOf (outL mo141.items r)) :=
  call_of hm hT (ok_O191 k) (fn := Tryd.f141) (c := c141) Tryd.func141 rfl rfl rfl (lk141 k) rfl (by decide) rfl h1 h2 h3
noncomputable def O141 (k : Nat) : Orc := fun R f args K => bif Nat.beq f 141 then callF mi141 mo141 (F141 k) args K else O191 k R f args K
theorem ok_O141 (k : Nat) : OrcOK (O141 k) (CallOK Tryd.prog) := orc_add (fn141 k) (ok_O191 k)
noncomputable def F192 (k : Nat) (v : Int × Unit) : Option (List (Ty.den (.int .u8)) × Unit) := sel (decide (0 ≤ v.1)) (sel (decide (v.1 * 1 ≤ 140737488355328)) (some ([], ())) none) none
noncomputable def O192 (k : Nat) : Orc := fun R f args K => bif Nat.beq f 192 then (match args with | [.nilsl, .int .i64 n] => ocall (F192 k (n, ())) fun r => K (.own (.int .u8) r.1) | _ => none) else O141 k R f args K
theorem ok_O192 (k : Nat) : OrcOK (O192 k) (CallOK Tryd.prog) := by
  intro R f args K r h
  unfold O192 at h
  cases hb : Nat.beq f 192 with
  | false => rw [hb] at h; exact ok_O141 k R f args K r h
  | true =>
    rw [hb] at h
    rw [Nat.eq_of_beq_eq_true hb]
    simp only [cond_true] at h
    split at h
    · rename_i m
      unfold F192 at h
      by_cases h0 : 0 ≤ m
      · rw [sel_pos h0] at h
        by_cases h1 : m * 1 ≤ 140737488355328
        · rw [sel_pos h1] at h
          obtain ⟨ti, d, z, E⟩ := hT.get (t := 5) (i := ⟨.int .u8, 1, 1, (.int .u8), [.int .u8 0], [], [], true, false, [], []⟩) rfl
          exact ⟨_, Grow192.calls E (by decide) m h0 h1 (by omega), h⟩
        · rw [sel_neg h1] at h; cases h
      · rw [sel_neg h0] at h; cases h
    · cases h
noncomputable def c142 : Code := Tryd.f142.body.getD .skip
noncomputable def mi142 : Msk := ⟨[(.tmp 0, .val (.slice (.slice (.int .u8))))], []⟩
noncomputable def mo142 : Msk := ⟨[(.tmp 2, .row false (.int .u8))], []⟩
noncomputable def L142_3 (k : Nat) : LOrc := fun _ _ _ _ => none
noncomputable def b142_3 : Code := (findLoop 3 c142).getD .skip
noncomputable def m142_3 : Msk := ⟨[(.tmp 0, .val (.slice (.slice (.int .u8)))), (.tmp 3, .val (.int .i64)), (.tmp 9, .val (.slice (.slice (.int .u8)))), (.tmp 10, .val (.int .i64)), (.tmp 11, .val (.int .i64))], []⟩
noncomputable def x142_3 : List (X × Msk) := [(.exit 0, ⟨[(.tmp 0, .val (.slice (.slice (.int .u8)))), (.tmp 3, .val (.int .i64))], []⟩)]
noncomputable def F142_3 (k : Nat) : Nat → m142_3.den → Option (denE x142_3)
  | 0, _ => none
  | j + 1, v => round TI (O192 k) (L142_3 k) b142_3 m142_3 x142_3 (F142_3 k j) v
theorem lk142_3_ (k : Nat) : LinksOK Tryd.prog 36 (L142_3 k) b142_3 := (And.intro True.intro (And.intro (And.intro True.intro True.intro) (And.intro (And.intro True.intro (And.intro True.intro (And.intro True.intro (And.intro True.intro True.intro)))) True.intro)))
noncomputable def L142_11 (k : Nat) : LOrc := fun _ _ _ _ => none
noncomputable def b142_11 : Code := (findLoop 11 c142).getD .skip
noncomputable def m142_11 : Msk := ⟨[(.tmp 6, .row false (.int .u8)), (.tmp 25, .val (.slice (.slice (.int .u8)))), (.tmp 26, .val (.int .i64)), (.tmp 27, .val (.int .i64))], []⟩
noncomputable def x142_11 : List (X × Msk) := [(.exit 2, ⟨[(.tmp 6, .row false (.int .u8))], []⟩)]
noncomputable def F142_11 (k : Nat) : Nat → m142_11.den → Option (denE x142_11)
  | 0, _ => none
  | j + 1, v => round TI (O192 k) (L142_11 k) b142_11 m142_11 x142_11 (F142_11 k j) v
theorem lk142_11_ (k : Nat) : LinksOK Tryd.prog 36 (L142_11 k) b142_11 := (And.intro True.intro (And.intro (And.intro True.intro True.intro) (And.intro (And.intro True.intro True.intro) True.intro)))
noncomputable def L142 (k : Nat) : LOrc := fun R lk s K => match lk with
  | .loop r => bif Nat.beq r 3 then link m142_3 x142_3 (F142_3 k k) s K else bif Nat.beq r 11 then link m142_11 x142_11 (F142_11 k k) s K else none
  | .label l => none
theorem lk_L142_3 (k : Nat) : LoopOK Tryd.prog 36 (L142 k) b142_3 := loopOK_of hm hT (ok_O192 k) (fun _ _ _ h => h) rfl (lk142_3_ k) rfl rfl (F := F142_3 k) (fun _ => rfl) (fun _ _ => rfl) (n := k) fun _ _ _ => rfl
theorem lk_L142_11 (k : Nat) : LoopOK Tryd.prog 36 (L142 k) b142_11 := loopOK_of hm hT (ok_O192 k) (fun _ _ _ h => h) rfl (lk142_11_ k) rfl rfl (F := F142_11 k) (fun _ => rfl) (fun _ _ => rfl) (n := k) fun _ _ _ => rfl
noncomputable def F142 (k : Nat) (v : mi142.den) : Option mo142.den := runF TI (O192 k) (L142 k) c142 mi142 mo142 v
theorem lk142 (k : Nat) : LinksOK Tryd.prog 36 (L142 k) c142 := (And.intro True.intro (And.intro True.intro (And.intro (And.intro True.intro (lk_L142_3 k)) (And.intro True.intro (And.intro (And.intro True.intro (lk_L142_11 k)) (And.intro True.intro True.intro))))))
theorem fn142 (k : Nat) (args : List AV) (x : mi142.den) (r : mo142.den) (h1 : args.length = mi142.items.length) (h2 : mi142.dec (Th.start args) = some x) (h3 : F142 k x = some r) : CallOK Tryd.prog 142 args (ansOf (outL mo142.items r)) :=
  call_of hm hT (ok_O192 k) (fn := Tryd.f142) (c := c142) Tryd.func142 rfl rfl rfl (lk142 k) rfl (by decide) rfl h1 h2 h3
noncomputable def O142 (k : Nat) : Orc := fun R f args K => bif Nat.beq f 142 then callF mi142 mo142 (F142 k) args K else O192 k R f args K
theorem ok_O142 (k : Nat) : OrcOK (O142 k) (CallOK Tryd.prog) := orc_add (fn142 k) (ok_O192 k)
noncomputable def c79 : Code := Tryd.f79.body.getD .skip
noncomputable def mi79 : Msk := ⟨[(.tmp 0, .val (.st (.cons .str (.cons (.slice (.st (.cons (.int .i64) (.cons .str .nil)))) .nil))))], []⟩
noncomputable def mo79 : Msk := ⟨[(.tmp 2, .row false (.int .u8)), (.tmp 3, .val (.int .i64))], []⟩
noncomputable def L79_6 (k : Nat) : LOrc := fun _ _ _ _ => none
noncomputable def b79_6 : Code := (findLoop 6 c79).getD .skip
noncomputable def m79_6 : Msk := ⟨[(.tmp 1, .ptr 1 0), (.tmp 4, .row false (.int .i64)), (.tmp 5, .row false (.int .u8)), (.tmp 18, .val (.slice (.st (.cons (.int .i64) (.cons .str .nil))))), (.tmp 19, .val (.int .i64)), (.tmp 20, .val (.int .i64)), (.cell 1 0, .val .str), (.cell 1 1, .val (.slice (.st (.cons (.int .i64) (.cons .str .nil)))))], [(1, 2)]⟩
noncomputable def x79_6 : List (X × Msk) := [(.exit 0, ⟨[(.tmp 1, .ptr 1 0), (.tmp 4, .row false (.int .i64)), (.tmp 5, .row false (.int .u8)), (.cell 1 0, .val .str), (.cell 1 1, .val (.slice (.st (.cons (.int .i64) (.cons .str .nil)))))], [(1, 2)]⟩)]
noncomputable def F79_6 (k : Nat) : Nat → m79_6.den → Option (denE x79_6)
  | 0, _ => none
  | j + 1, v => round TI (O142 k) (L79_6 k) b79_6 m79_6 x79_6 (F79_6 k j) v
theorem lk79_6_ (k : Nat) : LinksOK Tryd.prog 58 (L79_6 k) b79_6 := (And.intro True.intro (And.intro (And.intro True.intro True.intro) (And.intro (And.intro True.intro (And.intro True.intro True.intro)) True.intro)))
noncomputable def L79 (k : Nat) : LOrc := fun R lk s K => match lk with
  | .loop r => bif Nat.beq r 6 then link m79_6 x79_6 (F79_6 k k) s K else none
  | .label l => none
theorem lk_L79_6 (k : Nat) : LoopOK Tryd.prog 58 (L79 k) b79_6 := loopOK_of hm hT (ok_O142 k) (fun _ _ _ h => h) rfl (lk79_6_ k) rfl rfl (F := F79_6 k) (fun _ => rfl) (fun _ _ => rfl) (n := k) fun _ _ _ => rfl
noncomputable def F79 (k : Nat) (v : mi79.den) : Option mo79.den := runF TI (O142 k) (L79 k) c79 mi79 mo79 v
theorem lk79 (k : Nat) : LinksOK Tryd.prog 58 (L79 k) c79 := (And.intro True.intro (And.intro (And.intro True.intro (And.intro (And.intro True.intro True.intro) True.intro)) (And.intro True.intro (And.intro True.intro (And.intro (And.intro True.intro (lk_L79_6 k)) (And.intro True.intro (And.intro True.intro (And.intro True.intro True.intro))))))))
theorem fn79 (k : Nat) (args : List AV) (x : mi79.den) (r : mo79.den) (h1 : args.length = mi79.items.length) (h2 : mi79.dec (Th.start args) = some x) (h3 : F79 k x = some r) : CallOK Tryd.prog 79 args (ansOf (outL mo79.items r)) :=
  call_of hm hT (ok_O142 k) (fn := Tryd.f79) (c := c79) Tryd.func79 rfl rfl rfl (lk79 k) rfl (by decide) rfl h1 h2 h3
noncomputable def O79 (k : Nat) : Orc := fun R f args K => bif Nat.beq f 79 then callF mi79 mo79 (F79 k) args K else O142 k R f args K
theorem ok_O79 (k : Nat) : OrcOK (O79 k) (CallOK Tryd.prog) := orc_add (fn79 k) (ok_O142 k)
noncomputable def c215 : Code := Tryd.f215.body.getD .skip
noncomputable def mi215 : Msk := ⟨[(.tmp 0, .val (.slice (.int .u8)))], []⟩
noncomputable def mo215 : Msk := ⟨[(.tmp 2, .val (.int .u64))], []⟩
noncomputable def L215_3 (k : Nat) : LOrc := fun _ _ _ _ => none
noncomputable def b215_3 : Code := (findLoop 3 c215).getD .skip
noncomputable def m215_3 : Msk := ⟨[(.tmp 3, .val (.int .u64)), (.tmp 7, .val (.slice (.int .u8))), (.tmp 8, .val (.int .i64)), (.tmp 9, .val (.int .i64))], []⟩
noncomputable def x215_3 : List (X × Msk) := [(.exit 0, ⟨[(.tmp 3, .val (.int .u64))], []⟩)]
noncomputable def F215_3 (k : Nat) : Nat → m215_3.den → Option (denE x215_3)
  | 0, _ => none
  | j + 1, v => round TI (O79 k) (L215_3 k) b215_3 m215_3 x215_3 (F215_3 k j) v
theorem lk215_3_ (k : Nat) : LinksOK Tryd.prog 20 (L215_3 k) b215_3 := (And.intro True.intro (And.intro (And.intro True.intro True.intro) (And.intro (And.intro True.intro True.intro) True.intro)))
noncomputable def L215 (k : Nat) : LOrc := fun R lk s K => match lk with
  | .loop r => bif Nat.beq r 3 then link m215_3 x215_3 (F215_3 k k) s K else none
  | .label l => none
theorem lk_L215_3 (k : Nat) : LoopOK Tryd.prog 20 (L215 k) b215_3 := loopOK_of hm hT (ok_O79 k) (fun _ _ _ h => h) rfl (lk215_3_ k) rfl rfl (F := F215_3 k) (fun _ => rfl) (fun _ _ => rfl) (n := k) fun _ _ _ => rfl
noncomputable def F215 (k : Nat) (v : mi215.den) : Option mo215.den := runF TI (O79 k) (L215 k) c215 mi215 mo215 v
theorem lk215 (k : Nat) : LinksOK Tryd.prog 20 (L215 k) c215 := (And.intro True.intro (And.intro True.intro (And.intro (And.intro True.intro (lk_L215_3 k)) (And.intro True.intro True.intro))))
theorem fn215 (k : Nat) (args : List AV) (x : mi215.den) (r : mo215.den) (h1 : args.length = mi215.items.length) (h2 : mi215.dec (Th.start args) = some x) (h3 : F215 k x = some r) : CallOK Tryd.prog 215 args (ansOf (outL mo215.items r)) :=
  call_of hm hT (ok_O79 k) (fn := Tryd.f215) (c := c215) Tryd.func215 rfl rfl rfl (lk215 k) rfl (by decide) rfl h1 h2 h3
noncomputable def O215 (k : Nat) : Orc := fun R f args K => bif Nat.beq f 215 then callF mi215 mo215 (F215 k) args K else O79 k R f args K
theorem ok_O215 (k : Nat) : OrcOK (O215 k) (CallOK Tryd.prog) := orc_add (fn215 k) (ok_O79 k)
noncomputable def c193 : Code := Tryd.f193.body.getD .skip
noncomputable def mi193 : Msk := ⟨[(.tmp 0, .val (.slice (.int .u8)))], []⟩
noncomputable def mo193 : Msk := ⟨[(.res 2, .val (.st (.cons (.int .u64) (.cons (.int .u64) .nil)))), (.tmp 3, .val (.int .i64)), (.tmp 4, .val (.int .i64))], []⟩
noncomputable def L193 (k : Nat) : LOrc := fun _ _ _ _ => none
noncomputable def F193 (k : Nat) (v : mi193.den) : Option mo193.den := runF TI (O215 k) (L193 k) c193 mi193 mo193 v
theorem lk193 (k : Nat) : LinksOK Tryd.prog 30 (L193 k) c193 := (And.intro True.intro (And.intro (And.intro True.intro (And.intro (And.intro True.intro True.intro) True.intro)) (And.intro True.intro (And.intro True.intro (And.intro (And.intro True.intro (And.intro (And.intro (And.intro True.intro (And.intro (And.intro True.intro True.intro) True.intro)) (And.intro True.intro True.intro)) True.intro)) (And.intro (And.intro True.intro (And.intro (And.intro True.intro True.intro) True.intro)) (And.intro True.intro True.intro)))))))
theorem fn193 (k : Nat) (args : List AV) (x : mi193.den) (r : mo193.den) (h1 : args.length = mi193.items.length) (h2 : mi193.dec (Th.start args) = some x) (h3 : F193 k x = some r) : CallOK Tryd.prog 193 args (ansOf (outL mo193.items r)) :=
  call_of hm hT (ok_O215 k) (fn := Tryd.f193) (c := c193) Tryd.func193 rfl rfl rfl (lk193 k) rfl (by decide) rfl h1 h2 h3
noncomputable def O193 (k : Nat) : Orc := fun R f args K => bif Nat.beq f 193 then callF mi193 mo193 (F193 k) args K else O215 k R f args K
theorem ok_O193 (k : Nat) : OrcOK (O193 k) (CallOK Tryd.prog) := orc_add (fn193 k) (ok_O215 k)
noncomputable def c216 : Code := Tryd.f216.body.getD .skip
noncomputable def mi216 : Msk := ⟨[(.tmp 0, .val (.st (.cons (.int .u64) (.cons (.int .u64) .nil)))), (.tmp 1, .val (.int .i64))], []⟩
noncomputable def mo216 : Msk := ⟨[(.tmp 4, .val .bool)], []⟩
noncomputable def L216 (k : Nat) : LOrc := fun _ _ _ _ => none
noncomputable def F216 (k : Nat) (v : mi216.den) : Option mo216.den := runF TI (O193 k) (L216 k) c216 mi216 mo216 v
theorem lk216 (k : Nat) : LinksOK Tryd.prog 12 (L216 k) c216 := (And.intro True.intro (And.intro True.intro True.intro))
theorem fn216 (k : Nat) (args : List AV) (x : mi216.den) (r : mo216.den) (h1 : args.length = mi216.items.length) (h2 : mi216.dec (Th.start args) = some x) (h3 : F216 k x = some r) : CallOK Tryd.prog 216 args (ansOf (outL mo216.items r)) :=
  call_of hm hT (ok_O193 k) (fn := Tryd.f216) (c := c216) Tryd.func216 rfl rfl rfl (lk216 k) rfl (by decide) rfl h1 h2 h3
noncomputable def O216 (k : Nat) : Orc := fun R f args K => bif Nat.beq f 216 then callF mi216 mo216 (F216 k) args K else O193 k R f args K
theorem ok_O216 (k : Nat) : OrcOK (O216 k) (CallOK Tryd.prog) := orc_add (fn216 k) (ok_O193 k)
noncomputable def c194 : Code := Tryd.f194.body.getD .skip
noncomputable def mi194 : Msk := ⟨[(.tmp 0, .val (.st (.cons (.int .u64) (.cons (.int .u64) .nil))))], []⟩
noncomputable def mo194 : Msk := ⟨[(.tmp 2, .row false (.int .i64))], []⟩
noncomputable def L194_g0 (k : Nat) : LOrc := fun _ _ _ _ => none
noncomputable def b194_g0 : Code := (findScope 0 c194).getD .skip
noncomputable def l194_g0 : List (X × Msk) := [(.goto 0, ⟨[(.tmp 1, .ptr 1 0), (.tmp 3, .row false (.int .i64)), (.tmp 4, .val (.int .i64)), (.cell 1 0, .val (.int .u64)), (.cell 1 1, .val (.int .u64))], [(1, 2)]⟩)]
noncomputable def x194_g0 : List (X × Msk) := [(.ret, ⟨[(.tmp 2, .row false (.int .i64))], []⟩)]
noncomputable def F194_g0 (k : Nat) : Nat → denE l194_g0 → Option (denE x194_g0)
  | 0, _ => none
  | j + 1, v => pass TI (O216 k) (L194_g0 k) b194_g0 l194_g0 x194_g0 (F194_g0 k j) v
theorem lk194_g0_ (k : Nat) : LinksOK Tryd.prog 17 (L194_g0 k) b194_g0 := (And.intro True.intro (And.intro True.intro (And.intro True.intro (And.intro (And.intro True.intro (And.intro True.intro True.intro)) (And.intro True.intro (And.intro (And.intro True.intro (And.intro True.intro True.intro)) (And.intro True.intro True.intro)))))))
noncomputable def L194 (k : Nat) : LOrc := fun R lk s K => match lk with
  | .loop r => none
  | .label l => (match findLabel b194_g0 l with | some _ => linkJ l194_g0 x194_g0 (F194_g0 k k) l s K | none => none)
theorem lk_L194_g0 (k : Nat) : JumpsOK Tryd.prog 17 (L194 k) b194_g0 := jumpsOK_of hm hT (ok_O216 k) (fun _ _ _ h => h) rfl (lk194_g0_ k) rfl rfl (F := F194_g0 k) (fun _ => rfl) (fun _ _ => rfl) (n := k) fun R l s K rest hf => by
  show (match findLabel b194_g0 l with | some _ => linkJ l194_g0 x194_g0 (F194_g0 k k) l s K | none => none) = _
  rw [hf]
noncomputable def F194 (k : Nat) (v : mi194.den) : Option mo194.den := runF TI (O216 k) (L194 k) c194 mi194 mo194 v
theorem lk194 (k : Nat) : LinksOK Tryd.prog 17 (L194 k) c194 := (And.intro True.intro (And.intro (lk_L194_g0 k) (And.intro True.intro (And.intro True.intro (And.intro True.intro (And.intro (And.intro True.intro (And.intro True.intro True.intro)) (And.intro True.intro (And.intro (And.intro True.intro (And.intro True.intro True.intro)) (And.intro True.intro True.intro)))))))))
theorem fn194 (k : Nat) (args : List AV) (x : mi194.den) (r : mo194.den) (h1 : args.length = mi194.items.length) (h2 : mi194.dec (Th.start args) = some x) (h3 : F194 k x = some r) : CallOK Tryd.prog 194 args (ansOf (outL mo194.items r)) :=
  call_of hm hT (ok_O216 k) (fn := Tryd.f194) (c := c194) Tryd.func194 rfl rfl rfl (lk194 k) rfl (by decide) rfl h1 h2 h3
noncomputable def O194 (k : Nat) : Orc := fun R f args K => bif Nat.beq f 194 then callF mi194 mo194 (F194 k) args K else O216 k R f args K
theorem ok_O194 (k : Nat) : OrcOK (O194 k) (CallOK Tryd.prog) := orc_add (fn194 k) (ok_O216 k)
noncomputable def c143 : Code := Tryd.f143.body.getD .skip
noncomputable def mi143 : Msk := ⟨[(.tmp 0, .val (.slice (.int .u8)))], []⟩
noncomputable def mo143 : Msk := ⟨[(.tmp 2, .val .str), (.tmp 3, .row false (.int .i64)), (.tmp 4, .val (.slice (.int .u8))), (.tmp 5, .val (.int .i64))], []⟩
noncomputable def L143 (k : Nat) : LOrc := fun _ _ _ _ => none
noncomputable def F143 (k : Nat) (v : mi143.den) : Option mo143.den := runF TI (O194 k) (L143 k) c143 mi143 mo143 v
theorem lk143 (k : Nat) : LinksOK Tryd.prog 36 (L143 k) c143 := (And.intro True.intro (And.intro (And.intro True.intro (And.intro (And.intro True.intro True.intro) (And.intro True.intro (And.intro (And.intro True.intro True.intro) True.intro)))) (And.intro True.intro (And.intro True.intro True.intro))))
theorem fn143 (k : Nat) (args : List AV) (x : mi143.den) (r : mo143.den) (h1 : args.length = mi143.items.length) (h2 : mi143.dec (Th.start args) = some x) (h3 : F143 k x = some r) : CallOK Tryd.prog 143 args (ansOf (outL mo143.items r)) :=
  call_of hm hT (ok_O194 k) (fn := Tryd.f143) (c := c143) Tryd.func143 rfl rfl rfl (lk143 k) rfl (by decide) rfl h1 h2 h3
noncomputable def O143 (k : Nat) : Orc := fun R f args K => bif Nat.beq f 143 then callF mi143 mo143 (F143 k) args K else O194 k R f args K
theorem ok_O143 (k : Nat) : OrcOK (O143 k) (CallOK Tryd.prog) := orc_add (fn143 k) (ok_O194 k)
noncomputable def c80 : Code := Tryd.f80.body.getD .skip
noncomputable def mi80 : Msk := ⟨[(.tmp 0, .val (.slice (.int .u8)))], []⟩
noncomputable def mo80 : Msk := ⟨[(.res 2, .val (.st (.cons .str (.cons (.slice (.st (.cons (.int .i64) (.cons .str .nil)))) .nil)))), (.tmp 3, .val (.int .i64))], []⟩
noncomputable def L80_8 (k : Nat) : LOrc := fun _ _ _ _ => none
noncomputable def b80_8 : Code := (findLoop 8 c80).getD .skip
noncomputable def m80_8 : Msk := ⟨[(.tmp 2, .ptr 2 0), (.tmp 6, .val (.slice (.int .u8))), (.tmp 8, .ptr 8 0), (.tmp 33, .row false (.int .i64)), (.tmp 34, .val (.int .i64)), (.tmp 35, .val (.int .i64)), (.cell 2 0, .val .str), (.cell 2 1, .row false (.st (.cons (.int .i64) (.cons .str .nil)))), (.cell 8 0, .val .str), (.cell 8 1, .row false (.st (.cons (.int .i64) (.cons .str .nil))))], [(2, 2), (8, 2)]⟩
noncomputable def x80_8 : List (X × Msk) := [(.exit 1, ⟨[(.tmp 2, .ptr 2 0), (.tmp 6, .val (.slice (.int .u8))), (.tmp 8, .ptr 8 0), (.cell 2 0, .val .str), (.cell 2 1, .row false (.st (.cons (.int .i64) (.cons .str .nil)))), (.cell 8 0, .val .str), (.cell 8 1, .row false (.st (.cons (.int .i64) (.cons .str .nil))))], [(2, 2), (8, 2)]⟩), (.ret, ⟨[(.tmp 2, .ptr 2 0), (.tmp 3, .val (.int .i64)), (.cell 2 0, .val .str), (.cell 2 1, .row false (.st (.cons (.int .i64) (.cons .str .nil))))], [(2, 2)]⟩)]
noncomputable def F80_8 (k : Nat) : Nat → m80_8.den → Option (denE x80_8)
  | 0, _ => none
  | j + 1, v => round TI (O143 k) (L80_8 k) b80_8 m80_8 x80_8 (F80_8 k j) v
theorem lk80_8_ (k : Nat) : LinksOK Tryd.prog 67 (L80_8 k) b80_8 := (And.intro True.intro (And.intro (And.intro True.intro True.intro) (And.intro (And.intro True.intro (And.intro True.intro (And.intro (And.intro True.intro (And.intro (And.intro True.intro True.intro) True.intro)) True.intro))) True.intro)))
noncomputable def L80 (k : Nat) : LOrc := fun R lk s K => match lk with
  | .loop r => bif Nat.beq r 8 then link m80_8 x80_8 (F80_8 k k) s K else none
  | .label l => none
theorem lk_L80_8 (k : Nat) : LoopOK Tryd.prog 67 (L80 k) b80_8 := loopOK_of hm hT (ok_O143 k) (fun _ _ _ h => h) rfl (lk80_8_ k) rfl rfl (F := F80_8 k) (fun _ => rfl) (fun _ _ => rfl) (n := k) fun _ _ _ => rfl
noncomputable def F80 (k : Nat) (v : mi80.den) : Option mo80.den := runF TI (O143 k) (L80 k) c80 mi80 mo80 v
theorem lk80 (k : Nat) : LinksOK Tryd.prog 67 (L80 k) c80 := (And.intro True.intro (And.intro True.intro (And.intro (And.intro True.intro (And.intro (And.intro True.intro True.intro) (And.intro True.intro (And.intro (And.intro True.intro True.intro) True.intro)))) (And.intro True.intro (And.intro (And.intro True.intro (lk_L80_8 k)) (And.intro (And.intro True.intro (And.intro (And.intro True.intro True.intro) True.intro)) (And.intro True.intro True.intro)))))))
theorem fn80 (k : Nat) (args : List AV) (x : mi80.den) (r : mo80.den) (h1 : args.length = mi80.items.length) (h2 : mi80.dec (Th.start args) = some x) (h3 : F80 k x = some r) : CallOK Tryd.prog 80 args (ansOf (outL mo80.items r)) :=
  call_of hm hT (ok_O143 k) (fn := Tryd.f80) (c := c80) Tryd.func80 rfl rfl rfl (lk80 k) rfl (by decide) rfl h1 h2 h3
noncomputable def O80 (k : Nat) : Orc := fun R f args K => bif Nat.beq f 80 then callF mi80 mo80 (F80 k) args K else O143 k R f args K
theorem ok_O80 (k : Nat) : OrcOK (O80 k) (CallOK Tryd.prog) := orc_add (fn80 k) (ok_O143 k)
noncomputable def c145 : Code := Tryd.f145.body.getD .skip
noncomputable def mi145 : Msk := ⟨[(.tmp 0, .val (.int .i64))], []⟩
noncomputable def mo145 : Msk := ⟨[(.tmp 2, .row false (.int .i64))], []⟩
noncomputable def L145 (k : Nat) : LOrc := fun _ _ _ _ => none
noncomputable def F145 (k : Nat) (v : mi145.den) : Option mo145.den := runF TI (O80 k) (L145 k) c145 mi145 mo145 v
theorem lk145 (k : Nat) : LinksOK Tryd.prog 10 (L145 k) c145 := (And.intro True.intro (And.intro (And.intro True.intro (And.intro True.intro (And.intro (And.intro True.intro True.intro) (And.intro True.intro (And.intro (And.intro True.intro True.intro) True.intro))))) (And.intro True.intro True.intro)))
theorem fn145 (k : Nat) (args : List AV) (x : mi145.den) (r : mo145.den) (h1 : args.length = mi145.items.length) (h2 : mi145.dec (Th.start args) = some x) (h3 : F145 k x = some r) : CallOK Tryd.prog 145 args (ansOf (outL mo145.items r)) :=
  call_of hm hT (ok_O80 k) (fn := Tryd.f145) (c := c145) Tryd.func145 rfl rfl rfl (lk145 k) rfl (by decide) rfl h1 h2 h3
noncomputable def O145 (k : Nat) : Orc := fun R f args K => bif Nat.beq f 145 then callF mi145 mo145 (F145 k) args K else O80 k R f args K
theorem ok_O145 (k : Nat) : OrcOK (O145 k) (CallOK Tryd.prog) := orc_add (fn145 k) (ok_O80 k)
noncomputable def c82 : Code := Tryd.f82.body.getD .skip
noncomputable def mi82 : Msk := ⟨[(.tmp 0, .val (.int .i64)), (.tmp 1, .val (.slice (.int .u8)))], []⟩
noncomputable def mo82 : Msk := ⟨[(.res 4, .val (.st (.cons (.int .i64) (.cons (.st (.cons (.int .i64) (.cons .str (.cons (.int .u64) (.cons (.int .u32) (.cons .str (.cons .str .nil))))))) .nil)))), (.tmp 5, .val .bool)], []⟩
noncomputable def L82_8 (k : Nat) : LOrc := fun _ _ _ _ => none
noncomputable def b82_8 : Code := (findLoop 8 c82).getD .skip
noncomputable def m82_8 : Msk := ⟨[(.tmp 4, .ptr 4 0), (.tmp 8, .ptr 8 0), (.tmp 29, .row false (.int .i64)), (.tmp 30, .val (.int .i64)), (.tmp 31, .val (.int .i64)), (.cell 4 0, .val (.int .i64)), (.cell 4 1, .val (.int .i64)), (.cell 4 2, .val .str), (.cell 4 3, .val (.int .u64)), (.cell 4 4, .val (.int .u32)), (.cell 4 5, .val .str), (.cell 4 6, .val .str), (.cell 8 0, .val (.int .i64)), (.cell 8 1, .val .str), (.cell 8 2, .val (.int .u64)), (.cell 8 3, .val (.int .u32)), (.cell 8 4, .val .str), (.cell 8 5, .val .str)], [(4, 7), (8, 6)]⟩
noncomputable def x82_8 : List (X × Msk) := [(.exit 0, ⟨[(.tmp 4, .ptr 4 0), (.cell 4 0, .val (.int .i64)), (.cell 4 1, .val (.int .i64)), (.cell 4 2, .val .str), (.cell 4 3, .val (.int .u64)), (.cell 4 4, .val (.int .u32)), (.cell 4 5, .val .str), (.cell 4 6, .val .str)], [(4, 7)]⟩), (.ret, ⟨[(.tmp 4, .ptr 4 0), (.tmp 5, .val .bool), (.cell 4 0, .val (.int .i64)), (.cell 4 1, .val (.int .i64)), (.cell 4 2, .val .str), (.cell 4 3, .val (.int .u64)), (.cell 4 4, .val (.int .u32)), (.cell 4 5, .val .str), (.cell 4 6, .val .str)], [(4, 7)]⟩)]
noncomputable def F82_8 (k : Nat) : Nat → m82_8.den → Option (denE x82_8)
  | 0, _ => none
  | j + 1, v => round TI (O145 k) (L82_8 k) b82_8 m82_8 x82_8 (F82_8 k j) v
theorem lk82_8_ (k : Nat) : LinksOK Tryd.prog 43 (L82_8 k) b82_8 := (And.intro True.intro (And.intro (And.intro True.intro True.intro) (And.intro (And.intro True.intro (And.intro True.intro (And.intro True.intro (And.intro (And.intro True.intro True.intro) True.intro)))) True.intro)))
noncomputable def L82 (k : Nat) : LOrc := fun R lk s K => match lk with
  | .loop r => bif Nat.beq r 8 then link m82_8 x82_8 (F82_8 k k) s K else none
  | .label l => none
theorem lk_L82_8 (k : Nat) : LoopOK Tryd.prog 43 (L82 k) b82_8 := loopOK_of hm hT (ok_O145 k) (fun _ _ _ h => h) rfl (lk82_8_ k) rfl rfl (F := F82_8 k) (fun _ => rfl) (fun _ _ => rfl) (n := k) fun _ _ _ => rfl
noncomputable def F82 (k : Nat) (v : mi82.den) : Option mo82.den := runF TI (O145 k) (L82 k) c82 mi82 mo82 v
theorem lk82 (k : Nat) : LinksOK Tryd.prog 43 (L82 k) c82 := (And.intro True.intro (And.intro True.intro (And.intro (And.intro True.intro (And.intro (And.intro True.intro True.intro) True.intro)) (And.intro True.intro (And.intro (And.intro True.intro (And.intro (And.intro True.intro True.intro) True.intro)) (And.intro (And.intro True.intro (lk_L82_8 k)) (And.intro True.intro True.intro)))))))
theorem fn82 (k : Nat) (args : List AV) (x : mi82.den) (r : mo82.den) (h1 : args.length = mi82.items.length) (h2 : mi82.dec (Th.start args) = some x) (h3 : F82 k x = some r) : CallOK Tryd.prog 82 args (ansOf (outL mo82.items r)) :=
  call_of hm hT (ok_O145 k) (fn := Tryd.f82) (c := c82) Tryd.func82 rfl rfl rfl (lk82 k) rfl (by decide) rfl h1 h2 h3
noncomputable def O82 (k : Nat) : Orc := fun R f args K => bif Nat.beq f 82 then callF mi82 mo82 (F82 k) args K else O145 k R f args K
theorem ok_O82 (k : Nat) : OrcOK (O82 k) (CallOK Tryd.prog) := orc_add (fn82 k) (ok_O145 k)
noncomputable def c150 : Code := Tryd.f150.body.getD .skip
noncomputable def mi150 : Msk := ⟨[(.tmp 0, .val (.slice (.int .u8)))], []⟩
noncomputable def mo150 : Msk := ⟨[(.tmp 2, .val (.int .i64))], []⟩
noncomputable def L150 (k : Nat) : LOrc := fun _ _ _ _ => none
noncomputable def F150 (k : Nat) (v : mi150.den) : Option mo150.den := runF TI (O82 k) (L150 k) c150 mi150 mo150 v
theorem lk150 (k : Nat) : LinksOK Tryd.prog 30 (L150 k) c150 := (And.intro True.intro (And.intro (And.intro True.intro (And.intro (And.intro True.intro True.intro) True.intro)) (And.intro True.intro (And.intro (And.intro (And.intro True.intro (And.intro True.intro True.intro)) (And.intro (And.intro True.intro True.intro) (And.intro True.intro (And.intro (And.intro True.intro True.intro) True.intro)))) (And.intro True.intro True.intro)))))
theorem fn150 (k : Nat) (args : List AV) (x : mi150.den) (r : mo150.den) (h1 : args.length = mi150.items.length) (h2 : mi150.dec (Th.start args) = some x) (h3 : F150 k x = some r) : CallOK Tryd.prog 150 args (ansOf (outL mo150.items r)) :=
  call_of hm hT (ok_O82 k) (fn := Tryd.f150) (c := c150) Tryd.func150 rfl rfl rfl (lk150 k) rfl (by decide) rfl h1 h2 h3
noncomputable def O150 (k : Nat) : Orc := fun R f args K => bif Nat.beq f 150 then callF mi150 mo150 (F150 k) args K else O82 k R f args K
theorem ok_O150 (k : Nat) : OrcOK (O150 k) (CallOK Tryd.prog) := orc_add (fn150 k) (ok_O82 k)
noncomputable def c87 : Code := Tryd.f87.body.getD .skip
noncomputable def mi87 : Msk := ⟨[(.tmp 0, .val (.st (.cons (.slice (.int .u8)) (.cons .bool .nil))))], []⟩
noncomputable def mo87 : Msk := ⟨[(.tmp 2, .val .bool)], []⟩
noncomputable def L87 (k : Nat) : LOrc := fun _ _ _ _ => none
noncomputable def F87 (k : Nat) (v : mi87.den) : Option mo87.den := runF TI (O150 k) (L87 k) c87 mi87 mo87 v
theorem lk87 (k : Nat) : LinksOK Tryd.prog 13 (L87 k) c87 := (And.intro True.intro (And.intro (And.intro True.intro (And.intro (And.intro True.intro True.intro) True.intro)) (And.intro True.intro True.intro)))
theorem fn87 (k : Nat) (args : List AV) (x : mi87.den) (r : mo87.den) (h1 : args.length = mi87.items.length) (h2 : mi87.dec (Th.start args) = some x) (h3 : F87 k x = some r) : CallOK Tryd.prog 87 args (ansOf (outL mo87.items r)) :=
  call_of hm hT (ok_O150 k) (fn := Tryd.f87) (c := c87) Tryd.func87 rfl rfl rfl (lk87 k) rfl (by decide) rfl h1 h2 h3
noncomputable def O87 (k : Nat) : Orc := fun R f args K => bif Nat.beq f 87 then callF mi87 mo87 (F87 k) args K else O150 k R f args K
theorem ok_O87 (k : Nat) : OrcOK (O87 k) (CallOK Tryd.prog) := orc_add (fn87 k) (ok_O150 k)
noncomputable def c147 : Code := Tryd.f147.body.getD .skip
noncomputable def mo147 : Msk := ⟨[(.tmp 2, .row false (.int .u8))], []⟩
noncomputable def L147 : LOrc := fun _ _ _ _ => none
noncomputable def F147 (k : Nat) (l : List (Ty.den (.int .u8))) : Option mo147.den := run TI (O87 k) L147 c147 (Th.start [.nsl (.int .u8) l]) (endF mo147)
theorem fn147 (k : Nat) (l : List (Ty.den (.int .u8))) (r : mo147.den) (h : F147 k l = some r) : CallOK Tryd.prog 147 [.sl (.int .u8) l] (ansOf (outL mo147.items r)) :=
  call_nil hm hT (ok_O87 k) (fn := Tryd.f147) (c := c147) Tryd.func147 rfl rfl rfl ((And.intro True.intro (And.intro (And.intro True.intro (And.intro (And.intro True.intro True.intro) True.intro)) (And.intro True.intro True.intro))) : LinksOK Tryd.prog 8 L147 c147) (by decide) rfl (fun e => by subst e; exact h) h
noncomputable def O147 (k : Nat) : Orc := fun R f args K => bif Nat.beq f 147 then callN (.int .u8) mo147 (F147 k) args K else O87 k R f args K
theorem ok_O147 (k : Nat) : OrcOK (O147 k) (CallOK Tryd.prog) := orc_addN (fn147 k) (ok_O87 k)
noncomputable def c88 : Code := Tryd.f88.body.getD .skip
noncomputable def mi88 : Msk := ⟨[(.tmp 0, .val (.st (.cons (.slice (.int .u8)) (.cons .bool .nil)))), (.tmp 1, .val (.slice (.int .u8)))], []⟩
noncomputable def mo88 : Msk := ⟨[(.res 4, .val (.st (.cons (.slice (.int .u8)) (.cons .bool .nil)))), (.tmp 5, .row false (.slice (.int .u8))), (.tmp 6, .val (.int .i64))], []⟩
noncomputable def L88_g0 (k : Nat) : LOrc := fun _ _ _ _ => none
noncomputable def b88_g0 : Code := (findScope 0 c88).getD .skip
noncomputable def l88_g0 : List (X × Msk) := [(.goto 0, ⟨[(.tmp 4, .ptr 4 0), (.tmp 7, .val (.slice (.int .u8))), (.tmp 8, .row false (.slice (.int .u8))), (.cell 4 0, .row false (.int .u8)), (.cell 4 1, .val .bool)], [(4, 2)]⟩)]
noncomputable def x88_g0 : List (X × Msk) := [(.ret, ⟨[(.tmp 4, .ptr 4 0), (.tmp 5, .row false (.slice (.int .u8))), (.tmp 6, .val (.int .i64)), (.cell 4 0, .val (.slice (.int .u8))), (.cell 4 1, .val .bool)], [(4, 2)]⟩)]
noncomputable def F88_g0 (k : Nat) : Nat → denE l88_g0 → Option (denE x88_g0)
  | 0, _ => none
  | j + 1, v => pass TI (O147 k) (L88_g0 k) b88_g0 l88_g0 x88_g0 (F88_g0 k j) v
theorem lk88_g0_ (k : Nat) : LinksOK Tryd.prog 46 (L88_g0 k) b88_g0 := (And.intro (And.intro True.intro (And.intro (And.intro True.intro True.intro) (And.intro True.intro (And.intro (And.intro True.intro True.intro) True.intro)))) (And.intro True.intro (And.intro True.intro (And.intro True.intro (And.intro True.intro (And.intro (And.intro True.intro (And.intro (And.intro True.intro (And.intro True.intro True.intro)) True.intro)) (And.intro (And.intro True.intro (And.intro (And.intro True.intro True.intro) True.intro)) (And.intro True.intro True.intro))))))))
noncomputable def L88 (k : Nat) : LOrc := fun R lk s K => match lk with
  | .loop r => none
  | .label l => (match findLabel b88_g0 l with | some _ => linkJ l88_g0 x88_g0 (F88_g0 k k) l s K | none => none)
theorem lk_L88_g0 (k : Nat) : JumpsOK Tryd.prog 46 (L88 k) b88_g0 := jumpsOK_of hm hT (ok_O147 k) (fun _ _ _ h => h) rfl (lk88_g0_ k) rfl rfl (F := F88_g0 k) (fun _ => rfl) (fun _ _ => rfl) (n := k) fun R l s K rest hf => by
  show (match findLabel b88_g0 l with | some _ => linkJ l88_g0 x88_g0 (F88_g0 k k) l s K | none => none) = _
  rw [hf]
noncomputable def F88 (k : Nat) (v : mi88.den) : Option mo88.den := runF TI (O147 k) (L88 k) c88 mi88 mo88 v
theorem lk88 (k : Nat) : LinksOK Tryd.prog 46 (L88 k) c88 := (And.intro True.intro (And.intro (lk_L88_g0 k) (And.intro (And.intro True.intro (And.intro (And.intro True.intro True.intro) (And.intro True.intro (And.intro (And.intro True.intro True.intro) True.intro)))) (And.intro True.intro (And.intro True.intro (And.intro True.intro (And.intro True.intro (And.intro (And.intro True.intro (And.intro (And.intro True.intro (And.intro True.intro True.intro)) True.intro)) (And.intro (And.intro True.intro (And.intro (And.intro True.intro True.intro) True.intro)) (And.intro True.intro True.intro))))))))))
theorem fn88 (k : Nat) (args : List AV) (x : mi88.den) (r : mo88.den) (h1 : args.length = mi88.items.length) (h2 : mi88.dec (Th.start args) = some x) (h3 : F88 k x = some r) : CallOK Tryd.prog 88 args (ansOf (outL mo88.items r)) :=
  call_of hm hT (ok_O147 k) (fn := Tryd.f88) (c := c88) Tryd.func88 rfl rfl rfl (lk88 k) rfl (by decide) rfl h1 h2 h3
noncomputable def O88 (k : Nat) : Orc := fun R f args K => bif Nat.beq f 88 then callF mi88 mo88 (F88 k) args K else O147 k R f args K
theorem ok_O88 (k : Nat) : OrcOK (O88 k) (CallOK Tryd.prog) := orc_add (fn88 k) (ok_O147 k)
noncomputable def c84 : Code := Tryd.f84.body.getD .skip
noncomputable def mi84 : Msk := ⟨[(.tmp 0, .val (.st (.cons (.slice (.int .u8)) (.cons .bool .nil)))), (.tmp 1, .val (.slice (.int .u8)))], []⟩
noncomputable def mo84 : Msk := ⟨[(.res 4, .val (.st (.cons (.slice (.int .u8)) (.cons .bool .nil)))), (.tmp 5, .val (.slice (.int .u8))), (.tmp 6, .val (.slice (.int .u8))), (.tmp 7, .val (.int .i64))], []⟩
noncomputable def L84_g0 (k : Nat) : LOrc := fun _ _ _ _ => none
noncomputable def b84_g0 : Code := (findScope 0 c84).getD .skip
noncomputable def l84_g0 : List (X × Msk) := [(.goto 0, ⟨[(.tmp 1, .val (.slice (.int .u8))), (.tmp 2, .ptr 2 0), (.tmp 4, .ptr 4 0), (.tmp 8, .val (.int .i64)), (.cell 2 0, .val (.slice (.int .u8))), (.cell 2 1, .val .bool), (.cell 4 0, .row false (.int .u8)), (.cell 4 1, .val .bool)], [(2, 2), (4, 2)]⟩)]
noncomputable def x84_g0 : List (X × Msk) := [(.ret, ⟨[(.tmp 4, .ptr 4 0), (.tmp 5, .row false (.int .u8)), (.tmp 6, .val (.slice (.int .u8))), (.tmp 7, .val (.int .i64)), (.cell 4 0, .val (.slice (.int .u8))), (.cell 4 1, .val .bool)], [(4, 2)]⟩)]
noncomputable def F84_g0 (k : Nat) : Nat → denE l84_g0 → Option (denE x84_g0)
  | 0, _ => none
  | j + 1, v => pass TI (O88 k) (L84_g0 k) b84_g0 l84_g0 x84_g0 (F84_g0 k j) v
theorem lk84_g0_ (k : Nat) : LinksOK Tryd.prog 59 (L84_g0 k) b84_g0 := (And.intro (And.intro True.intro (And.intro (And.intro True.intro True.intro) (And.intro True.intro (And.intro (And.intro True.intro True.intro) True.intro)))) (And.intro True.intro (And.intro True.intro (And.intro (And.intro True.intro (And.intro (And.intro True.intro True.intro) True.intro)) (And.intro True.intro (And.intro True.intro (And.intro True.intro (And.intro (And.intro True.intro (And.intro (And.intro True.intro True.intro) (And.intro True.intro (And.intro True.intro True.intro)))) (And.intro True.intro True.intro)))))))))
noncomputable def L84 (k : Nat) : LOrc := fun R lk s K => match lk with
  | .loop r => none
  | .label l => (match findLabel b84_g0 l with | some _ => linkJ l84_g0 x84_g0 (F84_g0 k k) l s K | none => none)
theorem lk_L84_g0 (k : Nat) : JumpsOK Tryd.prog 59 (L84 k) b84_g0 := jumpsOK_of hm hT (ok_O88 k) (fun _ _ _ h => h) rfl (lk84_g0_ k) rfl rfl (F := F84_g0 k) (fun _ => rfl) (fun _ _ => rfl) (n := k) fun R l s K rest hf => by
  show (match findLabel b84_g0 l with | some _ => linkJ l84_g0 x84_g0 (F84_g0 k k) l s K | none => none) = _
  rw [hf]
noncomputable def F84 (k : Nat) (v : mi84.den) : Option mo84.den := runF TI (O88 k) (L84 k) c84 mi84 mo84 v
theorem lk84 (k : Nat) : LinksOK Tryd.prog 59 (L84 k) c84 := (And.intro True.intro (And.intro (lk_L84_g0 k) (And.intro (And.intro True.intro (And.intro (And.intro True.intro True.intro) (And.intro True.intro (And.intro (And.intro True.intro True.intro) True.intro)))) (And.intro True.intro (And.intro True.intro (And.intro (And.intro True.intro (And.intro (And.intro True.intro True.intro) True.intro)) (And.intro True.intro (And.intro True.intro (And.intro True.intro (And.intro (And.intro True.intro (And.intro (And.intro True.intro True.intro) (And.intro True.intro (And.intro True.intro True.intro)))) (And.intro True.intro True.intro)))))))))))
theorem fn84 (k : Nat) (args : List AV) (x : mi84.den) (r : mo84.den) (h1 : args.length = mi84.items.length) (h2 : mi84.dec (Th.start args) = some x) (h3 : F84 k x = some r) : CallOK Tryd.prog 84 args (ansOf (outL mo84.items r)) :=
  call_of hm hT (ok_O88 k) (fn := Tryd.f84) (c := c84) Tryd.func84 rfl rfl rfl (lk84 k) rfl (by decide) rfl h1 h2 h3
noncomputable def O84 (k : Nat) : Orc := fun R f args K => bif Nat.beq f 84 then callF mi84 mo84 (F84 k) args K else O88 k R f args K
theorem ok_O84 (k : Nat) : OrcOK (O84 k) (CallOK Tryd.prog) := orc_add (fn84 k) (ok_O88 k)
noncomputable def c81 : Code := Tryd.f81.body.getD .skip
noncomputable def mi81 : Msk := ⟨[], []⟩
noncomputable def mo81 : Msk := ⟨[(.tmp 0, .val .bool)], []⟩
noncomputable def L81 (k : Nat) : LOrc := fun _ _ _ _ => none
noncomputable def F81 (k : Nat) (v : mi81.den) : Option mo81.den := runF TI (O84 k) (L81 k) c81 mi81 mo81 v
theorem lk81 (k : Nat) : LinksOK Tryd.prog 103 (L81 k) c81 := (And.intro True.intro (And.intro True.intro (And.intro True.intro (And.intro True.intro (And.intro True.intro (And.intro True.intro (And.intro True.intro (And.intro True.intro True.intro))))))))
theorem fn81 (k : Nat) (args : List AV) (x : mi81.den) (r : mo81.den) (h1 : args.length = mi81.items.length) (h2 : mi81.dec (Th.start args) = some x) (h3 : F81 k x = some r) : CallOK Tryd.prog 81 args (ansOf (outL mo81.items r)) :=
  call_of hm hT (ok_O84 k) (fn := Tryd.f81) (c := c81) Tryd.func81 rfl rfl rfl (lk81 k) rfl (by decide) rfl h1 h2 h3
noncomputable def O81 (k : Nat) : Orc := fun R f args K => bif Nat.beq f 81 then callF mi81 mo81 (F81 k) args K else O84 k R f args K
theorem ok_O81 (k : Nat) : OrcOK (O81 k) (CallOK Tryd.prog) := orc_add (fn81 k) (ok_O84 k)
noncomputable def c86 : Code := Tryd.f86.body.getD .skip
noncomputable def mi86 : Msk := ⟨[(.tmp 0, .val (.st (.cons (.slice (.int .u8)) (.cons .bool .nil)))), (.tmp 1, .val (.st (.cons (.slice (.int .u8)) (.cons .bool .nil))))], []⟩
noncomputable def mo86 : Msk := ⟨[(.tmp 4, .val .bool)], []⟩
noncomputable def L86 (k : Nat) : LOrc := fun _ _ _ _ => none
noncomputable def F86 (k : Nat) (v : mi86.den) : Option mo86.den := runF TI (O81 k) (L86 k) c86 mi86 mo86 v
theorem lk86 (k : Nat) : LinksOK Tryd.prog 19 (L86 k) c86 := (And.intro True.intro (And.intro True.intro True.intro))
theorem fn86 (k : Nat) (args : List AV) (x : mi86.den) (r : mo86.den) (h1 : args.length = mi86.items.length) (h2 : mi86.dec (Th.start args) = some x) (h3 : F86 k x = some r) : CallOK Tryd.prog 86 args (ansOf (outL mo86.items r)) :=
  call_of hm hT (ok_O81 k) (fn := Tryd.f86) (c := c86) Tryd.func86 rfl rfl rfl (lk86 k) rfl (by decide) rfl h1 h2 h3
noncomputable def O86 (k : Nat) : Orc := fun R f args K => bif Nat.beq f 86 then callF mi86 mo86 (F86 k) args K else O81 k R f args K
theorem ok_O86 (k : Nat) : OrcOK (O86 k) (CallOK Tryd.prog) := orc_add (fn86 k) (ok_O81 k)
noncomputable def c89 : Code := Tryd.f89.body.getD .skip
noncomputable def mi89 : Msk := ⟨[(.tmp 0, .val (.slice (.slice (.int .u8)))), (.tmp 1, .val (.slice (.slice (.int .u8))))], []⟩
noncomputable def mo89 : Msk := ⟨[(.tmp 4, .val .bool)], []⟩
noncomputable def L89_4 (k : Nat) : LOrc := fun _ _ _ _ => none
noncomputable def b89_4 : Code := (findLoop 4 c89).getD .skip
noncomputable def m89_4 : Msk := ⟨[(.tmp 0, .val (.slice (.slice (.int .u8)))), (.tmp 1, .val (.slice (.slice (.int .u8)))), (.tmp 5, .val (.int .i64))], []⟩
noncomputable def x89_4 : List (X × Msk) := [(.exit 0, ⟨[], []⟩), (.ret, ⟨[(.tmp 4, .val .bool)], []⟩)]
noncomputable def F89_4 (k : Nat) : Nat → m89_4.den → Option (denE x89_4)
  | 0, _ => none
  | j + 1, v => round TI (O86 k) (L89_4 k) b89_4 m89_4 x89_4 (F89_4 k j) v
theorem lk89_4_ (k : Nat) : LinksOK Tryd.prog 28 (L89_4 k) b89_4 := (And.intro (And.intro True.intro (And.intro True.intro True.intro)) (And.intro (And.intro True.intro (And.intro (And.intro True.intro True.intro) True.intro)) True.intro))
noncomputable def L89 (k : Nat) : LOrc := fun R lk s K => match lk with
  | .loop r => bif Nat.beq r 4 then link m89_4 x89_4 (F89_4 k k) s K else none
  | .label l => none
theorem lk_L89_4 (k : Nat) : LoopOK Tryd.prog 28 (L89 k) b89_4 := loopOK_of hm hT (ok_O86 k) (fun _ _ _ h => h) rfl (lk89_4_ k) rfl rfl (F := F89_4 k) (fun _ => rfl) (fun _ _ => rfl) (n := k) fun _ _ _ => rfl
noncomputable def F89 (k : Nat) (v : mi89.den) : Option mo89.den := runF TI (O86 k) (L89 k) c89 mi89 mo89 v
theorem lk89 (k : Nat) : LinksOK Tryd.prog 28 (L89 k) c89 := (And.intro True.intro (And.intro (And.intro True.intro (And.intro (And.intro True.intro True.intro) True.intro)) (And.intro (And.intro True.intro (lk_L89_4 k)) (And.intro True.intro True.intro))))
theorem fn89 (k : Nat) (args : List AV) (x : mi89.den) (r : mo89.den) (h1 : args.length = mi89.items.length) (h2 : mi89.dec (Th.start args) = some x) (h3 : F89 k x = some r) : CallOK Tryd.prog 89 args (ansOf (outL mo89.items r)) :=
  call_of hm hT (ok_O86 k) (fn := Tryd.f89) (c := c89) Tryd.func89 rfl rfl rfl (lk89 k) rfl (by decide) rfl h1 h2 h3
noncomputable def O89 (k : Nat) : Orc := fun R f args K => bif Nat.beq f 89 then callF mi89 mo89 (F89 k) args K else O86 k R f args K
theorem ok_O89 (k : Nat) : OrcOK (O89 k) (CallOK Tryd.prog) := orc_add (fn89 k) (ok_O86 k)
noncomputable def c19 : Code := Tryd.f19.body.getD .skip
noncomputable def mi19 : Msk := ⟨[(.tmp 0, .val (.st (.cons (.slice (.int .u8)) (.cons .bool .nil)))), (.tmp 1, .val (.slice (.int .u8))), (.tmp 2, .val (.slice (.int .u8)))], []⟩
noncomputable def mo19 : Msk := ⟨[(.tmp 6, .val .bool)], []⟩
noncomputable def L19_10 (k : Nat) : LOrc := fun _ _ _ _ => none
noncomputable def b19_10 : Code := (findLoop 10 c19).getD .skip
noncomputable def m19_10 : Msk := ⟨[(.tmp 1, .val (.slice (.int .u8))), (.tmp 2, .val (.slice (.int .u8))), (.tmp 3, .ptr 3 0), (.tmp 7, .ptr 7 0), (.tmp 8, .row false (.slice (.int .u8))), (.tmp 9, .val (.int .i64)), (.tmp 10, .row false (.slice (.int .u8))), (.tmp 11, .val (.slice (.int .u8))), (.tmp 12, .val .bool), (.tmp 13, .val (.int .i64)), (.cell 3 0, .val (.slice (.int .u8))), (.cell 3 1, .val .bool), (.cell 7 0, .val (.slice (.int .u8))), (.cell 7 1, .val .bool)], [(3, 2), (7, 2)]⟩
noncomputable def x19_10 : List (X × Msk) := [(.exit 0, ⟨[], []⟩), (.ret, ⟨[(.tmp 6, .val .bool)], []⟩)]
noncomputable def F19_10 (k : Nat) : Nat → m19_10.den → Option (denE x19_10)
  | 0, _ => none
  | j + 1, v => round TI (O89 k) (L19_10 k) b19_10 m19_10 x19_10 (F19_10 k j) v
theorem lk19_10_ (k : Nat) : LinksOK Tryd.prog 120 (L19_10 k) b19_10 := (And.intro (And.intro True.intro (And.intro True.intro True.intro)) (And.intro (And.intro True.intro (And.intro True.intro (And.intro (And.intro True.intro (And.intro (And.intro True.intro (And.intro (And.intro True.intro (And.intro (And.intro True.intro True.intro) True.intro)) (And.intro True.intro True.intro))) True.intro)) (And.intro (And.intro True.intro (And.intro (And.intro True.intro (And.intro True.intro True.intro)) True.intro)) (And.intro True.intro True.intro))))) True.intro))
noncomputable def L19 (k : Nat) : LOrc := fun R lk s K => match lk with
  | .loop r => bif Nat.beq r 10 then link m19_10 x19_10 (F19_10 k k) s K else none
  | .label l => none
theorem lk_L19_10 (k : Nat) : LoopOK Tryd.prog 120 (L19 k) b19_10 := loopOK_of hm hT (ok_O89 k) (fun _ _ _ h => h) rfl (lk19_10_ k) rfl rfl (F := F19_10 k) (fun _ => rfl) (fun _ _ => rfl) (n := k) fun _ _ _ => rfl
noncomputable def F19 (k : Nat) (v : mi19.den) : Option mo19.den := runF TI (O89 k) (L19 k) c19 mi19 mo19 v
theorem lk19 (k : Nat) : LinksOK Tryd.prog 120 (L19 k) c19 := (And.intro True.intro (And.intro (And.intro True.intro (And.intro (And.intro True.intro True.intro) True.intro)) (And.intro (And.intro True.intro (And.intro (And.intro True.intro True.intro) True.intro)) (And.intro True.intro (And.intro True.intro (And.intro True.intro (And.intro True.intro (And.intro (And.intro True.intro (lk_L19_10 k)) (And.intro True.intro True.intro)))))))))
theorem fn19 (k : Nat) (args : List AV) (x : mi19.den) (r : mo19.den) (h1 : args.length = mi19.items.length) (h2 : mi19.dec (Th.start args) = some x) (h3 : F19 k x = some r) : CallOK Tryd.prog 19 args (ansOf (outL mo19.items r)) :=
  call_of hm hT (ok_O89 k) (fn := Tryd.f19) (c := c19) Tryd.func19 rfl rfl rfl (lk19 k) rfl (by decide) rfl h1 h2 h3
noncomputable def O19 (k : Nat) : Orc := fun R f args K => bif Nat.beq f 19 then callF mi19 mo19 (F19 k) args K else O89 k R f args K
theorem ok_O19 (k : Nat) : OrcOK (O19 k) (CallOK Tryd.prog) := orc_add (fn19 k) (ok_O89 k)
end Go.Proofs.YtjgnpmdbkgeakaaDoor.G
end
section
set_option maxRecDepth 1000000
set_option linter.unusedVariables false
set_option linter.unusedSimpArgs false
namespace Go.Proofs.YtjgnpmdbkgeakaaDoor.G
open Go Go.Proofs.YtjgnpmdbkgeakaaDoor Th
noncomputable def G175_2 (k : Nat) (j : Nat) (v : Int × List (Int × Int × Int × Unit) × Int × Int × Int × Int × Int × Unit) : Option (Int × Int × Int × Unit ⊕ Bool × Int × Int × Int × Unit) := F175_2 k j v
theorem G175_2_eq (k : Nat) (j : Nat) (v0 : Int) (v1 : List (Int × Int × Int × Unit)) (v2 v3 v4 v5 v6 : Int) : G175_2 k (j + 1) (v0, v1, v2, v3, v4, v5, v6, ()) = sel (decide (v3 < v2)) (sel (decide (0 ≤ v3)) (sel (decide (v3 < Int.ofNat v1.length)) (sel (decide (v3.toNat < v1.length)) (sel
 (decide ((v1.getD v3.toNat (0, 0, 0, ())).1 = v0)) (some (Sum.inr (true, (v1.getD v3.toNat (0, 0, 0, ())).1, (v1.getD v3.toNat (0, 0, 0, ())).2.1, (v1.getD v3.toNat (0, 0, 0, ())).2.2.1, ()))) (G175_2 k j (v0, v1, v2, IntKind.i64.wrap (v3 + 1), v4, v5, v6,
 ()))) none) none) none) (some (Sum.inl (v4, v5, v6, ()))) := by kernel_rfl
noncomputable def G175 (k : Nat) (v : Int × Unit) : Option ((Int × Int × Int × Unit) × Bool × Unit) := F175 k v
theorem G175_eq (k : Nat) (v0 : Int) : G175 k (v0, ()) = ocall (G175_2 k k (v0, [(2, 3, 19, ()), (3, 1, 6, ()), (4, 1, 12, ()), (7, 1, 10, ()), (11, 1, 6, ()), (12, 1, 6, ()), (37, 2, 12, ()), (38, 2, 6, ()), (39, 2, 2,
 ()), (41, 2, 8, ()), (44, 4, 25, ()), (48, 5, 999, ()), (49, 1, 3, ()), (90, 1, 42, ()), (120, 5, 999, ())], Int.ofNat 15, 0, 0, 0, 0, ())) fun e => esel e (fun v => some ((0, 0, 0, ()), false, ())) fun e => some
 ((e.2.1, e.2.2.1, e.2.2.2.1, ()), e.1, ()) := by kernel_rfl
noncomputable def G176 (k : Nat) (v : (Int × Int × Int × Unit) × Unit) : Option ((Int × Int × Unit) × Unit ⊕ (Int × Unit) × Unit) := F176 k v
theorem G176_eq (k : Nat) (v0 v1 v2 : Int) : G176 k ((v0, v1, v2, ()), ()) = sel (decide (v1 = 3)) (sel (decide (v1 = 3)) (some (Sum.inl ((2, v2, ()), ()))) (sel (decide (v1 = 5)) (some (Sum.inl ((3, v2, ()), ()))) (some (Sum.inr ((v2, ()),
 ()))))) (sel (decide (v1 = 4)) (some (Sum.inl ((2, v2, ()), ()))) (sel (decide (v1 = 5)) (some (Sum.inl ((3, v2, ()), ()))) (some (Sum.inr ((v2, ()), ()))))) := by kernel_rfl
noncomputable def G246 (k : Nat) (v : (Int × Int × Unit) × Int × Unit) : Option (Bool × Unit) := F246 k v
theorem G246_eq (k : Nat) (v0 v1 v2 : Int) : G246 k ((v0, v1, ()), v2, ()) = sel (decide (1 ≤ v2)) (some (decide (v2 ≤ v1), ())) (some (false, ())) := by kernel_rfl
noncomputable def G248 (k : Nat) (v : (Int × Unit) × Int × Unit) : Option (Bool × Unit) := F248 k v
theorem G248_eq (k : Nat) (v0 v1 : Int) : G248 k ((v0, ()), v1, ()) = some (decide (v1 = v0), ()) := by kernel_rfl
noncomputable def G169_g0 (k : Nat) (j : Nat) (v : List UInt8 × Int × Unit) : Option (Bool × Unit) := F169_g0 k j v
theorem G169_g0_eq (k : Nat) (j : Nat) (v0 : List UInt8) (v1 : Int) : G169_g0 k (j + 1) (v0, v1, ()) = sel (decide (v1 = Int.ofNat v0.length)) (some (decide (0 < v1), ())) (sel (decide (0 ≤ v1)) (sel (decide (v1 < Int.ofNat v0.length)) (sel (decide (Int.ofNat (v0.getD v1.toNat
 0).toNat < 48)) (some (false, ())) (sel (decide (0 ≤ v1)) (sel (decide (v1 < Int.ofNat v0.length)) (sel (decide (57 < Int.ofNat (v0.getD v1.toNat 0).toNat)) (some (false, ())) (G169_g0 k j (v0, IntKind.i64.wrap (v1 + 1), ()))) none) none)) none) none) := by kernel_rfl
noncomputable def G169 (k : Nat) (v : List UInt8 × Unit) : Option (Bool × Unit) := F169 k v
theorem G169_eq (k : Nat) (v0 : List UInt8) : G169 k (v0, ()) = sel (decide (0 = Int.ofNat v0.length)) (some (false, ())) (sel (decide (0 < Int.ofNat v0.length)) (sel (decide (Int.ofNat (v0.getD (Int.toNat 0) 0).toNat < 48)) (some (false, ())) (sel (decide (0 < Int.ofNat
 v0.length)) (sel (decide (57 < Int.ofNat (v0.getD (Int.toNat 0) 0).toNat)) (some (false, ())) (ocall (G169_g0 k k (v0, IntKind.i64.wrap (0 + 1), ())) fun e => some (e.1, ()))) none)) none) := by kernel_rfl
noncomputable def G177 (k : Nat) (v : (Int × Int × Int × Unit) × List UInt8 × Unit) : Option (Bool × Unit) := F177 k v
theorem G177_eq (k : Nat) (v0 v1 v2 : Int) (v3 : List UInt8) : G177 k ((v0, v1, v2, ()), v3, ()) = sel (decide (v3.length ≤ 9223372036854775807)) (ocall (G169 k (v3, ())) fun r => some (Signs.signsOf v1 r.1 v3, ())) none := by kernel_rfl
noncomputable def G117 (k : Nat) (v : Int × List UInt8 × Unit) : Option (Bool × Unit) := F117 k v
theorem G117_eq (k : Nat) (v0 : Int) (v1 : List UInt8) : G117 k (v0, v1, ()) = ocall (G175 k (v0, ())) fun r => sel r.2.1 (ocall (G176 k ((r.1.1, r.1.2.1, r.1.2.2.1, ()), ())) fun r_1 => esel r_1 (fun v => ocall (G246 k ((v.1.1, v.1.2.1, ()), Int.ofNat
 v1.length, ())) fun r_2 => sel r_2.1 (ocall (G177 k ((r.1.1, r.1.2.1, r.1.2.2.1, ()), v1, ())) fun r => some (r.1, ())) (some (false, ()))) fun e => ocall (G248 k ((e.1.1, ()), Int.ofNat v1.length, ())) fun r_2 => sel r_2.1 (ocall (G177 k
 ((r.1.1, r.1.2.1, r.1.2.2.1, ()), v1, ())) fun r => some (r.1, ())) (some (false, ()))) (some (false, ())) := by kernel_rfl
noncomputable def G245 (k : Nat) (v : (Int × Int × Unit) × Unit) : Option (Int × Unit) := F245 k v
theorem G245_eq (k : Nat) (v0 v1 : Int) : G245 k ((v0, v1, ()), ()) = some (v0, ()) := by kernel_rfl
noncomputable def G247 (k : Nat) (v : (Int × Unit) × Unit) : Option (Int × Unit) := F247 k v
theorem G247_eq (k : Nat) (v0 : Int) : G247 k ((v0, ()), ()) = some (0, ()) := by kernel_rfl
noncomputable def G105_5 (k : Nat) (j : Nat) (v : Int × List Int × Int × Unit) : Option (Int × List Int × Unit) := F105_5 k j v
theorem G105_5_eq (k : Nat) (j : Nat) (v0 : Int) (v1 : List Int) (v2 : Int) : G105_5 k (j + 1) (v0, v1, v2, ()) = sel (decide (0 ≤ v2)) (sel (decide (0 ≤ v2)) (sel (decide (v2 < Int.ofNat v1.length)) (sel (decide (v2.toNat < v1.length)) (G105_5 k j (IntKind.u64.wrap (v0.tdiv 10), v1.set
 v2.toNat (IntKind.u8.wrap (48 + IntKind.u8.wrap (v0.tmod 10))), IntKind.i64.wrap (v2 - 1), ())) none) none) none) (some (v0, v1, ())) := by kernel_rfl
noncomputable def G105 (k : Nat) (v : Int × Int × Unit) : Option (List UInt8 × Int × Unit) := F105 k v
theorem G105_eq (k : Nat) (v0 v1 : Int) : G105 k (v0, v1, ()) = sel (decide (v1 < 1)) (some ([], 1, ())) (sel (decide (19 < v1)) (some ([], 1, ())) (sel (decide (0 ≤ v1)) (sel (decide (v1 ≤ v1)) (sel (decide (v1 ≤ 140737488355328)) (sel (decide (v1 * Int.ofNat 1 ≤
 140737488355328)) (ocall (G105_5 k k (v0, List.replicate v1.toNat 0, IntKind.i64.wrap (v1 - 1), ())) fun e => sel (decide (0 < e.1)) (some ([], 10, ())) (some (ofBytes e.2.1, 0, ()))) none) none) none) none)) := by kernel_rfl
noncomputable def G139 (k : Nat) (v : Int × List UInt8 × Unit) : Option (List Int × Int × Unit) := F139 k v
theorem G139_eq (k : Nat) (v0 : Int) (v1 : List UInt8) : G139 k (v0, v1, ()) = ocall (G175 k (v0, ())) fun r => sel (!r.2.1) (some ([], 5, ())) (ocall (G117 k (v0, v1, ())) fun r_1 => sel (!r_1.1) (some ([], 1, ())) (ocall (G176 k ((r.1.1, r.1.2.1, r.1.2.2.1,
 ()), ())) fun r => esel r (fun v => ocall (G245 k ((v.1.1, v.1.2.1, ()), ())) fun r => sel (decide (0 < r.1)) (ocall (G105 k (IntKind.u64.wrap (Int.ofNat v1.length), r.1, ())) fun r => sel (decide (r.1.length + v1.length ≤ 140737488355328)) (some (toBytes (r.1
 ++ v1), 0, ())) none) (some (toBytes v1, 0, ()))) fun e => ocall (G247 k ((e.1.1, ()), ())) fun r => sel (decide (0 < r.1)) (ocall (G105 k (IntKind.u64.wrap (Int.ofNat v1.length), r.1, ())) fun r => sel (decide (r.1.length + v1.length ≤ 140737488355328)) (some
 (toBytes (r.1 ++ v1), 0, ())) none) (some (toBytes v1, 0, ())))) := by kernel_rfl
noncomputable def G172_9 (k : Nat) (j : Nat) (v : Int × List Int × Int × Int × Unit) : Option (Int × Unit) := F172_9 k j v
theorem G172_9_eq (k : Nat) (j : Nat) (v0 : Int) (v1 : List Int) (v2 v3 : Int) : G172_9 k (j + 1) (v0, v1, v2, v3, ()) = sel (decide (v3 < v2)) (sel (decide (0 ≤ v3)) (sel (decide (v3 < Int.ofNat v1.length)) (sel (decide (v3.toNat < v1.length)) (G172_9 k j (IntKind.u64.wrap (IntKind.u64.wrap
 (10 * v0) + IntKind.u64.wrap (IntKind.u8.wrap (v1.getD v3.toNat 0 - 48))), v1, v2, IntKind.i64.wrap (v3 + 1), ())) none) none) none) (some (v0, ())) := by kernel_rfl
noncomputable def G172 (k : Nat) (v : List UInt8 × Unit) : Option (Int × Int × Unit) := F172 k v
theorem G172_eq (k : Nat) (v0 : List UInt8) : G172 k (v0, ()) = sel (decide (v0 = [])) (some (0, 2, ())) (sel (decide (19 < Int.ofNat v0.length)) (some (0, 4, ())) (ocall (G169 k (v0, ())) fun r => sel (!r.1) (some (0, 3, ())) (ocall (G172_9 k k (0, toBytes
 v0, Int.ofNat (toBytes v0).length, 0, ())) fun e => some (e.1, 0, ())))) := by kernel_rfl
noncomputable def G195 (k : Nat) (v : (Int × Int × Int × Unit) × List Int × Unit) : Option (Int × Int × Unit) := F195 k v
theorem G195_eq (k : Nat) (v0 v1 v2 : Int) (v3 : List Int) : G195 k ((v0, v1, v2, ()), v3, ()) = ocall (G176 k ((v0, v1, v2, ()), ())) fun r => esel r (fun v => ocall (G245 k ((v.1.1, v.1.2.1, ()), ())) fun r => sel (decide (r.1 = 0)) (some (v2, 0,
 ())) (sel (decide (Int.ofNat v3.length < r.1)) (some (0, 2, ())) (sel (decide (Int.ofNat 0 ≤ r.1)) (sel (decide (r.1 ≤ Int.ofNat v3.length)) (sel (decide (Int.ofNat v3.length ≤ Int.ofNat v3.length)) (ocall (G172 k (ofBytes (List.drop (Int.ofNat 0).toNat (List.take r.1.toNat v3)),
 ())) fun r => sel (!decide (r.2.1 = 0)) (sel (!decide (r.2.1 = 0)) (some (0, 3, ())) (sel (decide (IntKind.u64.wrap v2 < r.1)) (some (0, 4, ())) (some (IntKind.i64.wrap r.1, 0, ())))) (sel (decide (r.1 = 0)) (some (0, 3, ())) (sel (decide (IntKind.u64.wrap v2
 < r.1)) (some (0, 4, ())) (some (IntKind.i64.wrap r.1, 0, ()))))) none) none) none))) fun e => ocall (G247 k ((e.1.1, ()), ())) fun r => sel (decide (r.1 = 0)) (some (v2, 0, ())) (sel (decide (Int.ofNat v3.length < r.1)) (some (0, 2, ())) (sel (decide
 (Int.ofNat 0 ≤ r.1)) (sel (decide (r.1 ≤ Int.ofNat v3.length)) (sel (decide (Int.ofNat v3.length ≤ Int.ofNat v3.length)) (ocall (G172 k (ofBytes (List.drop (Int.ofNat 0).toNat (List.take r.1.toNat v3)), ())) fun r => sel (!decide (r.2.1 = 0)) (sel (!decide (r.2.1 = 0)) (some (0, 3,
 ())) (sel (decide (IntKind.u64.wrap v2 < r.1)) (some (0, 4, ())) (some (IntKind.i64.wrap r.1, 0, ())))) (sel (decide (r.1 = 0)) (some (0, 3, ())) (sel (decide (IntKind.u64.wrap v2 < r.1)) (some (0, 4, ())) (some (IntKind.i64.wrap r.1, 0, ()))))) none)
 none) none)) := by kernel_rfl
noncomputable def G144 (k : Nat) (v : Int × List Int × Unit) : Option (List UInt8 × Int × Int × Unit) := F144 k v
theorem G144_eq (k : Nat) (v0 : Int) (v1 : List Int) : G144 k (v0, v1, ()) = ocall (G175 k (v0, ())) fun r => sel (!r.2.1) (some ([], 0, 5, ())) (ocall (G195 k ((r.1.1, r.1.2.1, r.1.2.2.1, ()), v1, ())) fun r_1 => sel (!decide (r_1.2.1 = 0)) (some ([], 0,
 r_1.2.1, ())) (ocall (G176 k ((r.1.1, r.1.2.1, r.1.2.2.1, ()), ())) fun r_2 => esel r_2 (fun v => ocall (G245 k ((v.1.1, v.1.2.1, ()), ())) fun r_3 => sel (decide (Int.ofNat v1.length < IntKind.i64.wrap (r_3.1 + r_1.1))) (some ([], 0, 2, ())) (sel
 (decide (0 ≤ r_3.1)) (sel (decide (r_3.1 ≤ IntKind.i64.wrap (r_3.1 + r_1.1))) (sel (decide (IntKind.i64.wrap (r_3.1 + r_1.1) ≤ Int.ofNat v1.length)) (sel (decide (Int.ofNat v1.length ≤ Int.ofNat v1.length)) (ocall (G177 k ((r.1.1, r.1.2.1, r.1.2.2.1, ()), ofBytes (List.drop r_3.1.toNat
 (List.take (IntKind.i64.wrap (r_3.1 + r_1.1)).toNat v1)), ())) fun r => sel (!r.1) (some ([], 0, 3, ())) (some (ofBytes (List.drop r_3.1.toNat (List.take (IntKind.i64.wrap (r_3.1 + r_1.1)).toNat v1)), IntKind.i64.wrap (r_3.1 + r_1.1), 0, ()))) none) none) none) none)) fun e
 => ocall (G247 k ((e.1.1, ()), ())) fun r_3 => sel (decide (Int.ofNat v1.length < IntKind.i64.wrap (r_3.1 + r_1.1))) (some ([], 0, 2, ())) (sel (decide (0 ≤ r_3.1)) (sel (decide (r_3.1 ≤ IntKind.i64.wrap (r_3.1 + r_1.1))) (sel (decide (IntKind.i64.wrap (r_3.1 + r_1.1) ≤
 Int.ofNat v1.length)) (sel (decide (Int.ofNat v1.length ≤ Int.ofNat v1.length)) (ocall (G177 k ((r.1.1, r.1.2.1, r.1.2.2.1, ()), ofBytes (List.drop r_3.1.toNat (List.take (IntKind.i64.wrap (r_3.1 + r_1.1)).toNat v1)), ())) fun r => sel (!r.1) (some ([], 0, 3, ())) (some
 (ofBytes (List.drop r_3.1.toNat (List.take (IntKind.i64.wrap (r_3.1 + r_1.1)).toNat v1)), IntKind.i64.wrap (r_3.1 + r_1.1), 0, ()))) none) none) none) none))) := by kernel_rfl
noncomputable def G42 (k : Nat) (v : Int × Unit) : Option (Bool × Unit) := F42 k v
theorem G42_eq (k : Nat) (v0 : Int) : G42 k (v0, ()) = sel (decide (v0 = 1)) (sel (decide (v0 = 1)) (some (true, ())) (some (false, ()))) (sel (decide (v0 = 3)) (sel (decide (v0 = 3)) (some (true, ())) (some (false, ()))) (sel (decide (v0 = 5)) (sel (decide
 (v0 = 5)) (some (true, ())) (some (false, ()))) (sel (decide (v0 = 6)) (some (true, ())) (some (false, ()))))) := by kernel_rfl
noncomputable def G170 (k : Nat) (v : List UInt8 × Bool × Unit) : Option (Int × Unit) := F170 k v
theorem G170_eq (k : Nat) (v0 : List UInt8) (v1 : Bool) : G170 k (v0, v1, ()) = sel (decide (v0.length ≤ 9223372036854775807)) (some ((Sum.sumOf (Sum.backs (toBytes v0)) v1).1, ())) none := by kernel_rfl
noncomputable def G107 (k : Nat) (v : List UInt8 × Unit) : Option (Bool × Unit) := F107 k v
theorem G107_eq (k : Nat) (v0 : List UInt8) : G107 k (v0, ()) = ocall (G169 k (v0, ())) fun r => sel r.1 (ocall (G170 k (v0, false, ())) fun r => some (decide (r.1.tmod 10 = 0), ())) (some (false, ())) := by kernel_rfl
noncomputable def G108 (k : Nat) (v : Int × Unit) : Option (List UInt8 × Unit) := F108 k v
theorem G108_eq (k : Nat) (v0 : Int) : G108 k (v0, ()) = sel (decide (v0 < 0)) (some ([], ())) (sel (decide (8 ≤ v0)) (some ([], ())) (sel (decide (0 ≤ v0)) (sel (decide (v0 < Int.ofNat 8)) (some ([[], [48, 49, 48, 48], [48, 49, 49, 48], [48, 52, 48, 48], [48, 52, 49, 48],
 [48, 52, 50, 48], [48, 52, 50, 49], [48, 52, 51, 48]].getD v0.toNat [], ())) none) none)) := by kernel_rfl
noncomputable def G109 (k : Nat) (v : (Int × List UInt8 × Int × Int × List UInt8 × List UInt8 × Unit) × Unit) : Option (List (Int × List UInt8 × Unit) × Unit) := F109 k v
theorem G109_eq (k : Nat) (v0 : Int) (v1 : List UInt8) (v2 v3 : Int) (v4 v5 : List UInt8) : G109 k ((v0, v1, v2, v3, v4, v5, ()), ()) = ocall (G105 k (IntKind.u64.wrap v3, 6, ())) fun r => ocall (G42 k (v0, ())) fun r_1 => sel (!r_1.1) (some ([(11, r.1, ()),
 (37, v4, ()), (39, v5, ())], ())) (ocall (G105 k (v2, 12, ())) fun r_2 => sel (decide (5 ≤ v0)) (ocall (G108 k (1, ())) fun r_3 => sel (decide (r_3.1.length + r.1.length ≤ 140737488355328)) (sel (decide ((r_3.1 ++ r.1).length + 32 ≤ 140737488355328)) (some
 ([(2, v1, ()), (4, r_2.1, ()), (11, r.1, ()), (37, v4, ()), (90, r_3.1 ++ r.1 ++ [48, 48, 48, 48, 48, 48, 48, 48, 48, 48, 48, 48, 48, 48, 48, 48, 48, 48, 48, 48, 48, 48, 48, 48, 48, 48, 48, 48, 48, 48, 48, 48], ())], ())) none) none) (some ([(2, v1,
 ()), (4, r_2.1, ()), (11, r.1, ()), (37, v4, ())], ()))) := by kernel_rfl
noncomputable def G121 (k : Nat) (v : List UInt8 × Unit) : Option (Bool × Unit) := F121 k v
theorem G121_eq (k : Nat) (v0 : List UInt8) : G121 k (v0, ()) = sel (decide (v0 = [48, 49, 48, 48])) (sel (decide (v0 = [48, 49, 48, 48])) (some (true, ())) (some (false, ()))) (sel (decide (v0 = [48, 49, 49, 48])) (sel (decide (v0 = [48, 49, 49, 48])) (some (true,
 ())) (some (false, ()))) (sel (decide (v0 = [48, 52, 48, 48])) (sel (decide (v0 = [48, 52, 48, 48])) (some (true, ())) (some (false, ()))) (sel (decide (v0 = [48, 52, 49, 48])) (sel (decide (v0 = [48, 52, 49, 48])) (some (true, ())) (some (false, ())))
 (sel (decide (v0 = [48, 52, 50, 48])) (sel (decide (v0 = [48, 52, 50, 48])) (some (true, ())) (some (false, ()))) (sel (decide (v0 = [48, 52, 50, 49])) (sel (decide (v0 = [48, 52, 50, 49])) (some (true, ())) (some (false, ()))) (sel (decide (v0 = [48, 52, 51, 48]))
 (some (true, ())) (some (false, ())))))))) := by kernel_rfl
noncomputable def G44_3 (k : Nat) (j : Nat) (v : Int × List (Int × List UInt8 × Unit) × Int × Int × List UInt8 × List (Int × List UInt8 × Unit) × Unit) : Option (List UInt8 × List (Int × List UInt8 × Unit) × Unit ⊕ Bool × Unit) := F44_3 k j v
theorem G44_3_eq (k : Nat) (j : Nat) (v0 : Int) (v1 : List (Int × List UInt8 × Unit)) (v2 v3 : Int) (v4 : List UInt8) (v5 : List (Int × List UInt8 × Unit)) : G44_3 k (j + 1) (v0, v1, v2, v3, v4, v5, ()) = sel (decide (v3 < v2)) (sel (decide (0 ≤ v3)) (sel (decide (v3 < Int.ofNat
 v1.length)) (sel (decide ((v1.getD v3.toNat (0, [], ())).1 ≤ v0)) (some (Sum.inr (false, ()))) (ocall (G117 k ((v1.getD v3.toNat (0, [], ())).1, (v1.getD v3.toNat (0, [], ())).2.1, ())) fun r => sel (!r.1) (some (Sum.inr (false, ()))) (G44_3 k j
 ((v1.getD v3.toNat (0, [], ())).1, v1, v2, IntKind.i64.wrap (v3 + 1), v4, v5, ())))) none) none) (some (Sum.inl (v4, v5, ()))) := by kernel_rfl
noncomputable def G44 (k : Nat) (v : (List UInt8 × List (Int × List UInt8 × Unit) × Unit) × Unit) : Option (Bool × Unit) := F44 k v
theorem G44_eq (k : Nat) (v0 : List UInt8) (v1 : List (Int × List UInt8 × Unit)) : G44 k ((v0, v1, ()), ()) = ocall (G44_3 k k (0, v1, Int.ofNat v1.length, 0, v0, v1, ())) fun e => esel e (fun v => ocall (G121 k (v.1, ())) fun r => sel r.1 (some (decide (0 <
 Int.ofNat v.2.1.length), ())) (some (false, ()))) fun e => some (e.1, ()) := by kernel_rfl
noncomputable def G33 (k : Nat) (v : (Int × List UInt8 × Int × Int × List UInt8 × List UInt8 × Unit) × Unit) : Option (Bool × Unit) := F33 k v
theorem G33_eq (k : Nat) (v0 : Int) (v1 : List UInt8) (v2 v3 : Int) (v4 v5 : List UInt8) : G33 k ((v0, v1, v2, v3, v4, v5, ()), ()) = ocall (G42 k (v0, ())) fun r => sel r.1 (sel (!decide (v5 = [])) (some (false, ())) (ocall (G107 k (v1, ())) fun r => sel
 (!r.1) (some (false, ())) (ocall (G108 k (v0, ())) fun r => ocall (G109 k ((v0, v1, v2, v3, v4, v5, ()), ())) fun r_1 => ocall (G44 k ((r.1, r_1.1, ()), ())) fun r => some (r.1, ())))) (sel (!decide (v1 = [])) (some (false, ())) (sel
 (!decide (v2 = 0)) (some (false, ())) (ocall (G108 k (v0, ())) fun r => ocall (G109 k ((v0, v1, v2, v3, v4, v5, ()), ())) fun r_1 => ocall (G44 k ((r.1, r_1.1, ()), ())) fun r => some (r.1, ())))) := by kernel_rfl
noncomputable def G27 (k : Nat) (v : (Int × List UInt8 × Unit) × Unit) : Option (Bool × Unit) := F27 k v
theorem G27_eq (k : Nat) (v0 : Int) (v1 : List UInt8) : G27 k ((v0, v1, ()), ()) = ocall (G33 k ((7, [], 0, v0, v1, [48, 48], ()), ())) fun r => some (r.1, ()) := by kernel_rfl
noncomputable def G26 (k : Nat) (v : (Int × List UInt8 × Int × Int × List UInt8 × List UInt8 × Unit) × Unit) : Option ((Int × List UInt8 × Unit) × Unit) := F26 k v
theorem G26_eq (k : Nat) (v0 : Int) (v1 : List UInt8) (v2 v3 : Int) (v4 v5 : List UInt8) : G26 k ((v0, v1, v2, v3, v4, v5, ()), ()) = some ((v3, v4, ()), ()) := by kernel_rfl
end Go.Proofs.YtjgnpmdbkgeakaaDoor.G
end
section
set_option maxRecDepth 1000000
set_option linter.unusedVariables false
set_option linter.unusedSimpArgs false
namespace Go.Proofs.YtjgnpmdbkgeakaaDoor.G
open Go Go.Proofs.YtjgnpmdbkgeakaaDoor Th
noncomputable def G37 (k : Nat) (v : (Int × List UInt8 × Int × Int × List UInt8 × List UInt8 × Unit) × Unit) : Option ((List UInt8 × List (Int × List UInt8 × Unit) × Unit) × Int × Unit) := F37 k v
theorem G37_eq (k : Nat) (v0 : Int) (v1 : List UInt8) (v2 v3 : Int) (v4 v5 : List UInt8) : G37 k ((v0, v1, v2, v3, v4, v5, ()), ()) = ocall (G33 k ((v0, v1, v2, v3, v4, v5, ()), ())) fun r => sel (!r.1) (some (([], [], ()), 1, ())) (ocall (G108 k (v0,
 ())) fun r => ocall (G109 k ((v0, v1, v2, v3, v4, v5, ()), ())) fun r_1 => some ((r.1, r_1.1, ()), 0, ())) := by kernel_rfl
noncomputable def G113_2 (k : Nat) (j : Nat) (v : List UInt8 × Int × Unit) : Option (Unit ⊕ Int × Unit) := F113_2 k j v
theorem G113_2_eq (k : Nat) (j : Nat) (v0 : List UInt8) (v1 : Int) : G113_2 k (j + 1) (v0, v1, ()) = sel (decide (v1 ≤ 7)) (ocall (G108 k (v1, ())) fun r => sel (decide (r.1 = v0)) (some (Sum.inr (v1, ()))) (G113_2 k j (v0, IntKind.i64.wrap (v1 + 1), ()))) (some
 (Sum.inl ())) := by kernel_rfl
noncomputable def G113 (k : Nat) (v : List UInt8 × Unit) : Option (Int × Unit) := F113 k v
theorem G113_eq (k : Nat) (v0 : List UInt8) : G113 k (v0, ()) = ocall (G113_2 k k (v0, 1, ())) fun e => esel e (fun v => some (0, ())) fun e => some (e.1, ()) := by kernel_rfl
noncomputable def G174 (k : Nat) (v : (Int × List UInt8 × Unit) × (Int × Unit) × Unit) : Option (Bool × Unit) := F174 k v
theorem G174_eq (k : Nat) (v0 : Int) (v1 : List UInt8) (v2 : Int) : G174 k ((v0, v1, ()), (v2, ()), ()) = some (decide (v0 = v2), ()) := by kernel_rfl
noncomputable def G7000000_2 (k : Nat) (j : Nat) (v : List (Int × List UInt8 × Unit) × ((Int × Unit) × Unit) × Int × Int × Unit) : Option (Unit ⊕ Int × Unit) := F7000000_2 k j v
theorem G7000000_2_eq (k : Nat) (j : Nat) (v0 : List (Int × List UInt8 × Unit)) (v1 v2 v3 : Int) : G7000000_2 k (j + 1) (v0, ((v1, ()), ()), v2, v3, ()) = sel (decide (v3 < v2)) (sel (decide (0 ≤ v3)) (sel (decide (v3 < Int.ofNat v0.length)) (ocall (G174 k (((v0.getD
 v3.toNat (0, [], ())).1, (v0.getD v3.toNat (0, [], ())).2.1, ()), (v1, ()), ())) fun r => sel r.1 (some (Sum.inr (v3, ()))) (G7000000_2 k j (v0, ((v1, ()), ()), v2, IntKind.i64.wrap (v3 + 1), ()))) none) none) (some (Sum.inl
 ())) := by kernel_rfl
noncomputable def G7000000 (k : Nat) (v : List (Int × List UInt8 × Unit) × ((Int × Unit) × Unit) × Unit) : Option (Int × Unit) := F7000000 k v
theorem G7000000_eq (k : Nat) (v0 : List (Int × List UInt8 × Unit)) (v1 : Int) : G7000000 k (v0, ((v1, ()), ()), ()) = ocall (G7000000_2 k k (v0, ((v1, ()), ()), Int.ofNat v0.length, 0, ())) fun e => esel e (fun v => some ((-1 : Int), ())) fun
 e => some (e.1, ()) := by kernel_rfl
noncomputable def G115 (k : Nat) (v : (List UInt8 × List (Int × List UInt8 × Unit) × Unit) × Int × Unit) : Option (List UInt8 × Bool × Unit) := F115 k v
theorem G115_eq (k : Nat) (v0 : List UInt8) (v1 : List (Int × List UInt8 × Unit)) (v2 : Int) : G115 k ((v0, v1, ()), v2, ()) = ocall (G7000000 k (v1, ((v2, ()), ()), ())) fun r => sel (decide (r.1 < 0)) (some ([], false, ())) (sel (decide (0 ≤ r.1))
 (sel (decide (r.1 < Int.ofNat v1.length)) (some ((v1.getD r.1.toNat (0, [], ())).2.1, true, ())) none) none) := by kernel_rfl
noncomputable def G114 (k : Nat) (v : (List UInt8 × List (Int × List UInt8 × Unit) × Unit) × Int × Unit) : Option (Int × Unit) := F114 k v
theorem G114_eq (k : Nat) (v0 : List UInt8) (v1 : List (Int × List UInt8 × Unit)) (v2 : Int) : G114 k ((v0, v1, ()), v2, ()) = ocall (G115 k ((v0, v1, ()), v2, ())) fun r => ocall (G172 k (r.1, ())) fun r => some (r.1, ()) := by kernel_rfl
noncomputable def G116_5 (k : Nat) (j : Nat) (v : List (Int × List UInt8 × Unit) × Int × Int × List UInt8 × List (Int × List UInt8 × Unit) × Unit) : Option (Unit ⊕ Bool × Unit) := F116_5 k j v
theorem G116_5_eq (k : Nat) (j : Nat) (v0 : List (Int × List UInt8 × Unit)) (v1 v2 : Int) (v3 : List UInt8) (v4 : List (Int × List UInt8 × Unit)) : G116_5 k (j + 1) (v0, v1, v2, v3, v4, ()) = sel (decide (v2 < v1)) (sel (decide (0 ≤ v2)) (sel (decide (v2 < Int.ofNat v0.length)) (sel
 (decide (v2.toNat < v0.length)) (sel (decide (0 ≤ v2)) (sel (decide (v2 < Int.ofNat v4.length)) (sel (!decide ((v4.getD v2.toNat (0, [], ())).1 = (v0.getD v2.toNat (0, [], ())).1)) (some (Sum.inr (false, ()))) (G116_5 k j (v0, v1, IntKind.i64.wrap (v2 + 1), v3, v4,
 ()))) none) none) none) none) none) (some (Sum.inl ())) := by kernel_rfl
noncomputable def G116 (k : Nat) (v : (List UInt8 × List (Int × List UInt8 × Unit) × Unit) × (Int × List UInt8 × Int × Int × List UInt8 × List UInt8 × Unit) × Unit) : Option (Bool × Unit) := F116 k v
theorem G116_eq (k : Nat) (v0 : List UInt8) (v1 : List (Int × List UInt8 × Unit)) (v2 : Int) (v3 : List UInt8) (v4 v5 : Int) (v6 v7 : List UInt8) : G116 k ((v0, v1, ()), (v2, v3, v4, v5, v6, v7, ()), ()) = ocall (G109 k ((v2, v3, v4, v5, v6, v7, ()), ())) fun
 r => sel (!decide (Int.ofNat r.1.length = Int.ofNat v1.length)) (some (false, ())) (ocall (G116_5 k k (r.1, Int.ofNat r.1.length, 0, v0, v1, ())) fun e => esel e (fun v => some (true, ())) fun e => some (e.1, ())) := by kernel_rfl
noncomputable def G40 (k : Nat) (v : (List UInt8 × List (Int × List UInt8 × Unit) × Unit) × Unit) : Option ((Int × List UInt8 × Int × Int × List UInt8 × List UInt8 × Unit) × Int × Unit) := F40 k v
theorem G40_eq (k : Nat) (v0 : List UInt8) (v1 : List (Int × List UInt8 × Unit)) : G40 k ((v0, v1, ()), ()) = ocall (G44 k ((v0, v1, ()), ())) fun r => sel (!r.1) (some ((0, [], 0, 0, [], [], ()), 1, ())) (ocall (G113 k (v0, ())) fun r =>
 ocall (G114 k ((v0, v1, ()), 11, ())) fun r_1 => ocall (G114 k ((v0, v1, ()), 4, ())) fun r_2 => ocall (G115 k ((v0, v1, ()), 2, ())) fun r_3 => ocall (G115 k ((v0, v1, ()), 37, ())) fun r_4 => ocall (G115 k ((v0, v1, ()), 39,
 ())) fun r_5 => ocall (G115 k ((v0, v1, ()), 90, ())) fun r_6 => ocall (G116 k ((v0, v1, ()), (r.1, r_3.1, r_2.1, IntKind.u32.wrap r_1.1, r_4.1, r_5.1, ()), ())) fun r_7 => sel (!r_7.1) (sel (!r_7.1) (some ((0, [], 0, 0, [], [], ()), 3,
 ())) (sel (decide (5 ≤ r.1)) (ocall (G42 k (r.1, ())) fun r_8 => sel r_8.1 (ocall (G109 k ((r.1, r_3.1, r_2.1, IntKind.u32.wrap r_1.1, r_4.1, r_5.1, ()), ())) fun r_9 => sel (decide (4 < Int.ofNat r_9.1.length)) (sel (decide (Int.toNat 4 < r_9.1.length)) (sel (!decide
 (r_6.1 = (r_9.1.getD (Int.toNat 4) (0, [], ())).2.1)) (some ((0, [], 0, 0, [], [], ()), 11, ())) (ocall (G117 k (37, r_4.1, ())) fun r_10 => sel (!r_10.1) (some ((0, [], 0, 0, [], [], ()), 3, ())) (some ((r.1, r_3.1, r_2.1, IntKind.u32.wrap r_1.1,
 r_4.1, r_5.1, ()), 0, ())))) none) none) (ocall (G117 k (37, r_4.1, ())) fun r_9 => sel (!r_9.1) (some ((0, [], 0, 0, [], [], ()), 3, ())) (some ((r.1, r_3.1, r_2.1, IntKind.u32.wrap r_1.1, r_4.1, r_5.1, ()), 0, ())))) (ocall (G117 k (37,
 r_4.1, ())) fun r_8 => sel (!r_8.1) (some ((0, [], 0, 0, [], [], ()), 3, ())) (some ((r.1, r_3.1, r_2.1, IntKind.u32.wrap r_1.1, r_4.1, r_5.1, ()), 0, ()))))) (ocall (G42 k (r.1, ())) fun r_8 => sel r_8.1 (ocall (G107 k (r_3.1, ())) fun r_9 =>
 sel (!r_9.1) (some ((0, [], 0, 0, [], [], ()), 3, ())) (sel (decide (5 ≤ r.1)) (ocall (G42 k (r.1, ())) fun r_10 => sel r_10.1 (ocall (G109 k ((r.1, r_3.1, r_2.1, IntKind.u32.wrap r_1.1, r_4.1, r_5.1, ()), ())) fun r_11 => sel (decide (4 < Int.ofNat
 r_11.1.length)) (sel (decide (Int.toNat 4 < r_11.1.length)) (sel (!decide (r_6.1 = (r_11.1.getD (Int.toNat 4) (0, [], ())).2.1)) (some ((0, [], 0, 0, [], [], ()), 11, ())) (ocall (G117 k (37, r_4.1, ())) fun r_12 => sel (!r_12.1) (some ((0, [], 0, 0, [], [],
 ()), 3, ())) (some ((r.1, r_3.1, r_2.1, IntKind.u32.wrap r_1.1, r_4.1, r_5.1, ()), 0, ())))) none) none) (ocall (G117 k (37, r_4.1, ())) fun r_11 => sel (!r_11.1) (some ((0, [], 0, 0, [], [], ()), 3, ())) (some ((r.1, r_3.1, r_2.1,
 IntKind.u32.wrap r_1.1, r_4.1, r_5.1, ()), 0, ())))) (ocall (G117 k (37, r_4.1, ())) fun r_10 => sel (!r_10.1) (some ((0, [], 0, 0, [], [], ()), 3, ())) (some ((r.1, r_3.1, r_2.1, IntKind.u32.wrap r_1.1, r_4.1, r_5.1, ()), 0, ()))))) (sel
 (decide (5 ≤ r.1)) (ocall (G42 k (r.1, ())) fun r_9 => sel r_9.1 (ocall (G109 k ((r.1, r_3.1, r_2.1, IntKind.u32.wrap r_1.1, r_4.1, r_5.1, ()), ())) fun r_10 => sel (decide (4 < Int.ofNat r_10.1.length)) (sel (decide (Int.toNat 4 < r_10.1.length)) (sel (!decide (r_6.1 =
 (r_10.1.getD (Int.toNat 4) (0, [], ())).2.1)) (some ((0, [], 0, 0, [], [], ()), 11, ())) (ocall (G117 k (37, r_4.1, ())) fun r_11 => sel (!r_11.1) (some ((0, [], 0, 0, [], [], ()), 3, ())) (some ((r.1, r_3.1, r_2.1, IntKind.u32.wrap r_1.1, r_4.1,
 r_5.1, ()), 0, ())))) none) none) (ocall (G117 k (37, r_4.1, ())) fun r_10 => sel (!r_10.1) (some ((0, [], 0, 0, [], [], ()), 3, ())) (some ((r.1, r_3.1, r_2.1, IntKind.u32.wrap r_1.1, r_4.1, r_5.1, ()), 0, ())))) (ocall (G117 k (37, r_4.1,
 ())) fun r_9 => sel (!r_9.1) (some ((0, [], 0, 0, [], [], ()), 3, ())) (some ((r.1, r_3.1, r_2.1, IntKind.u32.wrap r_1.1, r_4.1, r_5.1, ()), 0, ())))))) := by kernel_rfl
noncomputable def G213 (k : Nat) (v : Int × Int × Int × Unit) : Option (Int × Int × Int × Unit ⊕ Int × Int × Int × Unit) := F213 k v
theorem G213_eq (k : Nat) (v0 v1 v2 : Int) : G213 k (v0, v1, v2, ()) = sel (decide (v0 ≤ 64)) (sel (decide (0 ≤ IntKind.i64.wrap (v0 - 1))) (some (Sum.inl (Int.fdiv 9223372036854775808 (2 ^ min (IntKind.i64.wrap (v0 - 1)).toNat 64), v1, v2, ()))) none) (sel (decide (0 ≤
 IntKind.i64.wrap (IntKind.i64.wrap (v0 - 64) - 1))) (some (Sum.inr (Int.fdiv 9223372036854775808 (2 ^ min (IntKind.i64.wrap (IntKind.i64.wrap (v0 - 64) - 1)).toNat 64), v1, v2, ()))) none) := by kernel_rfl
noncomputable def G214 (k : Nat) (v : (Int × Int × Unit) × Int × Unit) : Option (Bool × Unit) := F214 k v
theorem G214_eq (k : Nat) (v0 v1 v2 : Int) : G214 k ((v0, v1, ()), v2, ()) = ocall (G213 k (v2, v0, v1, ())) fun r => esel r (fun v => some (!decide (bits BinOp.and IntKind.u64 v.2.1 v.1 = 0), ())) fun e => some (!decide (bits BinOp.and IntKind.u64 e.2.2.1 e.1 = 0),
 ()) := by kernel_rfl
noncomputable def G190 (k : Nat) (v : (Int × Int × Unit) × Unit) : Option (Bool × Unit) := F190 k v
theorem G190_eq (k : Nat) (v0 v1 : Int) : G190 k ((v0, v1, ()), ()) = ocall (G214 k ((v0, v1, ()), 65, ())) fun r => sel (!r.1) (ocall (G214 k ((v0, v1, ()), 1, ())) fun r => some (r.1 == !decide (v1 = 0), ())) (some (false, ())) := by
 kernel_rfl
noncomputable def G212 (k : Nat) (v : Int × Unit) : Option (Bool × Unit) := F212 k v
theorem G212_eq (k : Nat) (v0 : Int) : G212 k (v0, ()) = sel (decide (1 < v0)) (sel (decide (v0 ≤ 128)) (some (!decide (v0 = 65), ())) (some (false, ()))) (some (false, ())) := by kernel_rfl
noncomputable def G189 (k : Nat) (v : (Int × Int × Unit) × Int × Unit) : Option ((Int × Int × Unit) × Int × Unit) := F189 k v
theorem G189_eq (k : Nat) (v0 v1 v2 : Int) : G189 k ((v0, v1, ()), v2, ()) = ocall (G190 k ((v0, v1, ()), ())) fun r => sel (!r.1) (some ((v0, v1, ()), 1, ())) (ocall (G212 k (v2, ())) fun r => sel (!r.1) (some ((v0, v1, ()), 1,
 ())) (ocall (G213 k (v2, v0, v1, ())) fun r => esel r (fun v => sel (!decide (v.2.2.1 = 0)) (some ((bits BinOp.or IntKind.u64 (bits BinOp.or IntKind.u64 v.2.1 v.1) 9223372036854775808, v.2.2.1, ()), 0, ())) (some ((bits BinOp.or IntKind.u64 v.2.1 v.1, v.2.2.1,
 ()), 0, ()))) fun e => sel (!decide (bits BinOp.or IntKind.u64 e.2.2.1 e.1 = 0)) (some ((bits BinOp.or IntKind.u64 e.2.1 9223372036854775808, bits BinOp.or IntKind.u64 e.2.2.1 e.1, ()), 0, ())) (some ((e.2.1, bits BinOp.or IntKind.u64 e.2.2.1 e.1, ()), 0,
 ())))) := by kernel_rfl
noncomputable def G140_3 (k : Nat) (j : Nat) (v : List Int × Int × Int × Int × Int × Int × Int × Unit) : Option (Int × Int × Int × Int × Unit ⊕ Int × Int × Int × Unit) := F140_3 k j v
theorem G140_3_eq (k : Nat) (j : Nat) (v0 : List Int) (v1 v2 v3 v4 v5 v6 : Int) : G140_3 k (j + 1) (v0, v1, v2, v3, v4, v5, v6, ()) = sel (decide (v2 < v1)) (sel (decide (0 ≤ v2)) (sel (decide (v2 < Int.ofNat v0.length)) (ocall (G189 k ((v5, v6, ()), v0.getD v2.toNat 0, ()))
 fun r => sel (!decide (r.2.1 = 0)) (some (Sum.inr (r.2.1, 0, 0, ()))) (G140_3 k j (v0, v1, IntKind.i64.wrap (v2 + 1), v3, v4, r.1.1, r.1.2.1, ()))) none) none) (some (Sum.inl (v3, v4, v5, v6, ()))) := by kernel_rfl
noncomputable def G140 (k : Nat) (v : List Int × Unit) : Option ((Int × Int × Unit) × Int × Unit) := F140 k v
theorem G140_eq (k : Nat) (v0 : List Int) : G140 k (v0, ()) = ocall (G140_3 k k (v0, Int.ofNat v0.length, 0, 0, 0, 0, 0, ())) fun e => esel e (fun v => some ((v.2.2.1, v.2.2.2.1, ()), 0, ())) fun e => some ((e.2.1, e.2.2.1, ()), e.1, ()) := by
 kernel_rfl
noncomputable def G191_2 (k : Nat) (j : Nat) (v : List Int × Int × Int × Unit) : Option (List Int × Unit) := F191_2 k j v
theorem G191_2_eq (k : Nat) (j : Nat) (v0 : List Int) (v1 v2 : Int) : G191_2 k (j + 1) (v0, v1, v2, ()) = sel (decide (v2 < 8)) (sel (decide (0 ≤ IntKind.i64.wrap (64 - IntKind.i64.wrap (8 * IntKind.i64.wrap (v2 + 1))))) (sel (decide ((v0.length + 1) * 1 ≤ 140737488355328)) (G191_2 k j (v0
 ++ [IntKind.u8.wrap (v1.fdiv (2 ^ min (IntKind.i64.wrap (64 - IntKind.i64.wrap (8 * IntKind.i64.wrap (v2 + 1)))).toNat 64))], v1, IntKind.i64.wrap (v2 + 1), ())) none) none) (some (v0, ())) := by kernel_rfl
noncomputable def G191 (k : Nat) (v : List Int × Int × Unit) : Option (List Int × Unit) := F191 k v
theorem G191_eq (k : Nat) (v0 : List Int) (v1 : Int) : G191 k (v0, v1, ()) = ocall (G191_2 k k (v0, v1, 0, ())) fun e => some (e.1, ()) := by kernel_rfl
noncomputable def G141 (k : Nat) (v : (Int × Int × Unit) × Unit) : Option (List Int × Int × Unit) := F141 k v
theorem G141_eq (k : Nat) (v0 v1 : Int) : G141 k ((v0, v1, ()), ()) = ocall (G190 k ((v0, v1, ()), ())) fun r => sel (!r.1) (some ([], 1, ())) (ocall (G191 k ([], v0, ())) fun r => sel (!decide (v1 = 0)) (ocall (G191 k (r.1, v1, ())) fun r =>
 some (r.1, 0, ())) (some (r.1, 0, ()))) := by kernel_rfl
noncomputable def G192 (k : Nat) (v : Int × Unit) : Option (List Int × Unit) := F192 k v
theorem G192_eq (k : Nat) (v0 : Int) : G192 k (v0, ()) = sel (decide (0 ≤ v0)) (sel (decide (v0 * 1 ≤ 140737488355328)) (some ([], ())) none) none := by kernel_rfl
noncomputable def G142_3 (k : Nat) (j : Nat) (v : List (List Int) × Int × List (List Int) × Int × Int × Unit) : Option (List (List Int) × Int × Unit) := F142_3 k j v
theorem G142_3_eq (k : Nat) (j : Nat) (v0 : List (List Int)) (v1 : Int) (v2 : List (List Int)) (v3 v4 : Int) : G142_3 k (j + 1) (v0, v1, v2, v3, v4, ()) = sel (decide (v4 < v3)) (sel (decide (0 ≤ v4)) (sel (decide (v4 < Int.ofNat v2.length)) (sel (decide (IntKind.i64.wrap (v1 + Int.ofNat
 (List.length (v2.getD v4.toNat []))) < 0)) none (G142_3 k j (v0, IntKind.i64.wrap (v1 + Int.ofNat (List.length (v2.getD v4.toNat []))), v2, v3, IntKind.i64.wrap (v4 + 1), ()))) none) none) (some (v0, v1, ())) := by kernel_rfl
noncomputable def G142_11 (k : Nat) (j : Nat) (v : List Int × List (List Int) × Int × Int × Unit) : Option (List Int × Unit) := F142_11 k j v
theorem G142_11_eq (k : Nat) (j : Nat) (v0 : List Int) (v1 : List (List Int)) (v2 v3 : Int) : G142_11 k (j + 1) (v0, v1, v2, v3, ()) = sel (decide (v3 < v2)) (sel (decide (0 ≤ v3)) (sel (decide (v3 < Int.ofNat v1.length)) (sel (decide ((v0.length + List.length (v1.getD v3.toNat [])) * 1 ≤
 140737488355328)) (G142_11 k j (v0 ++ v1.getD v3.toNat [], v1, v2, IntKind.i64.wrap (v3 + 1), ())) none) none) none) (some (v0, ())) := by kernel_rfl
noncomputable def G142 (k : Nat) (v : List (List Int) × Unit) : Option (List Int × Unit) := F142 k v
theorem G142_eq (k : Nat) (v0 : List (List Int)) : G142 k (v0, ()) = ocall (G142_3 k k (v0, 0, v0, Int.ofNat v0.length, 0, ())) fun e => ocall (G192 k (e.2.1, ())) fun r => ocall (G142_11 k k (r.1, e.1, Int.ofNat e.1.length, 0, ())) fun e => some (e.1, ()) :=
 by kernel_rfl
noncomputable def G79_6 (k : Nat) (j : Nat) (v : List Int × List Int × List (Int × List UInt8 × Unit) × Int × Int × List UInt8 × List (Int × List UInt8 × Unit) × Unit) : Option (List Int × List Int × List UInt8 × List (Int × List UInt8 × Unit) × Unit) := F79_6 k j v
theorem G79_6_eq (k : Nat) (j : Nat) (v0 v1 : List Int) (v2 : List (Int × List UInt8 × Unit)) (v3 v4 : Int) (v5 : List UInt8) (v6 : List (Int × List UInt8 × Unit)) : G79_6 k (j + 1) (v0, v1, v2, v3, v4, v5, v6, ()) = sel (decide (v4 < v3)) (sel (decide (0 ≤ v4)) (sel (decide (v4 <
 Int.ofNat v2.length)) (ocall (G139 k ((v2.getD v4.toNat (0, [], ())).1, (v2.getD v4.toNat (0, [], ())).2.1, ())) fun r => sel (decide ((v0.length + 1) * 8 ≤ 140737488355328)) (sel (decide ((v1.length + r.1.length) * 1 ≤ 140737488355328)) (G79_6 k j (v0 ++ [(v2.getD v4.toNat
 (0, [], ())).1], v1 ++ r.1, v2, v3, IntKind.i64.wrap (v4 + 1), v5, v6, ())) none) none) none) none) (some (v0, v1, v5, v6, ())) := by kernel_rfl
noncomputable def G79 (k : Nat) (v : (List UInt8 × List (Int × List UInt8 × Unit) × Unit) × Unit) : Option (List Int × Int × Unit) := F79 k v
theorem G79_eq (k : Nat) (v0 : List UInt8) (v1 : List (Int × List UInt8 × Unit)) : G79 k ((v0, v1, ()), ()) = ocall (G44 k ((v0, v1, ()), ())) fun r => sel (!r.1) (some ([], 1, ())) (ocall (G79_6 k k ([], [], v1, Int.ofNat v1.length, 0, v0, v1, ()))
 fun e => ocall (G140 k (e.1, ())) fun r => ocall (G141 k ((r.1.1, r.1.2.1, ()), ())) fun r => ocall (G142 k ([toBytes e.2.2.1, r.1, e.2.1], ())) fun r => some (r.1, 0, ())) := by kernel_rfl
noncomputable def G215_3 (k : Nat) (j : Nat) (v : Int × List Int × Int × Int × Unit) : Option (Int × Unit) := F215_3 k j v
theorem G215_3_eq (k : Nat) (j : Nat) (v0 : Int) (v1 : List Int) (v2 v3 : Int) : G215_3 k (j + 1) (v0, v1, v2, v3, ()) = sel (decide (v3 < v2)) (sel (decide (0 ≤ v3)) (sel (decide (v3 < Int.ofNat v1.length)) (G215_3 k j (bits BinOp.or IntKind.u64 (IntKind.u64.wrap (v0 * 2 ^ min (Int.toNat 8)
 64)) (IntKind.u64.wrap (v1.getD v3.toNat 0)), v1, v2, IntKind.i64.wrap (v3 + 1), ())) none) none) (some (v0, ())) := by kernel_rfl
noncomputable def G215 (k : Nat) (v : List Int × Unit) : Option (Int × Unit) := F215 k v
theorem G215_eq (k : Nat) (v0 : List Int) : G215 k (v0, ()) = sel (decide (8 ≤ Int.ofNat v0.length)) (sel (decide (Int.ofNat v0.length ≤ Int.ofNat v0.length)) (ocall (G215_3 k k (0, List.drop (Int.ofNat 0).toNat (List.take (Int.toNat 8) v0), Int.ofNat (List.drop (Int.ofNat 0).toNat
 (List.take (Int.toNat 8) v0)).length, 0, ())) fun e => some (e.1, ())) none) none := by kernel_rfl
noncomputable def G193 (k : Nat) (v : List Int × Unit) : Option ((Int × Int × Unit) × Int × Int × Unit) := F193 k v
theorem G193_eq (k : Nat) (v0 : List Int) : G193 k (v0, ()) = sel (decide (Int.ofNat v0.length < 8)) (some ((0, 0, ()), 0, 2, ())) (ocall (G215 k (v0, ())) fun r => ocall (G214 k ((r.1, 0, ()), 1, ())) fun r_1 => sel r_1.1 (sel (decide (Int.ofNat
 v0.length < 16)) (some ((0, 0, ()), 0, 2, ())) (sel (decide (8 ≤ Int.ofNat v0.length)) (sel (decide (Int.ofNat v0.length ≤ Int.ofNat v0.length)) (sel (decide (Int.ofNat v0.length ≤ Int.ofNat v0.length)) (ocall (G215 k (List.drop (Int.toNat 8) (List.take (Int.ofNat v0.length).toNat
 v0), ())) fun r_2 => ocall (G190 k ((r.1, r_2.1, ()), ())) fun r_3 => sel (!r_3.1) (some ((0, 0, ()), 0, 3, ())) (some ((r.1, r_2.1, ()), 16, 0, ()))) none) none) none)) (ocall (G190 k ((r.1, 0, ()), ())) fun r_2 => sel (!r_2.1)
 (some ((0, 0, ()), 0, 3, ())) (some ((r.1, 0, ()), 8, 0, ())))) := by kernel_rfl
noncomputable def G216 (k : Nat) (v : (Int × Int × Unit) × Int × Unit) : Option (Bool × Unit) := F216 k v
theorem G216_eq (k : Nat) (v0 v1 v2 : Int) : G216 k ((v0, v1, ()), v2, ()) = ocall (G212 k (v2, ())) fun r => sel r.1 (ocall (G214 k ((v0, v1, ()), v2, ())) fun r => some (r.1, ())) (some (false, ())) := by kernel_rfl
noncomputable def G194_g0 (k : Nat) (j : Nat) (v : List Int × Int × Int × Int × Unit) : Option (List Int × Unit) := F194_g0 k j v
theorem G194_g0_eq (k : Nat) (j : Nat) (v0 : List Int) (v1 v2 v3 : Int) : G194_g0 k (j + 1) (v0, v1, v2, v3, ()) = ocall (G216 k ((v2, v3, ()), v1, ())) fun r => sel r.1 (sel (decide ((v0.length + 1) * 8 ≤ 140737488355328)) (sel (decide (IntKind.i64.wrap (v1 + 1) ≤ 128))
 (G194_g0 k j (v0 ++ [v1], IntKind.i64.wrap (v1 + 1), v2, v3, ())) (some (v0 ++ [v1], ()))) none) (sel (decide (IntKind.i64.wrap (v1 + 1) ≤ 128)) (G194_g0 k j (v0, IntKind.i64.wrap (v1 + 1), v2, v3, ())) (some (v0, ()))) := by kernel_rfl
noncomputable def G194 (k : Nat) (v : (Int × Int × Unit) × Unit) : Option (List Int × Unit) := F194 k v
theorem G194_eq (k : Nat) (v0 v1 : Int) : G194 k ((v0, v1, ()), ()) = ocall (G216 k ((v0, v1, ()), 2, ())) fun r => sel r.1 (ocall (G194_g0 k k ([2], IntKind.i64.wrap (2 + 1), v0, v1, ())) fun e => some (e.1, ())) (ocall (G194_g0 k k ([],
 IntKind.i64.wrap (2 + 1), v0, v1, ())) fun e => some (e.1, ())) := by kernel_rfl
noncomputable def G143 (k : Nat) (v : List Int × Unit) : Option (List UInt8 × List Int × List Int × Int × Unit) := F143 k v
theorem G143_eq (k : Nat) (v0 : List Int) : G143 k (v0, ()) = sel (decide (Int.ofNat v0.length < 4)) (some ([], [], [], 2, ())) (sel (decide (4 ≤ Int.ofNat v0.length)) (sel (decide (Int.ofNat v0.length ≤ Int.ofNat v0.length)) (ocall (G121 k (ofBytes (List.drop (Int.ofNat 0).toNat
 (List.take (Int.toNat 4) v0)), ())) fun r => sel (!r.1) (some ([], [], [], 3, ())) (sel (decide (4 ≤ Int.ofNat v0.length)) (sel (decide (Int.ofNat v0.length ≤ Int.ofNat v0.length)) (sel (decide (Int.ofNat v0.length ≤ Int.ofNat v0.length)) (ocall (G193 k (List.drop (Int.toNat 4)
 (List.take (Int.ofNat v0.length).toNat v0), ())) fun r => sel (decide (4 ≤ Int.ofNat v0.length)) (sel (decide (Int.ofNat v0.length ≤ Int.ofNat v0.length)) (ocall (G194 k ((r.1.1, r.1.2.1, ()), ())) fun r_1 => sel (decide (0 ≤ IntKind.i64.wrap (4 + r.2.1))) (sel (decide
 (IntKind.i64.wrap (4 + r.2.1) ≤ Int.ofNat v0.length)) (sel (decide (Int.ofNat v0.length ≤ Int.ofNat v0.length)) (sel (decide (Int.ofNat v0.length ≤ Int.ofNat v0.length)) (some (ofBytes (List.drop (Int.ofNat 0).toNat (List.take (Int.toNat 4) v0)), r_1.1, List.drop (IntKind.i64.wrap (4 + r.2.1)).toNat
 (List.take (Int.ofNat v0.length).toNat v0), r.2.2.1, ())) none) none) none) none) none) none) none) none) none)) none) none) := by kernel_rfl
noncomputable def G80_8 (k : Nat) (j : Nat) (v : List Int × List Int × Int × Int × List UInt8 × List (Int × List UInt8 × Unit) × List UInt8 × List (Int × List UInt8 × Unit) × Unit) : Option (List Int × List UInt8 × List (Int × List UInt8 × Unit) × List UInt8 × List (Int × List UInt8 × Unit) ×
 Unit ⊕ Int × List UInt8 × List (Int × List UInt8 × Unit) × Unit) := F80_8 k j v
theorem G80_8_eq (k : Nat) (j : Nat) (v0 v1 : List Int) (v2 v3 : Int) (v4 : List UInt8) (v5 : List (Int × List UInt8 × Unit)) (v6 : List UInt8) (v7 : List (Int × List UInt8 × Unit)) : G80_8 k (j + 1) (v0, v1, v2, v3, v4, v5, v6, v7, ()) = sel (decide (v3 < v2)) (sel (decide (0 ≤ v3)) (sel
 (decide (v3 < Int.ofNat v1.length)) (sel (decide (v3.toNat < v1.length)) (ocall (G144 k (v1.getD v3.toNat 0, v0, ())) fun r => sel (!decide (r.2.2.1 = 0)) (some (Sum.inr (r.2.2.1, [], [], ()))) (sel (decide ((v7.length + 1) * 24 ≤ 140737488355328)) (sel (decide (0 ≤ r.2.1)) (sel
 (decide (r.2.1 ≤ Int.ofNat v0.length)) (sel (decide (Int.ofNat v0.length ≤ Int.ofNat v0.length)) (sel (decide (Int.ofNat v0.length ≤ Int.ofNat v0.length)) (G80_8 k j (List.drop r.2.1.toNat (List.take (Int.ofNat v0.length).toNat v0), v1, v2, IntKind.i64.wrap (v3 + 1), v4, v5, v6, v7 ++ [(v1.getD
 v3.toNat 0, r.1, ())], ())) none) none) none) none) none)) none) none) none) (some (Sum.inl (v0, v4, v5, v6, v7, ()))) := by kernel_rfl
noncomputable def G80 (k : Nat) (v : List Int × Unit) : Option ((List UInt8 × List (Int × List UInt8 × Unit) × Unit) × Int × Unit) := F80 k v
theorem G80_eq (k : Nat) (v0 : List Int) : G80 k (v0, ()) = ocall (G143 k (v0, ())) fun r => sel (!decide (r.2.2.2.1 = 0)) (some (([], [], ()), r.2.2.2.1, ())) (sel (decide (Int.ofNat r.2.1.length = 0)) (some (([], [], ()), 3, ())) (ocall (G80_8 k k
 (r.2.2.1, r.2.1, Int.ofNat r.2.1.length, 0, [], [], r.1, [], ())) fun e => esel e (fun v => sel (decide (0 < Int.ofNat v.1.length)) (some (([], [], ()), 4, ())) (some ((v.2.2.2.1, v.2.2.2.2.1, ()), 0, ()))) fun e => some ((e.2.1, e.2.2.1, ()), e.1,
 ()))) := by kernel_rfl
end Go.Proofs.YtjgnpmdbkgeakaaDoor.G
end
section
set_option linter.unusedVariables false
set_option linter.unusedSimpArgs false
set_option maxRecDepth 100000
namespace Go.Proofs.YtjgnpmdbkgeakaaDoor.G
open Go Go.Proofs.YtjgnpmdbkgeakaaDoor Th
def lenSum : List (List Int) → Nat
  | [] => 0
  | x :: l => x.length + lenSum l
theorem lenSum_take (L : List (List Int)) : ∀ i, lenSum (L.take i) ≤ lenSum L := by
  induction L with
  | nil => intro i; simp [lenSum]
  | cons x L ih =>
    intro i
    cases i with
    | zero => exact Nat.zero_le _
    | succ i => have := ih i; simp only [List.take_succ_cons, lenSum]; omega
theorem lenSum_snoc (L : List (List Int)) (x : List Int) : lenSum (L ++ [x]) = lenSum L + x.length := by
  induction L with
  | nil => simp [lenSum]
  | cons y L ih => simp only [List.cons_append, lenSum, ih]; omega
theorem lenSum_flat (L : List (List Int)) : L.flatten.length = lenSum L := by
  induction L with
  | nil => rfl
  | cons y L ih => simp only [List.flatten_cons, List.length_append, lenSum, ih]
theorem G142_3_is (k : Nat) (L : List (List Int)) (hL : L.length ≤ 1000000) (hS : lenSum L ≤ 140737488355328) : ∀ (j i : Nat), i + j = L.length → ∀ n, j < n →
    G142_3 k n (L, ((lenSum (L.take i) : Nat) : Int), L, (L.length : Int), (i : Int), ()) = some (L, ((lenSum L : Nat) : Int), ()) := by
  intro j
  induction j with
  | zero =>
    intro i hij n hn
    obtain ⟨n, rfl⟩ : ∃ m, n = m + 1 := ⟨n - 1, by omega⟩
    rw [G142_3_eq, sel_neg (by omega), List.take_of_length_le (by omega)]
  | succ j ih =>
    intro i hij n hn
    obtain ⟨n, rfl⟩ : ∃ m, n = m + 1 := ⟨n - 1, by omega⟩
    have hlt : i < L.length := by omega
    have hs := lenSum_take L (i + 1)
    have e : lenSum (L.take (i + 1)) = lenSum (L.take i) + L[i].length := by rw [List.take_succ_eq_append_getElem hlt, lenSum_snoc]
    have := ih (i + 1) (by omega) n (by omega)
    rw [G142_3_eq, sel_pos (by omega), sel_pos (by omega), sel_pos (by simp only [ofNat_len]; omega)]
    simp only [Int.toNat_natCast, getD_of hlt, ofNat_len]
    rw [wrap64 (n := (i : Int) + 1) (by omega) (by omega), wrap64 (by omega) (by omega), sel_neg (by omega)]
    rw [e] at this
    rw [Int.natCast_add, Int.natCast_add, Int.natCast_one] at this
    exact this
theorem G142_11_is (k : Nat) (L : List (List Int)) (hL : L.length ≤ 1000000) (hS : lenSum L ≤ 140737488355328) : ∀ (j i : Nat), i + j = L.length → ∀ n, j < n →
    G142_11 k n ((L.take i).flatten, L, (L.length : Int), (i : Int), ()) = some (L.flatten, ()) := by
  intro j
  induction j with
  | zero =>
    intro i hij n hn
    obtain ⟨n, rfl⟩ : ∃ m, n = m + 1 := ⟨n - 1, by omega⟩
    rw [G142_11_eq, sel_neg (by omega), List.take_of_length_le (by omega)]
  | succ j ih =>
    intro i hij n hn
    obtain ⟨n, rfl⟩ : ∃ m, n = m + 1 := ⟨n - 1, by omega⟩
    have hlt : i < L.length := by omega
    have hs := lenSum_take L (i + 1)
    have e : (L.take (i + 1)).flatten = (L.take i).flatten ++ L[i] := by rw [List.take_succ_eq_append_getElem hlt, List.flatten_append]; simp
    have e2 := lenSum_flat (L.take (i + 1))
    rw [e, List.length_append] at e2
    have := ih (i + 1) (by omega) n (by omega)
    rw [G142_11_eq, sel_pos (by omega), sel_pos (by omega), sel_pos (by simp only [ofNat_len]; omega)]
    simp only [Int.toNat_natCast, getD_of hlt]
    rw [sel_pos (by omega), wrap64 (by omega) (by omega)]
    rw [e, Int.natCast_add, Int.natCast_one] at this
    exact this
theorem G142_is (k : Nat) (L : List (List Int)) (hL : L.length ≤ 1000000) (hk : L.length < k) (hS : lenSum L ≤ 140737488355328) : G142 k (L, ()) = some (L.flatten, ()) := by
  have h1 := G142_3_is k L hL hS L.length 0 (by omega) k hk
  have h2 := G142_11_is k L hL hS L.length 0 (by omega) k hk
  simp only [List.take_zero, lenSum, Int.natCast_zero, List.flatten_nil] at h1 h2
  rw [G142_eq]
  simp only [ofNat_len]
  rw [h1, ocall_some]
  (try simp only [])
  rw [G192_eq, sel_pos (by omega), sel_pos (by omega), ocall_some, h2, ocall_some]
end Go.Proofs.YtjgnpmdbkgeakaaDoor.G
end
section
set_option maxRecDepth 1000000
set_option linter.unusedVariables false
set_option linter.unusedSimpArgs false
namespace Go.Proofs.YtjgnpmdbkgeakaaDoor.G
open Go Go.Proofs.YtjgnpmdbkgeakaaDoor Th
noncomputable def G128 (k : Nat) (v : Int × Unit) : Option (Int × Unit) := F128 k v
theorem G128_eq (k : Nat) (v0 : Int) : G128 k (v0, ()) = sel (decide (v0 = 1)) (some (1, ())) (sel (decide (v0 = 2)) (some (2, ())) (sel (decide (v0 = 3)) (some (3, ())) (sel (decide (v0 = 5)) (some (7, ())) (some (0, ()))))) := by kernel_rfl
noncomputable def G49 (k : Nat) (v : (Int × (Int × List UInt8 × Int × Int × List UInt8 × List UInt8 × Unit) × Unit) × Unit) : Option (Bool × Unit) := F49 k v
theorem G49_eq (k : Nat) (v0 v1 : Int) (v2 : List UInt8) (v3 v4 : Int) (v5 v6 : List UInt8) : G49 k ((v0, (v1, v2, v3, v4, v5, v6, ()), ()), ()) = sel (decide (v0 = 4)) (sel (sameI v1 0 && (sameS v2 [] && (sameI v3 0 && (sameI v4 v4 && (sameS v5 v5 && (sameS v6 [] &&
 true)))))) (ocall (G26 k ((v1, v2, v3, v4, v5, v6, ()), ())) fun r => ocall (G27 k ((r.1.1, r.1.2.1, ()), ())) fun r => some (r.1, ())) (some (false, ()))) (sel (decide (0 < v1)) (ocall (G128 k (v0, ())) fun r => sel (decide (v1 = r.1)) (ocall
 (G33 k ((v1, v2, v3, v4, v5, v6, ()), ())) fun r => some (r.1, ())) (some (false, ()))) (some (false, ()))) := by kernel_rfl
end Go.Proofs.YtjgnpmdbkgeakaaDoor.G
end
section
set_option maxRecDepth 1000000
set_option linter.unusedVariables false
set_option linter.unusedSimpArgs false
namespace Go.Proofs.YtjgnpmdbkgeakaaDoor.G
open Go Go.Proofs.YtjgnpmdbkgeakaaDoor Th
noncomputable def G145 (k : Nat) (v : Int × Unit) : Option (List Int × Unit) := F145 k v
theorem G145_eq (k : Nat) (v0 : Int) : G145 k (v0, ()) = sel (decide (v0 = 1)) (some ([1, 3], ())) (sel (decide (v0 = 2)) (some ([2, 5], ())) (some ([], ()))) := by kernel_rfl
noncomputable def G82_8 (k : Nat) (j : Nat) (v : List Int × Int × Int × Int × Int × List UInt8 × Int × Int × List UInt8 × List UInt8 × Int × List UInt8 × Int × Int × List UInt8 × List UInt8 × Unit) : Option (Int × Int × List UInt8 × Int × Int × List UInt8 × List UInt8 × Unit ⊕ Bool × Int × Int ×
 List UInt8 × Int × Int × List UInt8 × List UInt8 × Unit) := F82_8 k j v
theorem G82_8_eq (k : Nat) (j : Nat) (v0 : List Int) (v1 v2 v3 v4 : Int) (v5 : List UInt8) (v6 v7 : Int) (v8 v9 : List UInt8) (v10 : Int) (v11 : List UInt8) (v12 v13 : Int) (v14 v15 : List UInt8) : G82_8 k (j + 1) (v0, v1, v2, v3, v4, v5, v6, v7, v8, v9, v10, v11, v12, v13, v14, v15, ()) =
 sel (decide (v2 < v1)) (sel (decide (0 ≤ v2)) (sel (decide (v2 < Int.ofNat v0.length)) (sel (decide (v2.toNat < v0.length)) (ocall (G49 k ((v0.getD v2.toNat 0, (v10, v11, v12, v13, v14, v15, ()), ()), ())) fun r => sel r.1 (some (Sum.inr (true, v0.getD v2.toNat 0, v10, v11,
 v12, v13, v14, v15, ()))) (G82_8 k j (v0, v1, IntKind.i64.wrap (v2 + 1), v3, v4, v5, v6, v7, v8, v9, v10, v11, v12, v13, v14, v15, ()))) none) none) none) (some (Sum.inl (v3, v4, v5, v6, v7, v8, v9, ()))) := by kernel_rfl
noncomputable def G82 (k : Nat) (v : Int × List Int × Unit) : Option ((Int × (Int × List UInt8 × Int × Int × List UInt8 × List UInt8 × Unit) × Unit) × Bool × Unit) := F82 k v
theorem G82_eq (k : Nat) (v0 : Int) (v1 : List Int) : G82 k (v0, v1, ()) = ocall (G80 k (v1, ())) fun r => sel (!decide (r.2.1 = 0)) (some ((0, (0, [], 0, 0, [], [], ()), ()), false, ())) (ocall (G40 k ((r.1.1, r.1.2.1, ()), ())) fun r => sel
 (!decide (r.2.1 = 0)) (some ((0, (0, [], 0, 0, [], [], ()), ()), false, ())) (ocall (G145 k (v0, ())) fun r_1 => ocall (G82_8 k k (r_1.1, Int.ofNat r_1.1.length, 0, 0, 0, [], 0, 0, [], [], r.1.1, r.1.2.1, r.1.2.2.1, r.1.2.2.2.1, r.1.2.2.2.2.1, r.1.2.2.2.2.2.1,
 ())) fun e => esel e (fun v => some ((0, (0, [], 0, 0, [], [], ()), ()), false, ())) fun e => some ((e.2.1, (e.2.2.1, e.2.2.2.1, e.2.2.2.2.1, e.2.2.2.2.2.1, e.2.2.2.2.2.2.1, e.2.2.2.2.2.2.2.1, ()), ()), e.1, ()))) := by kernel_rfl
noncomputable def G150 (k : Nat) (v : List Int × Unit) : Option (Int × Unit) := F150 k v
theorem G150_eq (k : Nat) (v0 : List Int) : G150 k (v0, ()) = sel (decide (Int.ofNat v0.length < 2)) (some (0, ())) (sel (decide (0 < Int.ofNat v0.length)) (sel (decide (1 < Int.ofNat v0.length)) (sel (decide (bits BinOp.or IntKind.i64 (IntKind.i64.wrap (IntKind.i64.wrap (v0.getD
 (Int.toNat 0) 0) * 2 ^ min (Int.toNat 8) 64)) (IntKind.i64.wrap (v0.getD (Int.toNat 1) 0)) = 0)) (sel (decide (bits BinOp.or IntKind.i64 (IntKind.i64.wrap (IntKind.i64.wrap (v0.getD (Int.toNat 0) 0) * 2 ^ min (Int.toNat 8) 64)) (IntKind.i64.wrap (v0.getD (Int.toNat 1) 0)) = 0)) (some ((-1 : Int),
 ())) (sel (decide (Int.ofNat v0.length < IntKind.i64.wrap (2 + bits BinOp.or IntKind.i64 (IntKind.i64.wrap (IntKind.i64.wrap (v0.getD (Int.toNat 0) 0) * 2 ^ min (Int.toNat 8) 64)) (IntKind.i64.wrap (v0.getD (Int.toNat 1) 0))))) (some (0, ())) (some (IntKind.i64.wrap (2 + bits
 BinOp.or IntKind.i64 (IntKind.i64.wrap (IntKind.i64.wrap (v0.getD (Int.toNat 0) 0) * 2 ^ min (Int.toNat 8) 64)) (IntKind.i64.wrap (v0.getD (Int.toNat 1) 0))), ())))) (sel (decide (2048 < bits BinOp.or IntKind.i64 (IntKind.i64.wrap (IntKind.i64.wrap (v0.getD (Int.toNat 0) 0) * 2 ^ min
 (Int.toNat 8) 64)) (IntKind.i64.wrap (v0.getD (Int.toNat 1) 0)))) (some ((-1 : Int), ())) (sel (decide (Int.ofNat v0.length < IntKind.i64.wrap (2 + bits BinOp.or IntKind.i64 (IntKind.i64.wrap (IntKind.i64.wrap (v0.getD (Int.toNat 0) 0) * 2 ^ min (Int.toNat 8) 64)) (IntKind.i64.wrap (v0.getD
 (Int.toNat 1) 0))))) (some (0, ())) (some (IntKind.i64.wrap (2 + bits BinOp.or IntKind.i64 (IntKind.i64.wrap (IntKind.i64.wrap (v0.getD (Int.toNat 0) 0) * 2 ^ min (Int.toNat 8) 64)) (IntKind.i64.wrap (v0.getD (Int.toNat 1) 0))), ()))))) none) none) := by kernel_rfl
noncomputable def G87 (k : Nat) (v : (List Int × Bool × Unit) × Unit) : Option (Bool × Unit) := F87 k v
theorem G87_eq (k : Nat) (v0 : List Int) (v1 : Bool) : G87 k ((v0, v1, ()), ()) = sel v1 (some (decide (Int.ofNat v0.length = 0), ())) (ocall (G150 k (v0, ())) fun r => some (decide (r.1 = 0), ())) := by kernel_rfl
noncomputable def G147 (k : Nat) (v : List Int) : Option (List Int × Unit) := F147 k v
theorem G147_eq (k : Nat) (v0 : List Int) : G147 k v0 = sel (decide ((0 + v0.length) * 1 ≤ 140737488355328)) (some (v0, ())) none := by kernel_rfl
noncomputable def G88_g0 (k : Nat) (j : Nat) (v : List Int × List (List Int) × List Int × Bool × Unit) : Option (List (List Int) × Int × List Int × Bool × Unit) := F88_g0 k j v
theorem G88_g0_eq (k : Nat) (j : Nat) (v0 : List Int) (v1 : List (List Int)) (v2 : List Int) (v3 : Bool) : G88_g0 k (j + 1) (v0, v1, v2, v3, ()) = ocall (G150 k (v0, ())) fun r => sel (decide (0 < r.1)) (sel (decide (2 ≤ r.1)) (sel (decide (r.1 ≤ r.1)) (sel (decide (r.1 ≤ Int.ofNat
 v0.length)) (sel (decide ((v1.length + 1) * 24 ≤ 140737488355328)) (sel (decide (0 ≤ r.1)) (sel (decide (r.1 ≤ Int.ofNat v0.length)) (sel (decide (Int.ofNat v0.length ≤ Int.ofNat v0.length)) (sel (decide (Int.ofNat v0.length ≤ Int.ofNat v0.length)) (G88_g0 k j (List.drop r.1.toNat (List.take
 (Int.ofNat v0.length).toNat v0), v1 ++ [List.drop (Int.toNat 2) (List.take r.1.toNat v0)], v2, v3, ())) none) none) none) none) none) none) none) none) (sel (decide (r.1 < 0)) (some (v1, 12, [], true, ())) (ocall (G147 k v0) fun r => some (v1, 0, r.1, false, ()))) := by
 kernel_rfl
noncomputable def G88 (k : Nat) (v : (List Int × Bool × Unit) × List Int × Unit) : Option ((List Int × Bool × Unit) × List (List Int) × Int × Unit) := F88 k v
theorem G88_eq (k : Nat) (v0 : List Int) (v1 : Bool) (v2 : List Int) : G88 k ((v0, v1, ()), v2, ()) = ocall (G87 k ((v0, v1, ()), ())) fun r => sel (!r.1) (some ((v0, v1, ()), [], 1, ())) (sel v1 (some ((v0, v1, ()), [], 12, ())) (ocall
 (G142 k ([v0, v2], ())) fun r => ocall (G150 k (r.1, ())) fun r_1 => sel (decide (0 < r_1.1)) (sel (decide (2 ≤ r_1.1)) (sel (decide (r_1.1 ≤ r_1.1)) (sel (decide (r_1.1 ≤ Int.ofNat r.1.length)) (sel (decide (0 ≤ r_1.1)) (sel (decide (r_1.1 ≤ Int.ofNat r.1.length)) (sel (decide
 (Int.ofNat r.1.length ≤ Int.ofNat r.1.length)) (sel (decide (Int.ofNat r.1.length ≤ Int.ofNat r.1.length)) (ocall (G88_g0 k k (List.drop r_1.1.toNat (List.take (Int.ofNat r.1.length).toNat r.1), [List.drop (Int.toNat 2) (List.take r_1.1.toNat r.1)], [], false, ())) fun e => some ((e.2.2.1,
 e.2.2.2.1, ()), e.1, e.2.1, ())) none) none) none) none) none) none) none) (sel (decide (r_1.1 < 0)) (some (([], true, ()), [], 12, ())) (ocall (G147 k r.1) fun r => some ((r.1, false, ()), [], 0, ()))))) := by kernel_rfl
noncomputable def G84_g0 (k : Nat) (j : Nat) (v : List Int × Int × List Int × Bool × List Int × Bool × Unit) : Option (List Int × List Int × Int × List Int × Bool × Unit) := F84_g0 k j v
theorem G84_g0_eq (k : Nat) (j : Nat) (v0 : List Int) (v1 : Int) (v2 : List Int) (v3 : Bool) (v4 : List Int) (v5 : Bool) : G84_g0 k (j + 1) (v0, v1, v2, v3, v4, v5, ()) = sel (decide (v1 = Int.ofNat v0.length)) (some ([], [], 5, v2, v3, ())) (sel (decide (0 ≤ v1)) (sel (decide (v1 ≤
 IntKind.i64.wrap (v1 + 1))) (sel (decide (IntKind.i64.wrap (v1 + 1) ≤ Int.ofNat v0.length)) (sel (decide (Int.ofNat v0.length ≤ Int.ofNat v0.length)) (ocall (G88 k ((v2, v3, ()), List.drop v1.toNat (List.take (IntKind.i64.wrap (v1 + 1)).toNat v0), ())) fun r => sel (!decide (r.2.2.1
 = 0)) (some ([], [], r.2.2.1, r.1.1, r.1.2.1, ())) (sel (decide (Int.ofNat r.2.1.length = 0)) (G84_g0 k j (v0, IntKind.i64.wrap (v1 + 1), r.1.1, r.1.2.1, v4, v5, ())) (sel (decide (0 ≤ IntKind.i64.wrap (v1 + 1))) (sel (decide (IntKind.i64.wrap (v1 + 1) ≤ Int.ofNat v0.length)) (sel
 (decide (Int.ofNat v0.length ≤ Int.ofNat v0.length)) (sel (decide (Int.ofNat v0.length ≤ Int.ofNat v0.length)) (ocall (G147 k (List.drop (IntKind.i64.wrap (v1 + 1)).toNat (List.take (Int.ofNat v0.length).toNat v0))) fun r_1 => sel (decide (0 < Int.ofNat r.2.1.length)) (sel (decide (Int.toNat 0 <
 r.2.1.length)) (some (r_1.1, r.2.1.getD (Int.toNat 0) [], 0, r.1.1, r.1.2.1, ())) none) none) none) none) none) none))) none) none) none) none) := by kernel_rfl
noncomputable def G84 (k : Nat) (v : (List Int × Bool × Unit) × List Int × Unit) : Option ((List Int × Bool × Unit) × List Int × List Int × Int × Unit) := F84 k v
theorem G84_eq (k : Nat) (v0 : List Int) (v1 : Bool) (v2 : List Int) : G84 k ((v0, v1, ()), v2, ()) = ocall (G87 k ((v0, v1, ()), ())) fun r => sel (!r.1) (some ((v0, v1, ()), v2, [], 1, ())) (sel v1 (some ((v0, v1, ()), v2, [], 12,
 ())) (sel (decide (0 = Int.ofNat v2.length)) (some ((v0, v1, ()), [], [], 5, ())) (sel (decide (IntKind.i64.wrap (0 + 1) ≤ Int.ofNat v2.length)) (sel (decide (Int.ofNat v2.length ≤ Int.ofNat v2.length)) (ocall (G88 k ((v0, v1, ()), List.drop (Int.toNat 0) (List.take
 (IntKind.i64.wrap (0 + 1)).toNat v2), ())) fun r => sel (!decide (r.2.2.1 = 0)) (some ((r.1.1, r.1.2.1, ()), [], [], r.2.2.1, ())) (sel (decide (Int.ofNat r.2.1.length = 0)) (ocall (G84_g0 k k (v2, IntKind.i64.wrap (0 + 1), r.1.1, r.1.2.1, [], false, ())) fun e =>
 some ((e.2.2.2.1, e.2.2.2.2.1, ()), e.1, e.2.1, e.2.2.1, ())) (sel (decide (IntKind.i64.wrap (0 + 1) ≤ Int.ofNat v2.length)) (sel (decide (Int.ofNat v2.length ≤ Int.ofNat v2.length)) (sel (decide (Int.ofNat v2.length ≤ Int.ofNat v2.length)) (ocall (G147 k (List.drop (IntKind.i64.wrap
 (0 + 1)).toNat (List.take (Int.ofNat v2.length).toNat v2))) fun r_1 => sel (decide (0 < Int.ofNat r.2.1.length)) (sel (decide (Int.toNat 0 < r.2.1.length)) (some ((r.1.1, r.1.2.1, ()), r_1.1, r.2.1.getD (Int.toNat 0) [], 0, ())) none) none) none) none) none))) none) none))) := by
 kernel_rfl
noncomputable def G81 (k : Nat) (v : Unit) : Option (Bool × Unit) := F81 k v
theorem G81_eq (k : Nat) : G81 k () = ocall (G37 k ((7, [], 0, 1, [82, 82, 78, 48, 48, 48, 48, 48, 48, 48, 48, 49], [48, 48], ()), ())) fun r => ocall (G79 k ((r.1.1, r.1.2.1, ()), ())) fun r_1 => ocall (G82 k (2, r_1.1, ())) fun r_2 => ocall (G82 k
 (1, r_1.1, ())) fun r_3 => ocall (G84 k (([], false, ()), [0, 2, 97, 98, 0, 1, 99], ())) fun r_4 => ocall (G84 k ((r_4.1.1, r_4.1.2.1, ()), [0, 0], ())) fun r_5 => sel (decide (r.2.1 = 0)) (sel (decide (r_1.2.1 = 0)) (sel (decide (r_4.2.2.2.1 = 0)) (sel
 (decide (r_5.2.2.2.1 = 12)) (sel r_2.2.1 (sel (!r_3.2.1) (sel (decide (r_2.1.1 = 5)) (sel (decide (r_2.1.2.1.2.2.2.1 = 1)) (sel (decide (ofBytes r_4.2.2.1 = [97, 98])) (sel (decide (ofBytes r_4.2.1 = [0, 1, 99])) (some (decide (Int.ofNat r_4.1.1.length = 0), ())) (some (false, ())))
 (some (false, ()))) (some (false, ()))) (some (false, ()))) (some (false, ()))) (some (false, ()))) (some (false, ()))) (some (false, ()))) (some (false, ()))) (some (false, ())) := by kernel_rfl
noncomputable def G86 (k : Nat) (v : (List Int × Bool × Unit) × (List Int × Bool × Unit) × Unit) : Option (Bool × Unit) := F86 k v
theorem G86_eq (k : Nat) (v0 : List Int) (v1 : Bool) (v2 : List Int) (v3 : Bool) : G86 k ((v0, v1, ()), (v2, v3, ()), ()) = sel (v1 == v3) (some (decide (ofBytes v0 = ofBytes v2), ())) (some (false, ())) := by kernel_rfl
noncomputable def G89_4 (k : Nat) (j : Nat) (v : List (List Int) × List (List Int) × Int × Unit) : Option (Unit ⊕ Bool × Unit) := F89_4 k j v
theorem G89_4_eq (k : Nat) (j : Nat) (v0 v1 : List (List Int)) (v2 : Int) : G89_4 k (j + 1) (v0, v1, v2, ()) = sel (decide (v2 < Int.ofNat v0.length)) (sel (decide (0 ≤ v2)) (sel (decide (v2 < Int.ofNat v0.length)) (sel (decide (0 ≤ v2)) (sel (decide (v2 < Int.ofNat v1.length)) (sel (!decide
 (ofBytes (v0.getD v2.toNat []) = ofBytes (v1.getD v2.toNat []))) (some (Sum.inr (false, ()))) (G89_4 k j (v0, v1, IntKind.i64.wrap (v2 + 1), ()))) none) none) none) none) (some (Sum.inl ())) := by kernel_rfl
noncomputable def G89 (k : Nat) (v : List (List Int) × List (List Int) × Unit) : Option (Bool × Unit) := F89 k v
theorem G89_eq (k : Nat) (v0 v1 : List (List Int)) : G89 k (v0, v1, ()) = sel (!decide (Int.ofNat v0.length = Int.ofNat v1.length)) (some (false, ())) (ocall (G89_4 k k (v0, v1, 0, ())) fun e => esel e (fun v => some (true, ())) fun e => some (e.1, ())) := by
 kernel_rfl
noncomputable def G19_10 (k : Nat) (j : Nat) (v : List Int × List Int × List (List Int) × Int × List (List Int) × List Int × Bool × Int × List Int × Bool × List Int × Bool × Unit) : Option (Unit ⊕ Bool × Unit) := F19_10 k j v
theorem G19_10_eq (k : Nat) (j : Nat) (v0 v1 : List Int) (v2 : List (List Int)) (v3 : Int) (v4 : List (List Int)) (v5 : List Int) (v6 : Bool) (v7 : Int) (v8 : List Int) (v9 : Bool) (v10 : List Int) (v11 : Bool) : G19_10 k (j + 1) (v0, v1, v2, v3, v4, v5, v6, v7, v8, v9, v10, v11, ()) = sel
 (decide (v7 ≤ IntKind.i64.wrap (IntKind.i64.wrap (Int.ofNat v0.length + Int.ofNat v1.length) + 4))) (ocall (G84 k ((v8, v9, ()), v5, ())) fun r => sel (decide (r.2.2.2.1 = 0)) (sel (decide ((v4.length + 1) * 24 ≤ 140737488355328)) (sel (decide (Int.ofNat v5.length ≤ Int.ofNat
 r.2.1.length)) (some (Sum.inr (false, ()))) (G19_10 k j (v0, v1, v2, v3, v4 ++ [r.2.2.1], r.2.1, v6, IntKind.i64.wrap (v7 + 1), r.1.1, r.1.2.1, v10, v11, ()))) none) (sel (decide (r.2.2.2.1 = 5)) (sel (!v6) (sel (decide ((0 + v1.length) * 1 ≤ 140737488355328)) (G19_10 k j (v0, v1,
 v2, v3, v4, v1, true, IntKind.i64.wrap (v7 + 1), r.1.1, r.1.2.1, v10, v11, ())) none) (ocall (G86 k ((r.1.1, r.1.2.1, ()), (v10, v11, ()), ())) fun r_1 => sel r_1.1 (ocall (G89 k (v4, v2, ())) fun r_2 => sel r_2.1 (sel (decide (r.2.2.2.1 = 12) == decide (v3 =
 12)) (sel (decide (r.2.2.2.1 = 12)) (some (Sum.inr (true, ()))) (some (Sum.inr (decide (r.2.2.2.1 = 5), ())))) (some (Sum.inr (false, ())))) (some (Sum.inr (false, ())))) (some (Sum.inr (false, ()))))) (ocall (G86 k ((r.1.1, r.1.2.1, ()), (v10, v11,
 ()), ())) fun r_1 => sel r_1.1 (ocall (G89 k (v4, v2, ())) fun r_2 => sel r_2.1 (sel (decide (r.2.2.2.1 = 12) == decide (v3 = 12)) (sel (decide (r.2.2.2.1 = 12)) (some (Sum.inr (true, ()))) (some (Sum.inr (decide (r.2.2.2.1 = 5), ())))) (some (Sum.inr (false,
 ())))) (some (Sum.inr (false, ())))) (some (Sum.inr (false, ())))))) (some (Sum.inl ())) := by kernel_rfl
noncomputable def G19 (k : Nat) (v : (List Int × Bool × Unit) × List Int × List Int × Unit) : Option (Bool × Unit) := F19 k v
theorem G19_eq (k : Nat) (v0 : List Int) (v1 : Bool) (v2 v3 : List Int) : G19 k ((v0, v1, ()), v2, v3, ()) = ocall (G81 k ()) fun r => sel (!r.1) (some (false, ())) (sel (decide (5000 < Int.ofNat v2.length)) (some (true, ())) (sel (decide (5000 < Int.ofNat
 v3.length)) (some (true, ())) (sel (decide (5000 < Int.ofNat v0.length)) (some (true, ())) (ocall (G87 k ((v0, v1, ()), ())) fun r => sel (!r.1) (some (true, ())) (sel v1 (some (true, ())) (sel (decide ((0 + v2.length) * 1 ≤ 140737488355328)) (sel
 (decide ((v2.length + v3.length) * 1 ≤ 140737488355328)) (ocall (G88 k ((v0, v1, ()), v2 ++ v3, ())) fun r => sel (decide ((0 + v2.length) * 1 ≤ 140737488355328)) (ocall (G19_10 k k (v2, v3, r.2.1, r.2.2.1, [], v2, false, 0, v0, v1, r.1.1, r.1.2.1, ())) fun e => esel e (fun v
 => some (false, ())) fun e => some (e.1, ())) none) none) none)))))) := by kernel_rfl
end Go.Proofs.YtjgnpmdbkgeakaaDoor.G
end
section
set_option linter.unusedVariables false
set_option linter.unusedSimpArgs false
set_option maxRecDepth 100000
namespace Go.Proofs.YtjgnpmdbkgeakaaDoor.G
open Go Go.Proofs.YtjgnpmdbkgeakaaDoor Th Bits
abbrev Reader := List Int × Bool × Unit
def hdrN (b : List Int) : Int := 256 * b.getD 0 0 + b.getD 1 0
def firstF (b : List Int) : Int := if b.length < 2 then 0 else if hdrN b = 0 ∨ 2048 < hdrN b then -1 else if (b.length : Int) < 2 + hdrN b then 0 else 2 + hdrN b
def rightR (r : Reader) : Bool := if r.2.1 = true then decide (r.1.length = 0) else decide (firstF r.1 = 0)
theorem hdrN_ok {b : List Int} (hb : ∀ c ∈ b, byteOK c) (h2 : 2 ≤ b.length) : ∃ x y : Nat, b.getD 0 0 = x ∧ b.getD 1 0 = y ∧ x < 256 ∧ y < 256 ∧ hdrN b = ((256 * x + y : Nat) : Int) := by
  have h0 : b.getD 0 0 = b[0] := getD_of (show 0 < b.length by omega) 0
  have h1 : b.getD 1 0 = b[1] := getD_of (show 1 < b.length by omega) 0
  have b0 := hb b[0] (List.getElem_mem _)
  have b1 := hb b[1] (List.getElem_mem _)
  unfold byteOK at b0 b1
  obtain ⟨x, hx⟩ := Int.eq_ofNat_of_zero_le b0.1
  obtain ⟨y, hy⟩ := Int.eq_ofNat_of_zero_le b1.1
  refine ⟨x, y, by rw [h0, hx], by rw [h1, hy], by omega, by omega, ?_⟩
  unfold hdrN
  rw [h0, h1, hx, hy]; omega
theorem or_hdr {x y : Nat} (hx : x < 256) (hy : y < 256) : bits .or .i64 (IntKind.i64.wrap (IntKind.i64.wrap (x : Int) * 256)) (IntKind.i64.wrap (y : Int)) = ((256 * x + y : Nat) : Int) := by
  rw [wrap64 (n := (x : Int)) (by omega) (by omega), show (x : Int) * 256 = ((x * 256 : Nat) : Int) by omega, wrap64 (by omega) (by omega), wrap64 (by omega) (by omega)]
  have hb : (x * 256 ||| y) < 2 ^ 64 := Nat.or_lt_two_pow (by omega) (by omega)
  have e : (BitVec.ofInt 64 ((x * 256 : Nat) : Int) ||| BitVec.ofInt 64 (y : Int)).toNat = (x * 256 ||| y) := by
    rw [BitVec.toNat_or, BitVec.ofInt_natCast, BitVec.ofInt_natCast, BitVec.toNat_ofNat, BitVec.toNat_ofNat, Nat.mod_eq_of_lt (by omega), Nat.mod_eq_of_lt (by omega)]
  have h8 := Nat.shiftLeft_add_eq_or_of_lt (b := y) (i := 8) (by omega) x
  rw [Nat.shiftLeft_eq] at h8
  show IntKind.i64.wrap (((BitVec.ofInt 64 ((x * 256 : Nat) : Int) ||| BitVec.ofInt 64 (y : Int)).toNat : Nat) : Int) = _
  rw [e, ← h8, wrap64 (by omega) (by omega)]
  omega
theorem G150_is (k : Nat) (b : List Int) (hb : ∀ c ∈ b, byteOK c) (hl : b.length ≤ 1000000000000) : G150 k (b, ()) = some (firstF b, ()) := by
  rw [G150_eq]
  unfold firstF
  simp only [ofNat_len]
  by_cases c2 : b.length < 2
  · rw [sel_pos (by omega), if_pos c2]
  obtain ⟨x, y, e0, e1, hx, hy, hh⟩ := hdrN_ok hb (by omega)
  have e8 : (2 : Int) ^ min (Int.toNat 8) 64 = 256 := by rfl
  have ez : Int.toNat 0 = 0 := rfl
  have eo : Int.toNat 1 = 1 := rfl
  rw [sel_neg (by omega), if_neg c2, sel_pos (by omega), sel_pos (by omega), hh]
  simp only [e8, ez, eo, e0, e1, or_hdr hx hy]
  rw [wrap64 (n := 2 + _) (by omega) (by omega)]
  by_cases h0 : ((256 * x + y : Nat) : Int) = 0
  · rw [sel_pos h0, sel_pos h0, if_pos (.inl h0)]
  rw [sel_neg h0]
  by_cases h1 : 2048 < ((256 * x + y : Nat) : Int)
  · rw [sel_pos h1, if_pos (.inr h1)]
  rw [sel_neg h1, if_neg (by omega)]
  by_cases h3 : (b.length : Int) < 2 + ((256 * x + y : Nat) : Int)
  · rw [sel_pos h3, if_pos h3]
  · rw [sel_neg h3, if_neg h3]
theorem G87_is (k : Nat) (r : Reader) (hb : ∀ c ∈ r.1, byteOK c) (hl : r.1.length ≤ 1000000000000) : G87 k (r, ()) = some (rightR r, ()) := by
  obtain ⟨rest, br, ⟨⟩⟩ := r
  rw [G87_eq]
  unfold rightR
  cases br with
  | true =>
    rw [sel_true, if_pos rfl]
    simp only [ofNat_len]
    rw [show decide (((rest.length : Nat) : Int) = 0) = decide (rest.length = 0) from decide_eq_decide.2 (by omega)]
  | false => rw [sel_false, if_neg (by simp), G150_is k rest hb hl, ocall_some]
def feedF : Nat → List Int → List (List Int) × List Int × Bool
  | 0, all => ([], all, false)
  | k + 1, all => if 0 < firstF all then ((all.take (firstF all).toNat).drop 2 :: (feedF k (all.drop (firstF all).toNat)).1, (feedF k (all.drop (firstF all).toNat)).2)
    else if firstF all < 0 then ([], [], true) else ([], all, false)
def feedA (all : List Int) : List (List Int) × List Int × Bool := feedF (all.length + 1) all
theorem first_pos {b : List Int} (hb : ∀ c ∈ b, byteOK c) (h : 0 < firstF b) : 3 ≤ (firstF b).toNat ∧ (firstF b).toNat ≤ b.length ∧ firstF b = 2 + hdrN b ∧ 1 ≤ hdrN b ∧ hdrN b ≤ 2048 ∧ 2 ≤ b.length := by
  unfold firstF at h ⊢
  by_cases c2 : b.length < 2
  · rw [if_pos c2] at h; omega
  obtain ⟨x, y, e0, e1, hx, hy, hh⟩ := hdrN_ok hb (by omega)
  rw [if_neg c2] at h ⊢
  by_cases c3 : hdrN b = 0 ∨ 2048 < hdrN b
  · rw [if_pos c3] at h; omega
  rw [if_neg c3] at h ⊢
  by_cases c4 : (b.length : Int) < 2 + hdrN b
  · rw [if_pos c4] at h; omega
  rw [if_neg c4]
  omega
theorem bytes_drop {b : List Int} (hb : ∀ c ∈ b, byteOK c) (n : Nat) : ∀ c ∈ b.drop n, byteOK c := fun c hc => hb c (List.mem_of_mem_drop hc)
theorem bytes_take {b : List Int} (hb : ∀ c ∈ b, byteOK c) (n : Nat) : ∀ c ∈ b.take n, byteOK c := fun c hc => hb c (List.mem_of_mem_take hc)
theorem bytes_app {a b : List Int} (ha : ∀ c ∈ a, byteOK c) (hb : ∀ c ∈ b, byteOK c) : ∀ c ∈ a ++ b, byteOK c := fun c hc => (List.mem_append.1 hc).elim (ha c) (hb c)
theorem feedF_same : ∀ (n : Nat) (all : List Int), (∀ c ∈ all, byteOK c) → all.length ≤ n → ∀ k k', all.length < k → all.length < k' → feedF k all = feedF k' all := by
  intro n
  induction n with
  | zero =>
    intro all hb h k k' hk hk'
    have : all = [] := List.eq_nil_of_length_eq_zero (by omega)
    subst this
    obtain ⟨k, rfl⟩ : ∃ m, k = m + 1 := ⟨k - 1, by omega⟩
    obtain ⟨k', rfl⟩ : ∃ m, k' = m + 1 := ⟨k' - 1, by omega⟩
    rfl
  | succ n ih =>
    intro all hb h k k' hk hk'
    obtain ⟨k, rfl⟩ : ∃ m, k = m + 1 := ⟨k - 1, by omega⟩
    obtain ⟨k', rfl⟩ : ∃ m, k' = m + 1 := ⟨k' - 1, by omega⟩
    by_cases c : 0 < firstF all
    · have hf := first_pos hb c
      have := ih (all.drop (firstF all).toNat) (bytes_drop hb _) (by rw [List.length_drop]; omega) k k' (by rw [List.length_drop]; omega) (by rw [List.length_drop]; omega)
      show (if 0 < firstF all then _ else _) = (if 0 < firstF all then _ else _)
      rw [if_pos c, if_pos c, this]
    · show (if 0 < firstF all then _ else _) = (if 0 < firstF all then _ else _)
      rw [if_neg c, if_neg c]
theorem feedA_eq {all : List Int} (hb : ∀ c ∈ all, byteOK c) : feedA all = if 0 < firstF all then ((all.take (firstF all).toNat).drop 2 :: (feedA (all.drop (firstF all).toNat)).1, (feedA (all.drop (firstF all).toNat)).2)
    else if firstF all < 0 then ([], [], true) else ([], all, false) := by
  unfold feedA
  show (if 0 < firstF all then _ else _) = _
  by_cases c : 0 < firstF all
  · have hf := first_pos hb c
    rw [if_pos c, if_pos c, feedF_same all.length (all.drop (firstF all).toNat) (bytes_drop hb _) (by rw [List.length_drop]; omega) all.length ((all.drop (firstF all).toNat).length + 1) (by rw [List.length_drop]; omega) (by omega)]
  · rw [if_neg c, if_neg c]
theorem feedA_pos {all : List Int} (hb : ∀ c ∈ all, byteOK c) (h : 0 < firstF all) : feedA all = ((all.take (firstF all).toNat).drop 2 :: (feedA (all.drop (firstF all).toNat)).1, (feedA (all.drop (firstF all).toNat)).2) := by rw [feedA_eq hb, if_pos h]
theorem feedA_neg {all : List Int} (hb : ∀ c ∈ all, byteOK c) (h : firstF all < 0) : feedA all = ([], [], true) := by rw [feedA_eq hb, if_neg (by omega), if_pos h]
theorem feedA_zero {all : List Int} (hb : ∀ c ∈ all, byteOK c) (h : firstF all = 0) : feedA all = ([], all, false) := by rw [feedA_eq hb, if_neg (by omega), if_neg (by omega)]
theorem first_cases (b : List Int) (hb : ∀ c ∈ b, byteOK c) : firstF b = 0 ∨ firstF b = -1 ∨ 0 < firstF b := by
  unfold firstF
  by_cases c2 : b.length < 2
  · rw [if_pos c2]; exact .inl rfl
  obtain ⟨x, y, e0, e1, hx, hy, hh⟩ := hdrN_ok hb (by omega)
  rw [if_neg c2]
  split
  · exact .inr (.inl rfl)
  split
  · exact .inl rfl
  · right; right; omega
def feedR (r : Reader) (b : List Int) : Reader × List (List Int) × Int :=
  if rightR r = true then
    (if r.2.1 = true then (r, [], 12)
     else if (feedA (r.1 ++ b)).2.2 = true then (([], true, ()), (feedA (r.1 ++ b)).1, 12) else (((feedA (r.1 ++ b)).2.1, false, ()), (feedA (r.1 ++ b)).1, 0))
  else (r, [], 1)
theorem cloneB (k : Nat) (l : List Int) (hl : l.length ≤ 1000000000000) : G147 k l = some (l, ()) := by
  rw [G147_eq, sel_pos (by omega)]
theorem G88_g0_is (k : Nat) : ∀ (n : Nat) (all : List Int), all.length ≤ n → (∀ c ∈ all, byteOK c) → all.length ≤ 1000000000 → ∀ (out : List (List Int)), out.length + all.length ≤ 1000000000 → ∀ c, n < c →
    G88_g0 k c (all, out, [], false, ()) = some (if (feedA all).2.2 = true then (out ++ (feedA all).1, 12, [], true, ()) else (out ++ (feedA all).1, 0, (feedA all).2.1, false, ())) := by
  intro n
  induction n with
  | zero =>
    intro all hn hb hl out ho c hc
    obtain ⟨c, rfl⟩ : ∃ m, c = m + 1 := ⟨c - 1, by omega⟩
    have : all = [] := List.eq_nil_of_length_eq_zero (by omega)
    subst this
    have h0 : firstF [] = 0 := rfl
    rw [G88_g0_eq, G150_is k [] hb (by omega), ocall_some, feedA_zero hb h0, if_neg (by simp)]
    simp only [h0]
    rw [sel_neg (by omega), sel_neg (by omega), cloneB k [] (by simp), ocall_some, List.append_nil]
  | succ n ih =>
    intro all hn hb hl out ho c hc
    obtain ⟨c, rfl⟩ : ∃ m, c = m + 1 := ⟨c - 1, by omega⟩
    rw [G88_g0_eq, G150_is k all hb (by omega), ocall_some]
    simp only [ofNat_len]
    rcases first_cases all hb with h | h | h
    · rw [feedA_zero hb h, if_neg (by simp), sel_neg (by omega), sel_neg (by omega), cloneB k all (by omega), ocall_some, List.append_nil]
    · rw [feedA_neg hb (by omega), if_pos rfl, sel_neg (by omega), sel_pos (by omega), List.append_nil]
    · have hf := first_pos hb h
      rw [sel_pos h, sel_pos (by omega), sel_pos (Int.le_refl _), sel_pos (by omega), sel_pos (by omega), sel_pos (by omega), sel_pos (by omega), sel_pos (Int.le_refl _), sel_pos (Int.le_refl _), Int.toNat_natCast, List.take_of_length_le (Nat.le_refl all.length),
        ih _ (by rw [List.length_drop]; omega) (bytes_drop hb _) (by rw [List.length_drop]; omega) _ (by rw [List.length_append, List.length_drop]; simp; omega) c (by omega), feedA_pos hb h]
      have e2 : Int.toNat 2 = 2 := rfl
      rw [e2]
      by_cases hq : (feedA (all.drop (firstF all).toNat)).2.2 = true
      · rw [if_pos hq, if_pos hq]; simp
      · rw [if_neg hq, if_neg hq]; simp
theorem G88_is (k : Nat) (r : Reader) (b : List Int) (hr : ∀ c ∈ r.1, byteOK c) (hb : ∀ c ∈ b, byteOK c) (hl : r.1.length + b.length ≤ 100000000) (hk : r.1.length + b.length + 10 < k) : G88 k (r, b, ()) = some ((feedR r b).1, (feedR r b).2.1, (feedR r b).2.2, ()) := by
  have hR := G87_is k r hr (by omega)
  obtain ⟨rest, br, ⟨⟩⟩ := r
  have hl : rest.length + b.length ≤ 100000000 := hl
  have hk : rest.length + b.length + 10 < k := hk
  have hr : ∀ c ∈ rest, byteOK c := hr
  rw [G88_eq, hR, ocall_some]
  unfold feedR
  cases hrr : rightR (rest, br, ()) with
  | false => rw [if_neg (by simp)]; rfl
  | true =>
  rw [if_pos rfl]
  simp only [Bool.not_true, sel_false]
  cases br with
  | true => rw [sel_true, if_pos rfl]
  | false =>
  rw [sel_false, if_neg (by simp), G142_is k [rest, b] (by simp) (by simp; omega) (by simp only [lenSum]; omega), ocall_some]
  have ef : [rest, b].flatten = rest ++ b := by simp
  have hab := bytes_app hr hb
  have hlen : (rest ++ b).length = rest.length + b.length := List.length_append
  simp only [ef, ofNat_len]
  rw [G150_is k (rest ++ b) hab (by omega), ocall_some]
  (try simp only [])
  generalize rest ++ b = all at hab hlen
  rcases first_cases all hab with h | h | h
  · rw [feedA_zero hab h, if_neg (by simp), sel_neg (by omega), sel_neg (by omega), cloneB k all (by omega), ocall_some]
  · rw [feedA_neg hab (by omega), if_pos rfl, sel_neg (by omega), sel_pos (by omega)]
  · have hf := first_pos hab h
    rw [sel_pos h, sel_pos (by omega), sel_pos (Int.le_refl _), sel_pos (by omega), sel_pos (by omega), sel_pos (by omega), sel_pos (Int.le_refl _), sel_pos (Int.le_refl _), Int.toNat_natCast, List.take_of_length_le (Nat.le_refl all.length),
      G88_g0_is k all.length _ (by rw [List.length_drop]; omega) (bytes_drop hab _) (by rw [List.length_drop]; omega) _ (by rw [List.length_drop]; simp; omega) k (by omega), ocall_some, feedA_pos hab h]
    have e2 : Int.toNat 2 = 2 := rfl
    rw [e2]
    by_cases hq : (feedA (all.drop (firstF all).toNat)).2.2 = true
    · rw [if_pos hq, if_pos hq]; simp
    · rw [if_neg hq, if_neg hq]; simp
end Go.Proofs.YtjgnpmdbkgeakaaDoor.G
end
section
set_option linter.unusedVariables false
set_option linter.unusedSimpArgs false
set_option maxRecDepth 100000
namespace Go.Proofs.YtjgnpmdbkgeakaaDoor.G
open Go Go.Proofs.YtjgnpmdbkgeakaaDoor Th Bits
theorem hdrN_app {r : List Int} (h : 2 ≤ r.length) (t : List Int) : hdrN (r ++ t) = hdrN r := by
  match r, h with
  | a :: b :: r, _ => rfl
theorem first_short {r : List Int} (hb : ∀ c ∈ r, byteOK c) (h : firstF r = 0) : r.length < 2 ∨ (2 ≤ r.length ∧ 1 ≤ hdrN r ∧ hdrN r ≤ 2048 ∧ (r.length : Int) < 2 + hdrN r) := by
  unfold firstF at h
  by_cases c2 : r.length < 2
  · exact .inl c2
  obtain ⟨x, y, e0, e1, hx, hy, hh⟩ := hdrN_ok hb (by omega)
  rw [if_neg c2] at h
  by_cases c3 : hdrN r = 0 ∨ 2048 < hdrN r
  · rw [if_pos c3] at h; omega
  rw [if_neg c3] at h
  by_cases c4 : (r.length : Int) < 2 + hdrN r
  · exact .inr ⟨by omega, by omega, by omega, c4⟩
  · rw [if_neg c4] at h; omega
theorem first_le {r : List Int} (hb : ∀ c ∈ r, byteOK c) (h : firstF r = 0) : r.length ≤ 2050 := by
  rcases first_short hb h with h1 | h1 <;> omega
theorem bytes_one {c : Int} (h : byteOK c) : ∀ x ∈ [c], byteOK x := fun x hx => by simp only [List.mem_singleton] at hx; rw [hx]; exact h
theorem snoc_cases {r : List Int} {c : Int} (hb : ∀ c ∈ r, byteOK c) (hc : byteOK c) (h : firstF r = 0) :
    ((r ++ [c]).length < 2 ∧ firstF (r ++ [c]) = 0) ∨
    (2 ≤ (r ++ [c]).length ∧ ¬ (0 < hdrN (r ++ [c]) ∧ hdrN (r ++ [c]) ≤ 2048) ∧ ∀ t, firstF ((r ++ [c]) ++ t) = -1) ∨
    (2 ≤ (r ++ [c]).length ∧ (0 < hdrN (r ++ [c]) ∧ hdrN (r ++ [c]) ≤ 2048) ∧ ((r ++ [c]).length : Int) = 2 + hdrN (r ++ [c]) ∧ ∀ t, firstF ((r ++ [c]) ++ t) = ((r ++ [c]).length : Int)) ∨
    (2 ≤ (r ++ [c]).length ∧ (0 < hdrN (r ++ [c]) ∧ hdrN (r ++ [c]) ≤ 2048) ∧ ((r ++ [c]).length : Int) ≠ 2 + hdrN (r ++ [c]) ∧ firstF (r ++ [c]) = 0) := by
  have hb' := bytes_app hb (bytes_one hc)
  have hlen : (r ++ [c]).length = r.length + 1 := by simp
  by_cases c2 : (r ++ [c]).length < 2
  · refine .inl ⟨c2, ?_⟩
    unfold firstF; rw [if_pos c2]
  obtain ⟨x, y, e0, e1, hx, hy, hh⟩ := hdrN_ok hb' (by omega)
  by_cases c3 : 0 < hdrN (r ++ [c]) ∧ hdrN (r ++ [c]) ≤ 2048
  case neg =>
    refine .inr (.inl ⟨by omega, c3, fun t => ?_⟩)
    unfold firstF
    rw [if_neg (by rw [List.length_append]; omega), hdrN_app (by omega), if_pos (by omega)]
  by_cases c4 : ((r ++ [c]).length : Int) = 2 + hdrN (r ++ [c])
  · refine .inr (.inr (.inl ⟨by omega, c3, c4, fun t => ?_⟩))
    unfold firstF
    rw [if_neg (by rw [List.length_append]; omega), hdrN_app (by omega), if_neg (by omega), if_neg (by rw [List.length_append]; omega)]
    exact c4.symm
  · refine .inr (.inr (.inr ⟨by omega, c3, c4, ?_⟩))
    have hlt : ((r ++ [c]).length : Int) < 2 + hdrN (r ++ [c]) := by
      rcases first_short hb h with h1 | ⟨h1, h2, h3, h4⟩
      · omega
      · have := hdrN_app h1 [c]
        rw [this] at c4 ⊢
        omega
    unfold firstF
    rw [if_neg c2, if_neg (by omega), if_pos hlt]
theorem feedA_nil : feedA [] = ([], [], false) := rfl
theorem toBytes_ofB : ∀ (b : List Int), (∀ c ∈ b, byteOK c) → toBytes (ofBytes b) = b := by
  intro b
  induction b with
  | nil => intro _; rfl
  | cons c b ih =>
    intro h
    have h1 := h c (List.mem_cons_self ..)
    have h2 := ih fun c hc => h c (List.mem_cons_of_mem _ hc)
    unfold byteOK at h1
    simp only [ofBytes, toBytes, List.map_cons, List.map_map] at h2 ⊢
    rw [h2]
    congr 1
    simp
    omega
theorem ofBytes_inj {a b : List Int} (ha : ∀ c ∈ a, byteOK c) (hb : ∀ c ∈ b, byteOK c) : decide (ofBytes a = ofBytes b) = decide (a = b) := by
  refine decide_eq_decide.2 ⟨fun h => ?_, fun h => by rw [h]⟩
  rw [← toBytes_ofB a ha, h, toBytes_ofB b hb]
theorem G86_is (k : Nat) (a b : Reader) (ha : ∀ c ∈ a.1, byteOK c) (hb : ∀ c ∈ b.1, byteOK c) : G86 k (a, b, ()) = some (decide (a = b), ()) := by
  obtain ⟨a1, a2, ⟨⟩⟩ := a
  obtain ⟨b1, b2, ⟨⟩⟩ := b
  rw [G86_eq, ofBytes_inj ha hb]
  by_cases c1 : a1 = b1 <;> cases a2 <;> cases b2 <;> simp [c1]
theorem G89_4_is (k : Nat) (a b : List (List Int)) (hab : a.length = b.length) (hl : a.length ≤ 1000000000) (ha : ∀ x ∈ a, ∀ c ∈ x, byteOK c) (hb : ∀ x ∈ b, ∀ c ∈ x, byteOK c) : ∀ (j i : Nat), i + j = a.length → ∀ n, j < n →
    G89_4 k n (a, b, (i : Int), ()) = some (sel (decide (a.drop i = b.drop i)) (.inl ()) (.inr (false, ()))) := by
  intro j
  induction j with
  | zero =>
    intro i hij n hn
    obtain ⟨n, rfl⟩ : ∃ m, n = m + 1 := ⟨n - 1, by omega⟩
    rw [G89_4_eq, sel_neg (by simp only [ofNat_len]; omega), List.drop_eq_nil_of_le (by omega), List.drop_eq_nil_of_le (by omega)]
    rfl
  | succ j ih =>
    intro i hij n hn
    obtain ⟨n, rfl⟩ : ∃ m, n = m + 1 := ⟨n - 1, by omega⟩
    have hlt : i < a.length := by omega
    have hlt' : i < b.length := by omega
    rw [G89_4_eq]
    simp only [ofNat_len, Int.toNat_natCast, getD_of hlt, getD_of hlt']
    rw [sel_pos (by omega), sel_pos (by omega), sel_pos (by omega), sel_pos (by omega), sel_pos (by omega), ofBytes_inj (ha _ (List.getElem_mem _)) (hb _ (List.getElem_mem _)), List.drop_eq_getElem_cons hlt, List.drop_eq_getElem_cons hlt', wrap64 (by omega) (by omega)]
    simp only [List.cons.injEq]
    by_cases c : a[i] = b[i]
    · rw [decide_eq_true c, Bool.not_true, sel_false]
      have := ih (i + 1) (by omega) n (by omega)
      simp only [Int.natCast_add, Int.natCast_one] at this
      rw [this]
      have e : decide (a[i] = b[i] ∧ a.drop (i + 1) = b.drop (i + 1)) = decide (a.drop (i + 1) = b.drop (i + 1)) := decide_eq_decide.2 ⟨fun h => h.2, fun h => ⟨c, h⟩⟩
      rw [e]
    · rw [decide_eq_false c, Bool.not_false, sel_true, decide_eq_false (fun h => c h.1)]; rfl
theorem G89_is (k : Nat) (a b : List (List Int)) (hl : a.length ≤ 1000000000) (hk : a.length < k) (ha : ∀ x ∈ a, ∀ c ∈ x, byteOK c) (hb : ∀ x ∈ b, ∀ c ∈ x, byteOK c) : G89 k (a, b, ()) = some (decide (a = b), ()) := by
  rw [G89_eq]
  simp only [ofNat_len]
  by_cases h2 : a.length = b.length
  case neg =>
    rw [decide_eq_false (show ¬ (a.length : Int) = (b.length : Int) by omega), Bool.not_false, sel_true, decide_eq_false (fun e => h2 (by rw [e]))]
  rw [decide_eq_true (show (a.length : Int) = (b.length : Int) by omega), Bool.not_true, sel_false]
  have := G89_4_is k a b h2 hl ha hb a.length 0 (by omega) k hk
  simp only [List.drop_zero, Int.natCast_zero] at this
  rw [this, ocall_some]
  cases decide (a = b) <;> rfl
theorem feed_bytes : ∀ (n : Nat) (all : List Int), all.length ≤ n → (∀ c ∈ all, byteOK c) → (∀ x ∈ (feedA all).1, ∀ c ∈ x, byteOK c) ∧ (∀ c ∈ (feedA all).2.1, byteOK c) ∧ firstF (feedA all).2.1 = 0 ∧ (feedA all).1.length ≤ all.length ∧ (feedA all).2.1.length ≤ all.length := by
  intro n
  induction n with
  | zero =>
    intro all hn hb
    have : all = [] := List.eq_nil_of_length_eq_zero (by omega)
    subst this
    exact ⟨fun x hx => absurd hx (by simp [feedA_nil]), fun x hx => absurd hx (by simp [feedA_nil]), rfl, Nat.zero_le _, Nat.zero_le _⟩
  | succ n ih =>
    intro all hn hb
    rcases first_cases all hb with h | h | h
    · rw [feedA_zero hb h]; exact ⟨fun x hx => absurd hx (by simp), hb, h, Nat.zero_le _, Nat.le_refl _⟩
    · rw [feedA_neg hb (by omega)]; exact ⟨fun x hx => absurd hx (by simp), fun x hx => absurd hx (by simp), rfl, Nat.zero_le _, Nat.zero_le _⟩
    · have hf := first_pos hb h
      rw [feedA_pos hb h]
      obtain ⟨i1, i2, i3, i4, i5⟩ := ih (all.drop (firstF all).toNat) (by rw [List.length_drop]; omega) (bytes_drop hb _)
      rw [List.length_drop] at i4 i5
      refine ⟨fun x hx => ?_, i2, i3, by simp only [List.length_cons]; omega, by (try simp only []); omega⟩
      rcases List.mem_cons.1 hx with rfl | hx
      · exact bytes_drop (bytes_take hb _) _
      · exact i1 x hx
theorem first_app {all : List Int} (hb : ∀ c ∈ all, byteOK c) (h : 0 < firstF all) (t : List Int) : firstF (all ++ t) = firstF all := by
  have hf := first_pos hb h
  have hh := hdrN_app hf.2.2.2.2.2 t
  rw [hf.2.2.1]
  unfold firstF
  rw [if_neg (by rw [List.length_append]; omega), hh, if_neg (by omega), if_neg (by rw [List.length_append]; omega)]
theorem first_app_neg {all : List Int} (hb : ∀ c ∈ all, byteOK c) (h : firstF all = -1) (t : List Int) : firstF (all ++ t) = -1 := by
  unfold firstF at h
  by_cases c2 : all.length < 2
  · rw [if_pos c2] at h; omega
  rw [if_neg c2] at h
  by_cases c3 : hdrN all = 0 ∨ 2048 < hdrN all
  · unfold firstF
    rw [if_neg (by rw [List.length_append]; omega), hdrN_app (by omega), if_pos c3]
  · obtain ⟨x, y, e0, e1, hx, hy, hh⟩ := hdrN_ok hb (by omega)
    rw [if_neg c3] at h
    split at h <;> omega
end Go.Proofs.YtjgnpmdbkgeakaaDoor.G
end
section
set_option linter.unusedVariables false
set_option linter.unusedSimpArgs false
namespace Go.Proofs.YtjgnpmdbkgeakaaDoor.G
open Go Go.Proofs.YtjgnpmdbkgeakaaDoor Th
def dgt (c : UInt8) : Bool := decide (48 ≤ c.toNat) && decide (c.toNat ≤ 57)
def isDig (s : List UInt8) : Bool := decide (0 < s.length) && s.all dgt
theorem dgt_iff {c : UInt8} : dgt c = true ↔ 48 ≤ c.toNat ∧ c.toNat ≤ 57 := by simp [dgt]
theorem drop_at {α : Type} {s : List α} {i : Nat} (h : i < s.length) : s.drop i = s[i] :: s.drop (i + 1) := List.drop_eq_getElem_cons h
theorem G169_g0_is (k : Nat) (s : List UInt8) (hs : s.length ≤ maxLen) : ∀ (j i : Nat), i + j = s.length → ∀ n, j < n → G169_g0 k n (s, (i : Int), ()) = some (decide (0 < s.length) && (s.drop i).all dgt, ()) := by
  rw [maxLen_eq] at hs
  intro j
  induction j with
  | zero =>
    intro i hij n hn
    obtain ⟨n, rfl⟩ : ∃ m, n = m + 1 := ⟨n - 1, by omega⟩
    rw [G169_g0_eq, sel_pos (by simp only [ofNat_len]; omega)]
    rw [List.drop_eq_nil_of_le (by omega)]
    have : decide ((0 : Int) < (i : Int)) = decide (0 < s.length) := decide_eq_decide.2 (by omega)
    simp only [this, List.all_nil, Bool.and_true]
  | succ j ih =>
    intro i hij n hn
    obtain ⟨n, rfl⟩ : ∃ m, n = m + 1 := ⟨n - 1, by omega⟩
    have hlt : i < s.length := by omega
    rw [G169_g0_eq]
    simp only [ofNat_len, Int.toNat_natCast, getD_of hlt, Int.ofNat_eq_natCast]
    rw [sel_neg (by omega), sel_pos (by omega), sel_pos (by omega)]
    rw [drop_at hlt, List.all_cons]
    have hp : decide (0 < s.length) = true := by simp; omega
    by_cases c1 : ((s[i]).toNat : Int) < 48
    · rw [sel_pos c1]
      have : dgt s[i] = false := by rw [Bool.eq_false_iff, Ne, dgt_iff]; omega
      simp [this]
    · rw [sel_neg c1, sel_pos (by omega), sel_pos (by omega)]
      by_cases c2 : (57 : Int) < ((s[i]).toNat : Int)
      · rw [sel_pos c2]
        have : dgt s[i] = false := by rw [Bool.eq_false_iff, Ne, dgt_iff]; omega
        simp [this]
      · rw [sel_neg c2]
        have : dgt s[i] = true := by rw [dgt_iff]; omega
        rw [this, wrap64 (by omega) (by omega)]
        have := ih (i + 1) (by omega) n (by omega)
        simpa using this
theorem G169_is (k : Nat) (s : List UInt8) (hs : s.length ≤ maxLen) (hk : s.length < k) : G169 k (s, ()) = some (isDig s, ()) := by
  have hs' := hs
  rw [maxLen_eq] at hs'
  rw [G169_eq]
  simp only [ofNat_len, isDig]
  cases hs0 : s with
  | nil => rfl
  | cons c t =>
    rw [← hs0]
    have hlt : 0 < s.length := by rw [hs0]; simp
    simp only [Int.ofNat_eq_natCast, show Int.toNat (0 : Int) = 0 from rfl, getD_of hlt]
    rw [sel_neg (by omega), sel_pos (by omega)]
    have hp : decide (0 < s.length) = true := by simp; omega
    have hd := drop_at hlt
    rw [List.drop_zero] at hd
    rw [hp, Bool.true_and]
    have e0 : s.all dgt = (dgt s[0] && (s.drop 1).all dgt) := by
      conv => lhs; rw [hd]
      rw [List.all_cons]
    rw [e0]
    by_cases c1 : ((s[0]).toNat : Int) < 48
    · rw [sel_pos c1]
      have : dgt s[0] = false := by rw [Bool.eq_false_iff, Ne, dgt_iff]; omega
      rw [this]; rfl
    · rw [sel_neg c1, sel_pos (by omega)]
      by_cases c2 : (57 : Int) < ((s[0]).toNat : Int)
      · rw [sel_pos c2]
        have : dgt s[0] = false := by rw [Bool.eq_false_iff, Ne, dgt_iff]; omega
        rw [this]; rfl
      · rw [sel_neg c2]
        have : dgt s[0] = true := by rw [dgt_iff]; omega
        rw [this, wrap64 (by omega) (by omega)]
        have := G169_g0_is k s hs (s.length - 1) 1 (by omega) k (by omega)
        rw [show ((0 : Int) + 1) = ((1 : Nat) : Int) from rfl, this, hp]
        simp
def digs (v : Nat) : Nat → List UInt8
  | 0 => []
  | n + 1 => digs (v / 10) n ++ [UInt8.ofNat (48 + v % 10)]
theorem digs_len (n : Nat) : ∀ v, (digs v n).length = n := by
  induction n with
  | zero => intro v; rfl
  | succ n ih => intro v; simp [digs, ih]
theorem chr_toNat {n : Nat} (h : n < 256) : (UInt8.ofNat n).toNat = n := by rw [UInt8.toNat_ofNat']; omega
theorem ofBytes_append (a b : List Int) : ofBytes (a ++ b) = ofBytes a ++ ofBytes b := by simp [ofBytes]
theorem G105_5_is (k : Nat) : ∀ (i : Nat) (v : Nat) (pre post : List Int), v < 18446744073709551616 → pre.length = i → i ≤ 19 → ∀ n, i < n →
    ∃ mid, mid.length = i ∧ G105_5 k n ((v : Int), pre ++ post, (i : Int) - 1, ()) = some (((v / 10 ^ i : Nat) : Int), mid ++ post, ()) ∧ ofBytes mid = digs v i := by
  intro i
  induction i with
  | zero =>
    intro v pre post hv hp hi n hn
    obtain ⟨n, rfl⟩ : ∃ m, n = m + 1 := ⟨n - 1, by omega⟩
    have : pre = [] := List.length_eq_zero_iff.1 hp
    subst this
    refine ⟨[], rfl, ?_, rfl⟩
    rw [G105_5_eq, sel_neg (by (try simp only []); omega)]
    simp
  | succ i ih =>
    intro v pre post hv hp hi n hn
    obtain ⟨n, rfl⟩ : ∃ m, n = m + 1 := ⟨n - 1, by omega⟩
    obtain ⟨pre', x, rfl⟩ : ∃ p x, pre = p ++ [x] := ⟨pre.dropLast, pre.getLast (by intro h; rw [h] at hp; simp at hp), (List.dropLast_concat_getLast _).symm⟩
    have hp' : pre'.length = i := by simpa using hp
    have hd : v % 10 < 10 := Nat.mod_lt _ (by omega)
    have e1 : ((v : Int)).tdiv 10 = ((v / 10 : Nat) : Int) := by simp [Int.tdiv_eq_ediv_of_nonneg]
    have e2 : ((v : Int)).tmod 10 = ((v % 10 : Nat) : Int) := by simp [Int.tmod_eq_emod_of_nonneg]
    have e3 : (((i + 1 : Nat) : Int) - 1) = (i : Int) := by omega
    rw [G105_5_eq]
    simp only [e1, e2, e3, ofNat_len, Int.toNat_natCast]
    rw [sel_pos (by omega), sel_pos (by omega), sel_pos (by simp; omega), sel_pos (by simp; omega)]
    have w1 : IntKind.u64.wrap ((v / 10 : Nat) : Int) = ((v / 10 : Nat) : Int) := wrapu64 (by omega) (by omega)
    have w2 : IntKind.u8.wrap ((v % 10 : Nat) : Int) = ((v % 10 : Nat) : Int) := wrapu8 (by omega) (by omega)
    have w3 : IntKind.u8.wrap (48 + ((v % 10 : Nat) : Int)) = 48 + ((v % 10 : Nat) : Int) := wrapu8 (by omega) (by omega)
    have w4 : IntKind.i64.wrap ((i : Int) - 1) = (i : Int) - 1 := wrap64 (by omega) (by omega)
    rw [w1, w2, w3, w4]
    have hset : (pre' ++ [x] ++ post).set i (48 + ((v % 10 : Nat) : Int)) = pre' ++ ((48 + ((v % 10 : Nat) : Int)) :: post) := by
      rw [List.append_assoc, List.set_append_right _ _ (by omega)]
      simp [hp']
    rw [hset]
    obtain ⟨mid, m1, m2, m3⟩ := ih (v / 10) pre' ((48 + ((v % 10 : Nat) : Int)) :: post) (by omega) hp' (by omega) n (by omega)
    refine ⟨mid ++ [48 + ((v % 10 : Nat) : Int)], by simp [m1], ?_, ?_⟩
    · rw [m2, Nat.div_div_eq_div_mul, Nat.pow_succ, Nat.mul_comm (10 ^ i) 10]
      simp
    · rw [ofBytes_append, m3, digs]
      have : (48 + ((v % 10 : Nat) : Int)).toNat = 48 + v % 10 := by omega
      show _ ++ [UInt8.ofNat (48 + ((v % 10 : Nat) : Int)).toNat] = _
      rw [this]
def putOK (v : Nat) (n : Int) : List UInt8 × Int :=
  if n < 1 ∨ 19 < n then ([], 1) else if v / 10 ^ n.toNat = 0 then (digs v n.toNat, 0) else ([], 10)
theorem G105_is (k : Nat) (hk : 20 < k) (v : Nat) (n : Int) (hv : v < 18446744073709551616) : G105 k ((v : Int), n, ()) = some ((putOK v n).1, (putOK v n).2, ()) := by
  rw [G105_eq]
  unfold putOK
  by_cases c1 : n < 1
  · rw [sel_pos c1, if_pos (.inl c1)]
  rw [sel_neg c1]
  by_cases c2 : 19 < n
  · rw [sel_pos c2, if_pos (.inr c2)]
  rw [sel_neg c2, if_neg (by omega)]
  obtain ⟨m, rfl⟩ : ∃ m : Nat, n = (m : Int) := ⟨n.toNat, by omega⟩
  simp only [Int.toNat_natCast]
  rw [sel_pos (by omega), sel_pos (by omega), sel_pos (by omega), sel_pos (by simp only [Int.ofNat_eq_natCast]; omega)]
  obtain ⟨mid, m1, m2, m3⟩ := G105_5_is k m v (List.replicate m 0) [] hv (by simp) (by omega) k (by omega)
  rw [wrap64 (by omega) (by omega)]
  simp only [List.append_nil] at m2
  have m2' : G105_5 k k ((v : Int), List.replicate m (OfNat.ofNat (0 : Nat)), (m : Int) - 1, ()) = some (((v / 10 ^ m : Nat) : Int), mid, ()) := m2
  rw [m2', ocall_some]
  generalize v / 10 ^ m = q
  by_cases c3 : q = 0
  · rw [sel_neg (by simp only [c3]; omega), if_pos c3, m3]
  · rw [sel_pos (by (try simp only []); omega), if_neg c3]
def val (a : Nat) (s : List UInt8) : Nat := s.foldl (fun a c => 10 * a + (c.toNat - 48)) a
theorem val_cons (a : Nat) (c : UInt8) (s : List UInt8) : val a (c :: s) = val (10 * a + (c.toNat - 48)) s := by unfold val; rw [List.foldl_cons]
theorem pow_le19 {i : Nat} (h : i ≤ 19) : 10 ^ i ≤ 10 ^ 19 := Nat.pow_le_pow_right (by omega) h
theorem G172_9_is (k : Nat) (s : List UInt8) (hs : s.length ≤ 19) (hd : s.all dgt = true) : ∀ (j i a : Nat), i + j = s.length → a < 10 ^ i → ∀ n, j < n →
    G172_9 k n ((a : Int), toBytes s, ((toBytes s).length : Int), (i : Int), ()) = some ((val a (s.drop i) : Int), ()) := by
  have hl : (toBytes s).length = s.length := by simp [toBytes]
  intro j
  induction j with
  | zero =>
    intro i a hij ha n hn
    obtain ⟨n, rfl⟩ : ∃ m, n = m + 1 := ⟨n - 1, by omega⟩
    rw [G172_9_eq, sel_neg (by simp only [hl]; omega), List.drop_eq_nil_of_le (by omega)]
    rfl
  | succ j ih =>
    intro i a hij ha n hn
    obtain ⟨n, rfl⟩ : ∃ m, n = m + 1 := ⟨n - 1, by omega⟩
    have hlt : i < s.length := by omega
    have hc := List.all_eq_true.1 hd s[i] (List.getElem_mem _)
    rw [dgt_iff] at hc
    have hg : (toBytes s).getD i (OfNat.ofNat 0) = ((s[i]).toNat : Int) := by rw [getD_of (by omega)]; simp [toBytes]
    have hp : 10 ^ i * 10 ≤ 10 ^ 19 := by rw [← Nat.pow_succ]; exact pow_le19 (by omega)
    have hp' : a + 1 ≤ 10 ^ i := ha
    have hp2 : (a + 1) * 10 ≤ 10 ^ i * 10 := Nat.mul_le_mul_right _ hp'
    rw [G172_9_eq]
    simp only [Int.toNat_natCast, hg, ofNat_len, hl]
    have w1 : IntKind.u8.wrap (((s[i]).toNat : Int) - 48) = (((s[i]).toNat - 48 : Nat) : Int) := by rw [wrapu8 (by omega) (by omega)]; omega
    have w2 : IntKind.u64.wrap (((s[i]).toNat - 48 : Nat) : Int) = (((s[i]).toNat - 48 : Nat) : Int) := wrapu64 (by omega) (by omega)
    have w3 : IntKind.u64.wrap (10 * (a : Int)) = 10 * (a : Int) := wrapu64 (by omega) (by omega)
    have w4 : IntKind.u64.wrap (10 * (a : Int) + (((s[i]).toNat - 48 : Nat) : Int)) = ((10 * a + ((s[i]).toNat - 48) : Nat) : Int) := by rw [wrapu64 (by omega) (by omega)]; omega
    rw [sel_pos (by omega), sel_pos (by omega), sel_pos (by omega), sel_pos (by omega), w1, w2, w3, w4, wrap64 (by omega) (by omega), drop_at hlt, val_cons]
    have := ih (i + 1) (10 * a + ((s[i]).toNat - 48)) (by omega) (by rw [Nat.pow_succ]; omega) n (by omega)
    rw [hl] at this
    exact this
def getOK (s : List UInt8) : Nat × Int := if s.length = 0 then (0, 2) else if 19 < s.length then (0, 4) else if isDig s = true then (val 0 s, 0) else (0, 3)
theorem G172_is (k : Nat) (s : List UInt8) (hk : 20 < k) : G172 k (s, ()) = some (((getOK s).1 : Int), (getOK s).2, ()) := by
  rw [G172_eq]
  unfold getOK
  by_cases c1 : s.length = 0
  · rw [if_pos c1, sel_pos (List.length_eq_zero_iff.1 c1)]; rfl
  rw [if_neg c1, sel_neg (fun h => c1 (List.length_eq_zero_iff.2 h))]
  simp only [ofNat_len]
  by_cases c2 : 19 < s.length
  · rw [if_pos c2, sel_pos (by omega)]; rfl
  rw [if_neg c2, sel_neg (by omega), G169_is k s (by rw [maxLen_eq]; omega) (by omega)]
  simp only [ocall_some, sel_not]
  cases hd : isDig s with
  | false => rfl
  | true =>
    rw [sel_true, if_pos rfl]
    have hd' : s.all dgt = true := by simp [isDig] at hd; simpa using hd.2
    have := G172_9_is k s (by omega) hd' s.length 0 0 (by omega) (by simp) k (by omega)
    simp only [Int.natCast_zero, List.drop_zero] at this
    rw [this]; rfl
end Go.Proofs.YtjgnpmdbkgeakaaDoor.G
end
section
set_option linter.unusedVariables false
set_option linter.unusedSimpArgs false
set_option maxRecDepth 100000
namespace Go.Proofs.YtjgnpmdbkgeakaaDoor.G
open Go Go.Proofs.YtjgnpmdbkgeakaaDoor Th
abbrev Def := Int × Int × Int × Unit
def D : List Def := [(2, 3, 19, ()), (3, 1, 6, ()), (4, 1, 12, ()), (7, 1, 10, ()), (11, 1, 6, ()), (12, 1, 6, ()), (37, 2, 12, ()), (38, 2, 6, ()), (39, 2, 2, ()), (41, 2, 8, ()), (44, 4, 25, ()), (48, 5, 999, ()), (49, 1, 3, ()), (90, 1, 42, ()), (120, 5, 999, ())]
def defOf (n : Int) : Option Def := D.find? fun d => decide (d.1 = n)
theorem G175_2_is (k : Nat) (n a b c : Int) (l : List Def) (hl : l.length ≤ 1000) : ∀ (j i : Nat), i + j = l.length → ∀ m, j < m →
    G175_2 k m (n, l, (l.length : Int), (i : Int), a, b, c, ()) = some (match (l.drop i).find? (fun d => decide (d.1 = n)) with
      | some d => .inr (true, d)
      | none => .inl (a, b, c, ())) := by
  intro j
  induction j with
  | zero =>
    intro i hij m hm
    obtain ⟨m, rfl⟩ : ∃ q, m = q + 1 := ⟨m - 1, by omega⟩
    rw [G175_2_eq, sel_neg (by (try simp only []); omega), List.drop_eq_nil_of_le (by omega)]
    rfl
  | succ j ih =>
    intro i hij m hm
    obtain ⟨m, rfl⟩ : ∃ q, m = q + 1 := ⟨m - 1, by omega⟩
    have hlt : i < l.length := by omega
    rw [G175_2_eq]
    simp only [ofNat_len, Int.toNat_natCast, getD_of hlt]
    rw [sel_pos (by omega), sel_pos (by omega), sel_pos (by omega), sel_pos (by omega), drop_at hlt, List.find?_cons]
    by_cases h : l[i].1 = n
    · rw [sel_pos h]
      simp only [h, decide_true]
      rw [← h]
    · rw [sel_neg h, wrap64 (by omega) (by omega)]
      simp only [h, decide_false]
      exact ih (i + 1) (by omega) m (by omega)
def defR (n : Int) : Def × Bool := match defOf n with
  | some d => (d, true)
  | none => ((0, 0, 0, ()), false)
theorem G175_is (k : Nat) (hk : 20 < k) (n : Int) : G175 k (n, ()) = some ((defR n).1, (defR n).2, ()) := by
  rw [G175_eq]
  have := G175_2_is k n 0 0 0 D (by decide) 15 0 (by decide) k (by omega)
  rw [show ((D.length : Nat) : Int) = Int.ofNat 15 from rfl, show (((0 : Nat) : Int)) = 0 from rfl, List.drop_zero, show (D.find? fun d => decide (d.1 = n)) = defOf n from rfl] at this
  show (ocall (G175_2 k k (n, D, Int.ofNat 15, 0, 0, 0, 0, ())) _) = _
  rw [this, ocall_some]
  unfold defR
  cases defOf n <;> rfl
def flat : List Def → List Int
  | [] => []
  | d :: l => d.1 :: d.2.1 :: d.2.2.1 :: flat l
theorem defOf_mem {n : Int} {d : Def} (h : defOf n = some d) : d ∈ D ∧ d.1 = n := by
  refine ⟨List.mem_of_find?_eq_some h, ?_⟩
  have := List.find?_some h
  simpa using this
theorem D_all : ∀ d ∈ D, 2 ≤ d.1 ∧ d.1 ≤ 128 ∧ 1 ≤ d.2.1 ∧ d.2.1 ≤ 5 ∧ 1 ≤ d.2.2.1 ∧ d.2.2.1 ≤ 999 ∧ ((d.2.1 = 3 ∨ d.2.1 = 4) → d.2.2.1 ≤ 99) := by
  decide
def ahead (kind : Int) : Nat := if kind = 3 ∨ kind = 4 then 2 else if kind = 5 then 3 else 0
def sized (d : Def) (n : Nat) : Bool := if ahead d.2.1 = 0 then decide ((n : Int) = d.2.2.1) else decide (1 ≤ n) && decide ((n : Int) ≤ d.2.2.1)
def signs (d : Def) (s : List UInt8) : Bool := Signs.signsOf d.2.1 (isDig s) s
def rightF (n : Int) (s : List UInt8) : Bool := match defOf n with
  | some d => sized d s.length && signs d s
  | none => false
theorem G177_is (k : Nat) (d : Def) (s : List UInt8) (hs : s.length ≤ maxLen) (hk : s.length < k) : G177 k ((d.1, d.2.1, d.2.2.1, ()), s, ()) = some (signs d s, ()) := by
  rw [G177_eq, sel_pos (by rw [maxLen_eq] at hs; (try simp only []); omega), G169_is k s hs hk, ocall_some]
  rfl
theorem G176_is (k : Nat) (d : Def) : G176 k ((d.1, d.2.1, d.2.2.1, ()), ()) = some (if ahead d.2.1 = 0 then .inr ((d.2.2.1, ()), ()) else .inl ((((ahead d.2.1 : Nat) : Int), d.2.2.1, ()), ())) := by
  rw [G176_eq]
  unfold ahead
  simp only [sel_dec]
  by_cases h3 : d.2.1 = 3
  · simp [h3]
  · by_cases h4 : d.2.1 = 4
    · simp [h4]
    · by_cases h5 : d.2.1 = 5
      · simp [h5]
      · simp [h3, h4, h5]
theorem G117_is (k : Nat) (hk : 20 < k) (n : Int) (s : List UInt8) (hs : s.length ≤ maxLen) (hks : s.length < k) : G117 k (n, s, ()) = some (rightF n s, ()) := by
  rw [G117_eq, G175_is k hk, ocall_some]
  unfold rightF defR
  cases defOf n with
  | none => rfl
  | some d =>
    simp only [sel_true, G176_is, ocall_some]
    unfold sized
    by_cases h : ahead d.2.1 = 0
    · rw [if_pos h, esel_inr, G248_eq, ocall_some, if_pos h, G177_is k d s hs hks]
      simp only [sel_dec, ofNat_len, ocall_some]
      by_cases c : (s.length : Int) = d.2.2.1 <;> simp [c]
    · rw [if_neg h, esel_inl, G246_eq, if_neg h, G177_is k d s hs hks]
      simp only [sel_dec, ofNat_len, ocall_some]
      by_cases c : (1 : Int) ≤ s.length
      · have c' : 1 ≤ s.length := by omega
        rw [if_pos c, ocall_some]
        by_cases c2 : (s.length : Int) ≤ d.2.2.1 <;> simp [c', c2]
      · have c' : ¬ 1 ≤ s.length := by omega
        rw [if_neg c, ocall_some]
        simp [c']
theorem G144_none (k : Nat) (hk : 20 < k) (n : Int) (l : List Int) (h : defOf n = none) : G144 k (n, l, ()) = some ([], 0, 5, ()) := by
  rw [G144_eq, G175_is k hk, ocall_some]
  unfold defR
  rw [h]; rfl
end Go.Proofs.YtjgnpmdbkgeakaaDoor.G
end
section
set_option linter.unusedVariables false
set_option linter.unusedSimpArgs false
namespace Go.Proofs.YtjgnpmdbkgeakaaDoor.G
open Go Go.Proofs.YtjgnpmdbkgeakaaDoor Th
theorem ahead_cases {kind : Int} : ahead kind = 0 ∨ ahead kind = 2 ∨ ahead kind = 3 := by unfold ahead; split <;> (try split) <;> simp
theorem ahead_two {kind : Int} (h : ahead kind = 2) : kind = 3 ∨ kind = 4 := by
  unfold ahead at h; split at h
  · assumption
  · split at h <;> cases h
def writeF (d : Def) (s : List UInt8) : List UInt8 := if ahead d.2.1 = 0 then s else digs s.length (ahead d.2.1) ++ s
end Go.Proofs.YtjgnpmdbkgeakaaDoor.G
end
