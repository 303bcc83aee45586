/- What each function's run comes to, as a plain function. -/
import Derived.Test.YthglkecbfakmpaaG
import Derived.KernelRfl
set_option maxRecDepth 1000000
set_option linter.unusedVariables false
set_option linter.unusedSimpArgs false
namespace Go.Proofs.Ythglkecbfakmpaa.G
open Go Go.Proofs.Ythglkecbfakmpaa Th
noncomputable def G38_5 (k : Nat) (j : Nat) (v : Int × List Int × Int × Unit) : Option
  (Int × List Int × Unit) := F38_5 k j v
theorem G38_5_eq (k : Nat) (j : Nat) (v : Int × List Int × Int × Unit) : G38_5 k (j + (1 : Nat)) v =
  sel (decide ((0 : Int) ≤ v.snd.snd.fst))
  (sel (decide ((0 : Int) ≤ v.snd.snd.fst))
    (sel (decide (v.snd.snd.fst < Int.ofNat v.snd.fst.length))
      (sel (decide (v.snd.snd.fst.toNat < v.snd.fst.length))
        (G38_5 k j
          (Go.IntKind.u64.wrap (v.fst.tdiv (10 : Int)),
            v.snd.fst.set v.snd.snd.fst.toNat
              (Go.IntKind.u8.wrap ((48 : Int) + Go.IntKind.u8.wrap (v.fst.tmod (10 : Int)))),
            Go.IntKind.i64.wrap (v.snd.snd.fst - (1 : Int)), ()))
        none)
      none)
    none)
  (some (v.fst, v.snd.fst, ())) := by kernel_rfl
noncomputable def G38 (k : Nat) (v : Int × Int × Unit) : Option (List UInt8 × Int × Unit) := F38 k v
theorem G38_eq (k : Nat) (v : Int × Int × Unit) : G38 k v =
  sel (decide (v.snd.fst < (1 : Int))) (some ([], (1 : Int), ()))
  (sel (decide ((19 : Int) < v.snd.fst)) (some ([], (1 : Int), ()))
    (sel (decide ((0 : Int) ≤ v.snd.fst))
      (sel (decide (v.snd.fst ≤ v.snd.fst))
        (sel (decide (v.snd.fst ≤ (140737488355328 : Int)))
          (sel (decide (v.snd.fst * Int.ofNat (1 : Nat) ≤ (140737488355328 : Int)))
            (ocall
              (G38_5 k k
                (v.fst, List.replicate v.snd.fst.toNat (OfNat.ofNat (0 : Nat)),
                  Go.IntKind.i64.wrap (v.snd.fst - (1 : Int)), ()))
              fun (e : Int × List Int × Unit) =>
              sel (decide ((0 : Int) < e.fst)) (some ([], (10 : Int), ()))
                (some (ofBytes e.snd.fst, (0 : Int), ())))
            none)
          none)
        none)
      none)) := by kernel_rfl
noncomputable def G44_g0 (k : Nat) (j : Nat) (v : List UInt8 × Int × Unit) : Option (Bool × Unit) := F44_g0 k j v
theorem G44_g0_eq (k : Nat) (j : Nat) (v : List UInt8 × Int × Unit) : G44_g0 k (j + (1 : Nat)) v =
  sel (decide (v.snd.fst = Int.ofNat v.fst.length)) (some (decide ((0 : Int) < v.snd.fst), ()))
  (sel (decide ((0 : Int) ≤ v.snd.fst))
    (sel (decide (v.snd.fst < Int.ofNat v.fst.length))
      (sel (decide (Int.ofNat (v.fst.getD v.snd.fst.toNat (0 : UInt8)).toNat < (48 : Int))) (some (false, ()))
        (sel (decide ((0 : Int) ≤ v.snd.fst))
          (sel (decide (v.snd.fst < Int.ofNat v.fst.length))
            (sel (decide ((57 : Int) < Int.ofNat (v.fst.getD v.snd.fst.toNat (0 : UInt8)).toNat))
              (some (false, ())) (G44_g0 k j (v.fst, Go.IntKind.i64.wrap (v.snd.fst + (1 : Int)), ())))
            none)
          none))
      none)
    none) := by kernel_rfl
noncomputable def G44 (k : Nat) (v : List UInt8 × Unit) : Option (Bool × Unit) := F44 k v
theorem G44_eq (k : Nat) (v : List UInt8 × Unit) : G44 k v =
  sel (decide ((0 : Int) = Int.ofNat v.fst.length)) (some (false, ()))
  (sel (decide ((0 : Int) < Int.ofNat v.fst.length))
    (sel (decide (Int.ofNat (v.fst.getD (Int.toNat (0 : Int)) (0 : UInt8)).toNat < (48 : Int)))
      (some (false, ()))
      (sel (decide ((0 : Int) < Int.ofNat v.fst.length))
        (sel (decide ((57 : Int) < Int.ofNat (v.fst.getD (Int.toNat (0 : Int)) (0 : UInt8)).toNat))
          (some (false, ()))
          (ocall (G44_g0 k k (v.fst, Go.IntKind.i64.wrap ((0 : Int) + (1 : Int)), ())) fun (e : Bool × Unit) =>
            some (e.fst, ())))
        none))
    none) := by kernel_rfl
noncomputable def G40_9 (k : Nat) (j : Nat) (v : Int × List Int × Int × Int × Unit) : Option
  (Int × Unit) := F40_9 k j v
theorem G40_9_eq (k : Nat) (j : Nat) (v : Int × List Int × Int × Int × Unit) : G40_9 k (j + (1 : Nat)) v =
  sel (decide (v.snd.snd.snd.fst < v.snd.snd.fst))
  (sel (decide ((0 : Int) ≤ v.snd.snd.snd.fst))
    (sel (decide (v.snd.snd.snd.fst < Int.ofNat v.snd.fst.length))
      (sel (decide (v.snd.snd.snd.fst.toNat < v.snd.fst.length))
        (G40_9 k j
          (Go.IntKind.u64.wrap
              (Go.IntKind.u64.wrap ((10 : Int) * v.fst) +
                Go.IntKind.u64.wrap
                  (Go.IntKind.u8.wrap (v.snd.fst.getD v.snd.snd.snd.fst.toNat (OfNat.ofNat (0 : Nat)) - (48 : Int)))),
            v.snd.fst, v.snd.snd.fst, Go.IntKind.i64.wrap (v.snd.snd.snd.fst + (1 : Int)), ()))
        none)
      none)
    none)
  (some (v.fst, ())) := by kernel_rfl
noncomputable def G40 (k : Nat) (v : List UInt8 × Unit) : Option (Int × Int × Unit) := F40 k v
theorem G40_eq (k : Nat) (v : List UInt8 × Unit) : G40 k v =
  sel (decide (v.fst = [])) (some ((0 : Int), (2 : Int), ()))
  (sel (decide ((19 : Int) < Int.ofNat v.fst.length)) (some ((0 : Int), (4 : Int), ()))
    (ocall (G44 k (v.fst, ())) fun (r : Bool × Unit) =>
      sel (!r.fst) (some ((0 : Int), (3 : Int), ()))
        (ocall (G40_9 k k ((0 : Int), toBytes v.fst, Int.ofNat (toBytes v.fst).length, (0 : Int), ()))
          fun (e : Int × Unit) => some (e.fst, (0 : Int), ())))) := by kernel_rfl
noncomputable def G77 (k : Nat) (v : List UInt8 × Bool × Unit) : Option (Int × Unit) := F77 k v
theorem G77_eq (k : Nat) (v : List UInt8 × Bool × Unit) : G77 k v =
  sel (decide (v.fst.length ≤ (9223372036854775807 : Nat)))
  (some ((Sum.sumOf (Sum.backs (toBytes v.fst)) v.snd.fst).fst, ())) none := by kernel_rfl
noncomputable def G42 (k : Nat) (v : List UInt8 × Unit) : Option (List UInt8 × Int × Unit) := F42 k v
theorem G42_eq (k : Nat) (v : List UInt8 × Unit) : G42 k v =
  ocall (G44 k (v.fst, ())) fun (r : Bool × Unit) =>
  sel (!r.fst) (some ([], (3 : Int), ()))
    (ocall (G77 k (v.fst, true, ())) fun (r : Int × Unit) =>
      ocall
        (G38 k
          (Go.IntKind.u64.wrap ((Go.IntKind.i64.wrap ((10 : Int) - r.fst.tmod (10 : Int))).tmod (10 : Int)), (1 : Int),
            ()))
        fun (r : List UInt8 × Int × Unit) => some (r.fst, r.snd.fst, ())) := by kernel_rfl
noncomputable def G46 (k : Nat) (v : List UInt8 × Unit) : Option (Bool × Unit) := F46 k v
theorem G46_eq (k : Nat) (v : List UInt8 × Unit) : G46 k v =
  ocall (G44 k (v.fst, ())) fun (r : Bool × Unit) =>
  sel r.fst
    (ocall (G77 k (v.fst, false, ())) fun (r : Int × Unit) =>
      some (decide (r.fst.tmod (10 : Int) = (0 : Int)), ()))
    (some (false, ())) := by kernel_rfl
noncomputable def G37 (k : Nat) (v : Unit) : Option (Bool × Unit) := F37 k v
theorem G37_eq (k : Nat) (v : Unit) : G37 k v =
  ocall (G38 k ((42 : Int), (5 : Int), ())) fun (r : List UInt8 × Int × Unit) =>
  ocall (G40 k ([(48 : UInt8), (48 : UInt8), (48 : UInt8), (52 : UInt8), (50 : UInt8)], ()))
    fun (r_1 : Int × Int × Unit) =>
    ocall
      (G42 k
        ([(55 : UInt8), (57 : UInt8), (57 : UInt8), (50 : UInt8), (55 : UInt8), (51 : UInt8), (57 : UInt8),
            (56 : UInt8), (55 : UInt8), (49 : UInt8)],
          ()))
      fun (r_2 : List UInt8 × Int × Unit) =>
      ocall (G38 k ((100 : Int), (2 : Int), ())) fun (r_3 : List UInt8 × Int × Unit) =>
        sel (decide (r.fst = [(48 : UInt8), (48 : UInt8), (48 : UInt8), (52 : UInt8), (50 : UInt8)]))
          (sel (decide (r.snd.fst = (0 : Int)))
            (sel (decide (r_1.fst = (42 : Int)))
              (sel (decide (r_1.snd.fst = (0 : Int)))
                (sel (decide (r_2.fst = [(51 : UInt8)]))
                  (sel (decide (r_2.snd.fst = (0 : Int)))
                    (sel (decide (r_3.snd.fst = (10 : Int)))
                      (ocall
                        (G46 k
                          ([(55 : UInt8), (57 : UInt8), (57 : UInt8), (50 : UInt8), (55 : UInt8), (51 : UInt8),
                              (57 : UInt8), (56 : UInt8), (55 : UInt8), (49 : UInt8), (51 : UInt8)],
                            ()))
                        fun (r : Bool × Unit) =>
                        sel r.fst
                          (ocall
                            (G46 k
                              ([(55 : UInt8), (57 : UInt8), (57 : UInt8), (50 : UInt8), (55 : UInt8), (51 : UInt8),
                                  (57 : UInt8), (56 : UInt8), (55 : UInt8), (49 : UInt8), (50 : UInt8)],
                                ()))
                            fun (r : Bool × Unit) =>
                            sel (!r.fst)
                              (ocall (G44 k ([(48 : UInt8)], ())) fun (r : Bool × Unit) =>
                                some (r.fst, ()))
                              (some (false, ())))
                          (some (false, ())))
                      (some (false, ())))
                    (some (false, ())))
                  (some (false, ())))
                (some (false, ())))
              (some (false, ())))
            (some (false, ())))
          (some (false, ())) := by kernel_rfl
noncomputable def G39_5 (k : Nat) (j : Nat) (v : Int × Int × List UInt8 × Int × Unit) : Option
  (Int × List UInt8 × Unit) := F39_5 k j v
theorem G39_5_eq (k : Nat) (j : Nat) (v : Int × Int × List UInt8 × Int × Unit) : G39_5 k (j + (1 : Nat)) v =
  sel (decide (v.snd.snd.snd.fst < v.snd.fst))
  (sel
    (decide
      ((ofBytes [Go.IntKind.u8.wrap (Go.IntKind.u64.wrap ((48 : Int) + v.fst.tmod (10 : Int)))]).length +
          v.snd.snd.fst.length ≤
        (140737488355328 : Nat)))
    (G39_5 k j
      (Go.IntKind.u64.wrap (v.fst.tdiv (10 : Int)), v.snd.fst,
        (ofBytes [Go.IntKind.u8.wrap (Go.IntKind.u64.wrap ((48 : Int) + v.fst.tmod (10 : Int)))]).append v.snd.snd.fst,
        Go.IntKind.i64.wrap (v.snd.snd.snd.fst + (1 : Int)), ()))
    none)
  (some (v.fst, v.snd.snd.fst, ())) := by kernel_rfl
noncomputable def G39 (k : Nat) (v : Int × Int × Unit) : Option (List UInt8 × Int × Unit) := F39 k v
theorem G39_eq (k : Nat) (v : Int × Int × Unit) : G39 k v =
  sel (decide (v.snd.fst < (1 : Int))) (some ([], (1 : Int), ()))
  (sel (decide ((19 : Int) < v.snd.fst)) (some ([], (1 : Int), ()))
    (ocall (G39_5 k k (v.fst, v.snd.fst, [], (0 : Int), ())) fun (e : Int × List UInt8 × Unit) =>
      sel (!decide (e.fst = (0 : Int))) (some ([], (10 : Int), ()))
        (some (e.snd.fst, (0 : Int), ())))) := by kernel_rfl
noncomputable def G45_2 (k : Nat) (j : Nat) (v : List UInt8 × Int × Unit) : Option
  (List UInt8 × Unit ⊕ Bool × Unit) := F45_2 k j v
theorem G45_2_eq (k : Nat) (j : Nat) (v : List UInt8 × Int × Unit) : G45_2 k (j + (1 : Nat)) v =
  sel (decide (v.snd.fst < Int.ofNat v.fst.length))
  (sel (decide ((0 : Int) ≤ v.snd.fst))
    (sel (decide (v.snd.fst < Int.ofNat v.fst.length))
      (sel (decide (Int.ofNat (v.fst.getD v.snd.fst.toNat (0 : UInt8)).toNat < (48 : Int)))
        (some (Sum.inr (false, ())))
        (sel (decide ((0 : Int) ≤ v.snd.fst))
          (sel (decide (v.snd.fst < Int.ofNat v.fst.length))
            (sel (decide ((57 : Int) < Int.ofNat (v.fst.getD v.snd.fst.toNat (0 : UInt8)).toNat))
              (some (Sum.inr (false, ())))
              (G45_2 k j (v.fst, Go.IntKind.i64.wrap (v.snd.fst + (1 : Int)), ())))
            none)
          none))
      none)
    none)
  (some (Sum.inl (v.fst, ()))) := by kernel_rfl
noncomputable def G45 (k : Nat) (v : List UInt8 × Unit) : Option (Bool × Unit) := F45 k v
theorem G45_eq (k : Nat) (v : List UInt8 × Unit) : G45 k v =
  ocall (G45_2 k k (v.fst, (0 : Int), ())) fun (e : List UInt8 × Unit ⊕ Bool × Unit) =>
  esel e (fun (v : List UInt8 × Unit) => some (decide ((0 : Int) < Int.ofNat v.fst.length), ()))
    fun (e : Bool × Unit) => some (e.fst, ()) := by kernel_rfl
noncomputable def G41_9 (k : Nat) (j : Nat) (v : List UInt8 × Int × Int × Unit) : Option (Int × Unit) := F41_9 k j v
theorem G41_9_eq (k : Nat) (j : Nat) (v : List UInt8 × Int × Int × Unit) : G41_9 k (j + (1 : Nat)) v =
  sel (decide (v.snd.snd.fst < Int.ofNat v.fst.length))
  (sel (decide ((0 : Int) ≤ v.snd.snd.fst))
    (sel (decide (v.snd.snd.fst < Int.ofNat v.fst.length))
      (G41_9 k j
        (v.fst,
          Go.IntKind.u64.wrap
            (Go.IntKind.u64.wrap
                (Go.IntKind.u64.wrap ((10 : Int) * v.snd.fst) +
                  Go.IntKind.u64.wrap (Int.ofNat (v.fst.getD v.snd.snd.fst.toNat (0 : UInt8)).toNat)) -
              (48 : Int)),
          Go.IntKind.i64.wrap (v.snd.snd.fst + (1 : Int)), ()))
      none)
    none)
  (some (v.snd.fst, ())) := by kernel_rfl
noncomputable def G41 (k : Nat) (v : List UInt8 × Unit) : Option (Int × Int × Unit) := F41 k v
theorem G41_eq (k : Nat) (v : List UInt8 × Unit) : G41 k v =
  sel (decide (Int.ofNat v.fst.length = (0 : Int))) (some ((0 : Int), (2 : Int), ()))
  (sel (decide ((19 : Int) < Int.ofNat v.fst.length)) (some ((0 : Int), (4 : Int), ()))
    (ocall (G45 k (v.fst, ())) fun (r : Bool × Unit) =>
      sel (!r.fst) (some ((0 : Int), (3 : Int), ()))
        (ocall (G41_9 k k (v.fst, (0 : Int), (0 : Int), ())) fun (e : Int × Unit) =>
          some (e.fst, (0 : Int), ())))) := by kernel_rfl
noncomputable def G47_5 (k : Nat) (j : Nat) (v : List UInt8 × Int × Int × Unit) : Option (Int × Unit) := F47_5 k j v
theorem G47_5_eq (k : Nat) (j : Nat) (v : List UInt8 × Int × Int × Unit) : G47_5 k (j + (1 : Nat)) v =
  sel (decide (v.snd.snd.fst < Int.ofNat v.fst.length))
  (sel (decide ((0 : Int) ≤ v.snd.snd.fst))
    (sel (decide (v.snd.snd.fst < Int.ofNat v.fst.length))
      (sel (decide ((Go.IntKind.i64.wrap (Int.ofNat v.fst.length - v.snd.snd.fst)).tmod (2 : Int) = (0 : Int)))
        (sel
          (decide
            ((9 : Int) <
              Go.IntKind.i64.wrap
                ((2 : Int) *
                  Go.IntKind.i64.wrap
                    (Go.IntKind.i64.wrap (Int.ofNat (v.fst.getD v.snd.snd.fst.toNat (0 : UInt8)).toNat) - (48 : Int)))))
          (G47_5 k j
            (v.fst,
              Go.IntKind.i64.wrap
                (v.snd.fst +
                  Go.IntKind.i64.wrap
                    (Go.IntKind.i64.wrap
                        ((2 : Int) *
                          Go.IntKind.i64.wrap
                            (Go.IntKind.i64.wrap (Int.ofNat (v.fst.getD v.snd.snd.fst.toNat (0 : UInt8)).toNat) -
                              (48 : Int))) -
                      (9 : Int))),
              Go.IntKind.i64.wrap (v.snd.snd.fst + (1 : Int)), ()))
          (G47_5 k j
            (v.fst,
              Go.IntKind.i64.wrap
                (v.snd.fst +
                  Go.IntKind.i64.wrap
                    ((2 : Int) *
                      Go.IntKind.i64.wrap
                        (Go.IntKind.i64.wrap (Int.ofNat (v.fst.getD v.snd.snd.fst.toNat (0 : UInt8)).toNat) -
                          (48 : Int)))),
              Go.IntKind.i64.wrap (v.snd.snd.fst + (1 : Int)), ())))
        (G47_5 k j
          (v.fst,
            Go.IntKind.i64.wrap
              (v.snd.fst +
                Go.IntKind.i64.wrap
                  (Go.IntKind.i64.wrap (Int.ofNat (v.fst.getD v.snd.snd.fst.toNat (0 : UInt8)).toNat) - (48 : Int))),
            Go.IntKind.i64.wrap (v.snd.snd.fst + (1 : Int)), ())))
      none)
    none)
  (some (v.snd.fst, ())) := by kernel_rfl
noncomputable def G47 (k : Nat) (v : List UInt8 × Unit) : Option (Bool × Unit) := F47 k v
theorem G47_eq (k : Nat) (v : List UInt8 × Unit) : G47 k v =
  ocall (G45 k (v.fst, ())) fun (r : Bool × Unit) =>
  sel (!r.fst) (some (false, ()))
    (ocall (G47_5 k k (v.fst, (0 : Int), (0 : Int), ())) fun (e : Int × Unit) =>
      some (decide (e.fst.tmod (10 : Int) = (0 : Int)), ())) := by kernel_rfl
noncomputable def G43_4 (k : Nat) (j : Nat) (v : List UInt8 × Int × Unit) : Option
  (Unit ⊕ List UInt8 × Int × Unit) := F43_4 k j v
theorem G43_4_eq (k : Nat) (j : Nat) (v : List UInt8 × Int × Unit) : G43_4 k (j + (1 : Nat)) v =
  sel (decide (v.snd.fst < (57 : Int)))
  (sel (decide (v.fst.length + (ofBytes [v.snd.fst]).length ≤ (140737488355328 : Nat)))
    (ocall (G47 k (v.fst.append (ofBytes [v.snd.fst]), ())) fun (r : Bool × Unit) =>
      sel r.fst (some (Sum.inr (ofBytes [v.snd.fst], (0 : Int), ())))
        (G43_4 k j (v.fst, Go.IntKind.u8.wrap (v.snd.fst + (1 : Int)), ())))
    none)
  (some (Sum.inl ())) := by kernel_rfl
noncomputable def G43 (k : Nat) (v : List UInt8 × Unit) : Option (List UInt8 × Int × Unit) := F43 k v
theorem G43_eq (k : Nat) (v : List UInt8 × Unit) : G43 k v =
  ocall (G45 k (v.fst, ())) fun (r : Bool × Unit) =>
  sel (!r.fst) (some ([], (3 : Int), ()))
    (ocall (G43_4 k k (v.fst, (48 : Int), ())) fun (e : Unit ⊕ List UInt8 × Int × Unit) =>
      esel e (fun (v : Unit) => some ([(57 : UInt8)], (0 : Int), ())) fun (e : List UInt8 × Int × Unit) =>
        some (e.fst, e.snd.fst, ())) := by kernel_rfl
noncomputable def G7 (k : Nat) (v : List UInt8 × Int × Int × Unit) : Option (Bool × Unit) := F7 k v
theorem G7_eq (k : Nat) (v : List UInt8 × Int × Int × Unit) : G7 k v =
  ocall (G37 k ()) fun (r : Bool × Unit) =>
  sel (!r.fst) (some (false, ()))
    (sel (decide ((3000 : Int) < Int.ofNat v.fst.length)) (some (true, ()))
      (ocall (G38 k (v.snd.fst, v.snd.snd.fst, ())) fun (r : List UInt8 × Int × Unit) =>
        ocall (G39 k (v.snd.fst, v.snd.snd.fst, ())) fun (r_1 : List UInt8 × Int × Unit) =>
          ocall (G40 k (v.fst, ())) fun (r_2 : Int × Int × Unit) =>
            ocall (G41 k (v.fst, ())) fun (r_3 : Int × Int × Unit) =>
              ocall (G42 k (v.fst, ())) fun (r_4 : List UInt8 × Int × Unit) =>
                ocall (G43 k (v.fst, ())) fun (r_5 : List UInt8 × Int × Unit) =>
                  sel (decide (r.fst = r_1.fst))
                    (sel (decide (r.snd.fst = r_1.snd.fst))
                      (sel (decide (r_2.fst = r_3.fst))
                        (sel (decide (r_2.snd.fst = r_3.snd.fst))
                          (sel (decide (r_4.fst = r_5.fst))
                            (sel (decide (r_4.snd.fst = r_5.snd.fst))
                              (ocall (G44 k (v.fst, ())) fun (r : Bool × Unit) =>
                                ocall (G45 k (v.fst, ())) fun (r_6 : Bool × Unit) =>
                                  sel (r.fst == r_6.fst)
                                    (ocall (G46 k (v.fst, ())) fun (r : Bool × Unit) =>
                                      ocall (G47 k (v.fst, ())) fun (r_7 : Bool × Unit) =>
                                        some (r.fst == r_7.fst, ()))
                                    (some (false, ())))
                              (some (false, ())))
                            (some (false, ())))
                          (some (false, ())))
                        (some (false, ())))
                      (some (false, ())))
                    (some (false, ())))) := by kernel_rfl
noncomputable def G8 (k : Nat) (v : Int × Int × Int × List UInt8 × Unit) : Option (Bool × Unit) := F8 k v
theorem G8_eq (k : Nat) (v : Int × Int × Int × List UInt8 × Unit) : G8 k v =
  ocall (G37 k ()) fun (r : Bool × Unit) =>
  sel (!r.fst) (some (false, ()))
    (ocall
      (G38 k (v.fst, Go.IntKind.i64.wrap ((Go.IntKind.i64.wrap v.snd.snd.fst).tmod (19 : Int) + (1 : Int)), ()))
      fun (r : List UInt8 × Int × Unit) =>
      ocall
        (G38 k
          (v.snd.fst, Go.IntKind.i64.wrap ((Go.IntKind.i64.wrap v.snd.snd.fst).tmod (19 : Int) + (1 : Int)),
            ()))
        fun (r_1 : List UInt8 × Int × Unit) =>
        sel (decide (r.snd.fst = (0 : Int)))
          (ocall (G40 k (r.fst, ())) fun (r_2 : Int × Int × Unit) =>
            sel (!decide (r_2.snd.fst = (0 : Int))) (some (false, ()))
              (sel (!decide (r_2.fst = v.fst)) (some (false, ()))
                (sel
                  (!decide
                      (Int.ofNat r.fst.length =
                        Go.IntKind.i64.wrap ((Go.IntKind.i64.wrap v.snd.snd.fst).tmod (19 : Int) + (1 : Int))))
                  (some (false, ()))
                  (ocall (G44 k (r.fst, ())) fun (r_3 : Bool × Unit) =>
                    sel (!r_3.fst) (some (false, ()))
                      (sel (decide (r_1.snd.fst = (0 : Int)))
                        (sel (!Go.Op.bytesLess r.fst r_1.fst == decide (v.fst < v.snd.fst)) (some (false, ()))
                          (ocall (G40 k (v.snd.snd.snd.fst, ())) fun (r : Int × Int × Unit) =>
                            sel (!decide (r.snd.fst = (0 : Int))) (some (decide (r.fst = (0 : Int)), ()))
                              (ocall (G38 k (r.fst, Int.ofNat v.snd.snd.snd.fst.length, ()))
                                fun (r : List UInt8 × Int × Unit) =>
                                sel (decide (r.snd.fst = (0 : Int)))
                                  (some (decide (r.fst = v.snd.snd.snd.fst), ())) (some (false, ())))))
                        (ocall (G40 k (v.snd.snd.snd.fst, ())) fun (r : Int × Int × Unit) =>
                          sel (!decide (r.snd.fst = (0 : Int))) (some (decide (r.fst = (0 : Int)), ()))
                            (ocall (G38 k (r.fst, Int.ofNat v.snd.snd.snd.fst.length, ()))
                              fun (r : List UInt8 × Int × Unit) =>
                              sel (decide (r.snd.fst = (0 : Int)))
                                (some (decide (r.fst = v.snd.snd.snd.fst), ()))
                                (some (false, ())))))))))
          (ocall (G40 k (v.snd.snd.snd.fst, ())) fun (r : Int × Int × Unit) =>
            sel (!decide (r.snd.fst = (0 : Int))) (some (decide (r.fst = (0 : Int)), ()))
              (ocall (G38 k (r.fst, Int.ofNat v.snd.snd.snd.fst.length, ()))
                fun (r : List UInt8 × Int × Unit) =>
                sel (decide (r.snd.fst = (0 : Int))) (some (decide (r.fst = v.snd.snd.snd.fst), ()))
                  (some (false, ()))))) := by kernel_rfl
noncomputable def G9 (k : Nat) (v : List UInt8 × Int × Int × Unit) : Option (Bool × Unit) := F9 k v
theorem G9_eq (k : Nat) (v : List UInt8 × Int × Int × Unit) : G9 k v =
  ocall (G37 k ()) fun (r : Bool × Unit) =>
  sel (!r.fst) (some (false, ()))
    (sel (decide ((3000 : Int) < Int.ofNat v.fst.length)) (some (true, ()))
      (ocall (G42 k (v.fst, ())) fun (r : List UInt8 × Int × Unit) =>
        sel (!decide (r.snd.fst = (0 : Int)))
          (ocall (G44 k (v.fst, ())) fun (r_1 : Bool × Unit) =>
            sel (!r_1.fst)
              (sel (decide (r.fst = []))
                (ocall (G46 k (v.fst, ())) fun (r : Bool × Unit) => some (!r.fst, ()))
                (some (false, ())))
              (some (false, ())))
          (sel (!decide (Int.ofNat r.fst.length = (1 : Int))) (some (false, ()))
            (ocall (G44 k (r.fst, ())) fun (r_1 : Bool × Unit) =>
              sel (!r_1.fst) (some (false, ()))
                (sel (decide (v.fst.length + r.fst.length ≤ (140737488355328 : Nat)))
                  (ocall (G46 k (v.fst.append r.fst, ())) fun (r_2 : Bool × Unit) =>
                    sel (!r_2.fst) (some (false, ()))
                      (sel (decide (v.fst.length + r.fst.length ≤ (140737488355328 : Nat)))
                        (sel (!decide (Int.ofNat (toBytes (v.fst.append r.fst)).length = (0 : Int)))
                          (sel
                            (decide
                              ((0 : Int) ≤
                                (Go.IntKind.i64.wrap v.snd.fst).tmod (Int.ofNat (toBytes (v.fst.append r.fst)).length)))
                            (sel
                              (decide
                                ((Go.IntKind.i64.wrap v.snd.fst).tmod
                                    (Int.ofNat (toBytes (v.fst.append r.fst)).length) <
                                  Int.ofNat (toBytes (v.fst.append r.fst)).length))
                              (sel
                                (decide
                                  (((Go.IntKind.i64.wrap v.snd.fst).tmod
                                        (Int.ofNat (toBytes (v.fst.append r.fst)).length)).toNat <
                                    (toBytes (v.fst.append r.fst)).length))
                                (sel
                                  (decide
                                    ((0 : Int) ≤
                                      (Go.IntKind.i64.wrap v.snd.fst).tmod
                                        (Int.ofNat (toBytes (v.fst.append r.fst)).length)))
                                  (sel
                                    (decide
                                      ((Go.IntKind.i64.wrap v.snd.fst).tmod
                                          (Int.ofNat (toBytes (v.fst.append r.fst)).length) <
                                        Int.ofNat (toBytes (v.fst.append r.fst)).length))
                                    (sel
                                      (decide
                                        (((Go.IntKind.i64.wrap v.snd.fst).tmod
                                              (Int.ofNat (toBytes (v.fst.append r.fst)).length)).toNat <
                                          (toBytes (v.fst.append r.fst)).length))
                                      (sel
                                        (decide
                                          ((0 : Int) ≤
                                            (Go.IntKind.i64.wrap v.snd.fst).tmod
                                              (Int.ofNat (toBytes (v.fst.append r.fst)).length)))
                                        (sel
                                          (decide
                                            ((Go.IntKind.i64.wrap v.snd.fst).tmod
                                                (Int.ofNat (toBytes (v.fst.append r.fst)).length) <
                                              Int.ofNat (toBytes (v.fst.append r.fst)).length))
                                          (sel
                                            (decide
                                              (((Go.IntKind.i64.wrap v.snd.fst).tmod
                                                    (Int.ofNat (toBytes (v.fst.append r.fst)).length)).toNat <
                                                (toBytes (v.fst.append r.fst)).length))
                                            (ocall
                                              (G46 k
                                                (ofBytes
                                                    ((toBytes (v.fst.append r.fst)).set
                                                      ((Go.IntKind.i64.wrap v.snd.fst).tmod
                                                          (Int.ofNat (toBytes (v.fst.append r.fst)).length)).toNat
                                                      (Go.IntKind.u8.wrap
                                                        ((Go.IntKind.u8.wrap
                                                                (Go.IntKind.u8.wrap
                                                                    ((toBytes (v.fst.append r.fst)).getD
                                                                        ((Go.IntKind.i64.wrap v.snd.fst).tmod
                                                                            (Int.ofNat
                                                                              (toBytes
                                                                                  (v.fst.append r.fst)).length)).toNat
                                                                        (OfNat.ofNat (0 : Nat)) -
                                                                      (48 : Int)) +
                                                                  v.snd.snd.fst.tmod (10 : Int))).tmod
                                                            (10 : Int) +
                                                          (48 : Int)))),
                                                  ()))
                                              fun (r_3 : Bool × Unit) =>
                                              some
                                                (r_3.fst ==
                                                    decide
                                                      (Go.IntKind.u8.wrap
                                                          ((Go.IntKind.u8.wrap
                                                                  (Go.IntKind.u8.wrap
                                                                      ((toBytes (v.fst.append r.fst)).getD
                                                                          ((Go.IntKind.i64.wrap v.snd.fst).tmod
                                                                              (Int.ofNat
                                                                                (toBytes
                                                                                    (v.fst.append r.fst)).length)).toNat
                                                                          (OfNat.ofNat (0 : Nat)) -
                                                                        (48 : Int)) +
                                                                    v.snd.snd.fst.tmod (10 : Int))).tmod
                                                              (10 : Int) +
                                                            (48 : Int)) =
                                                        (toBytes (v.fst.append r.fst)).getD
                                                          ((Go.IntKind.i64.wrap v.snd.fst).tmod
                                                              (Int.ofNat (toBytes (v.fst.append r.fst)).length)).toNat
                                                          (OfNat.ofNat (0 : Nat))),
                                                  ()))
                                            none)
                                          none)
                                        none)
                                      none)
                                    none)
                                  none)
                                none)
                              none)
                            none)
                          none)
                        none))
                  none))))) := by kernel_rfl
end Go.Proofs.Ythglkecbfakmpaa.G
