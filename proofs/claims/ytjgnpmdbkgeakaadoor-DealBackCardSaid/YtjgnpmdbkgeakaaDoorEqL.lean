/- What each function's run comes to, as a plain function. -/
import Derived.Test.YtjgnpmdbkgeakaaDoorEqK
import Derived.KernelRfl
set_option maxRecDepth 1000000
set_option linter.unusedVariables false
set_option linter.unusedSimpArgs false
namespace Go.Proofs.YtjgnpmdbkgeakaaDoor.G
open Go Go.Proofs.YtjgnpmdbkgeakaaDoor Th
noncomputable def G37 (k : Nat) (v : (Int × List UInt8 × Int × Int × List UInt8 × List UInt8 × Unit) × Unit) : Option
  ((List UInt8 × List (Int × List UInt8 × Unit) × Unit) × Int × Unit) := F37 k v
theorem G37_eq (k : Nat) (v : (Int × List UInt8 × Int × Int × List UInt8 × List UInt8 × Unit) × Unit) : G37 k v =
  ocall
  (G33 k
    ((v.fst.fst, v.fst.snd.fst, v.fst.snd.snd.fst, v.fst.snd.snd.snd.fst, v.fst.snd.snd.snd.snd.fst,
        v.fst.snd.snd.snd.snd.snd.fst, ()),
      ()))
  fun (r : Bool × Unit) =>
  sel (!r.fst) (some (([], [], ()), (1 : Int), ()))
    (ocall (G108 k (v.fst.fst, ())) fun (r : List UInt8 × Unit) =>
      ocall
        (G109 k
          ((v.fst.fst, v.fst.snd.fst, v.fst.snd.snd.fst, v.fst.snd.snd.snd.fst, v.fst.snd.snd.snd.snd.fst,
              v.fst.snd.snd.snd.snd.snd.fst, ()),
            ()))
        fun (r_1 : List (Int × List UInt8 × Unit) × Unit) =>
        some ((r.fst, r_1.fst, ()), (0 : Int), ())) := by kernel_rfl
noncomputable def G113_2 (k : Nat) (j : Nat) (v : List UInt8 × Int × Unit) : Option
  (Unit ⊕ Int × Unit) := F113_2 k j v
theorem G113_2_eq (k : Nat) (j : Nat) (v : List UInt8 × Int × Unit) : G113_2 k (j + (1 : Nat)) v =
  sel (decide (v.snd.fst ≤ (7 : Int)))
  (ocall (G108 k (v.snd.fst, ())) fun (r : List UInt8 × Unit) =>
    sel (decide (r.fst = v.fst)) (some (Sum.inr (v.snd.fst, ())))
      (G113_2 k j (v.fst, Go.IntKind.i64.wrap (v.snd.fst + (1 : Int)), ())))
  (some (Sum.inl ())) := by kernel_rfl
noncomputable def G113 (k : Nat) (v : List UInt8 × Unit) : Option (Int × Unit) := F113 k v
theorem G113_eq (k : Nat) (v : List UInt8 × Unit) : G113 k v =
  ocall (G113_2 k k (v.fst, (1 : Int), ())) fun (e : Unit ⊕ Int × Unit) =>
  esel e (fun (v : Unit) => some ((0 : Int), ())) fun (e : Int × Unit) =>
    some (e.fst, ()) := by kernel_rfl
noncomputable def G174 (k : Nat) (v : (Int × List UInt8 × Unit) × (Int × Unit) × Unit) : Option
  (Bool × Unit) := F174 k v
theorem G174_eq (k : Nat) (v : (Int × List UInt8 × Unit) × (Int × Unit) × Unit) : G174 k v =
  some (decide (v.fst.fst = v.snd.fst.fst), ()) := by kernel_rfl
noncomputable def G7000000_2 (k : Nat) (j : Nat) (v : List (Int × List UInt8 × Unit) × ((Int × Unit) × Unit) × Int × Int × Unit) : Option
  (Unit ⊕ Int × Unit) := F7000000_2 k j v
theorem G7000000_2_eq (k : Nat) (j : Nat) (v : List (Int × List UInt8 × Unit) × ((Int × Unit) × Unit) × Int × Int × Unit) : G7000000_2
  k (j + (1 : Nat)) v =
  sel (decide (v.snd.snd.snd.fst < v.snd.snd.fst))
  (sel (decide ((0 : Int) ≤ v.snd.snd.snd.fst))
    (sel (decide (v.snd.snd.snd.fst < Int.ofNat v.fst.length))
      (ocall
        (G174 k
          (((v.fst.getD v.snd.snd.snd.fst.toNat (OfNat.ofNat (0 : Nat), [], ())).fst,
              (v.fst.getD v.snd.snd.snd.fst.toNat (OfNat.ofNat (0 : Nat), [], ())).snd.fst, ()),
            v.snd.fst.fst, ()))
        fun (r : Bool × Unit) =>
        sel r.fst (some (Sum.inr (v.snd.snd.snd.fst, ())))
          (G7000000_2 k j
            (v.fst, v.snd.fst, v.snd.snd.fst, Go.IntKind.i64.wrap (v.snd.snd.snd.fst + (1 : Int)), ())))
      none)
    none)
  (some (Sum.inl ())) := by kernel_rfl
noncomputable def G7000000 (k : Nat) (v : List (Int × List UInt8 × Unit) × ((Int × Unit) × Unit) × Unit) : Option
  (Int × Unit) := F7000000 k v
theorem G7000000_eq (k : Nat) (v : List (Int × List UInt8 × Unit) × ((Int × Unit) × Unit) × Unit) : G7000000 k v =
  ocall (G7000000_2 k k (v.fst, v.snd.fst, Int.ofNat v.fst.length, (0 : Int), ()))
  fun (e : Unit ⊕ Int × Unit) =>
  esel e (fun (v : Unit) => some ((-1 : Int), ())) fun (e : Int × Unit) =>
    some (e.fst, ()) := by kernel_rfl
noncomputable def G115 (k : Nat) (v : (List UInt8 × List (Int × List UInt8 × Unit) × Unit) × Int × Unit) : Option
  (List UInt8 × Bool × Unit) := F115 k v
theorem G115_eq (k : Nat) (v : (List UInt8 × List (Int × List UInt8 × Unit) × Unit) × Int × Unit) : G115 k v =
  ocall (G7000000 k (v.fst.snd.fst, ((v.snd.fst, ()), ()), ())) fun (r : Int × Unit) =>
  sel (decide (r.fst < (0 : Int))) (some ([], false, ()))
    (sel (decide ((0 : Int) ≤ r.fst))
      (sel (decide (r.fst < Int.ofNat v.fst.snd.fst.length))
        (some ((v.fst.snd.fst.getD r.fst.toNat (OfNat.ofNat (0 : Nat), [], ())).snd.fst, true, ()))
        none)
      none) := by kernel_rfl
noncomputable def G114 (k : Nat) (v : (List UInt8 × List (Int × List UInt8 × Unit) × Unit) × Int × Unit) : Option
  (Int × Unit) := F114 k v
theorem G114_eq (k : Nat) (v : (List UInt8 × List (Int × List UInt8 × Unit) × Unit) × Int × Unit) : G114 k v =
  ocall (G115 k ((v.fst.fst, v.fst.snd.fst, ()), v.snd.fst, ())) fun (r : List UInt8 × Bool × Unit) =>
  ocall (G172 k (r.fst, ())) fun (r : Int × Int × Unit) => some (r.fst, ()) := by kernel_rfl
noncomputable def G116_5 (k : Nat) (j : Nat) (v : List (Int × List UInt8 × Unit) × Int × Int × List UInt8 × List (Int × List UInt8 × Unit) × Unit) : Option
  (Unit ⊕ Bool × Unit) := F116_5 k j v
theorem G116_5_eq (k : Nat) (j : Nat) (v : List (Int × List UInt8 × Unit) × Int × Int × List UInt8 × List (Int × List UInt8 × Unit) × Unit) : G116_5
  k (j + (1 : Nat)) v =
  sel (decide (v.snd.snd.fst < v.snd.fst))
  (sel (decide ((0 : Int) ≤ v.snd.snd.fst))
    (sel (decide (v.snd.snd.fst < Int.ofNat v.fst.length))
      (sel (decide (v.snd.snd.fst.toNat < v.fst.length))
        (sel (decide ((0 : Int) ≤ v.snd.snd.fst))
          (sel (decide (v.snd.snd.fst < Int.ofNat v.snd.snd.snd.snd.fst.length))
            (sel
              (!decide
                  ((v.snd.snd.snd.snd.fst.getD v.snd.snd.fst.toNat (OfNat.ofNat (0 : Nat), [], ())).fst =
                    (v.fst.getD v.snd.snd.fst.toNat (OfNat.ofNat (0 : Nat), [], ())).fst))
              (some (Sum.inr (false, ())))
              (G116_5 k j
                (v.fst, v.snd.fst, Go.IntKind.i64.wrap (v.snd.snd.fst + (1 : Int)), v.snd.snd.snd.fst,
                  v.snd.snd.snd.snd.fst, ())))
            none)
          none)
        none)
      none)
    none)
  (some (Sum.inl ())) := by kernel_rfl
noncomputable def G116 (k : Nat) (v : (List UInt8 × List (Int × List UInt8 × Unit) × Unit) ×
  (Int × List UInt8 × Int × Int × List UInt8 × List UInt8 × Unit) × Unit) : Option (Bool × Unit) := F116 k v
theorem G116_eq (k : Nat) (v : (List UInt8 × List (Int × List UInt8 × Unit) × Unit) ×
  (Int × List UInt8 × Int × Int × List UInt8 × List UInt8 × Unit) × Unit) : G116 k v =
  ocall
  (G109 k
    ((v.snd.fst.fst, v.snd.fst.snd.fst, v.snd.fst.snd.snd.fst, v.snd.fst.snd.snd.snd.fst, v.snd.fst.snd.snd.snd.snd.fst,
        v.snd.fst.snd.snd.snd.snd.snd.fst, ()),
      ()))
  fun (r : List (Int × List UInt8 × Unit) × Unit) =>
  sel (!decide (Int.ofNat r.fst.length = Int.ofNat v.fst.snd.fst.length)) (some (false, ()))
    (ocall (G116_5 k k (r.fst, Int.ofNat r.fst.length, (0 : Int), v.fst.fst, v.fst.snd.fst, ()))
      fun (e : Unit ⊕ Bool × Unit) =>
      esel e (fun (v : Unit) => some (true, ())) fun (e : Bool × Unit) =>
        some (e.fst, ())) := by kernel_rfl
noncomputable def G40 (k : Nat) (v : (List UInt8 × List (Int × List UInt8 × Unit) × Unit) × Unit) : Option
  ((Int × List UInt8 × Int × Int × List UInt8 × List UInt8 × Unit) × Int × Unit) := F40 k v
theorem G40_eq (k : Nat) (v : (List UInt8 × List (Int × List UInt8 × Unit) × Unit) × Unit) : G40 k v =
  ocall (G44 k ((v.fst.fst, v.fst.snd.fst, ()), ())) fun (r : Bool × Unit) =>
  sel (!r.fst) (some (((0 : Int), [], (0 : Int), (0 : Int), [], [], ()), (1 : Int), ()))
    (ocall (G113 k (v.fst.fst, ())) fun (r : Int × Unit) =>
      ocall (G114 k ((v.fst.fst, v.fst.snd.fst, ()), (11 : Int), ())) fun (r_1 : Int × Unit) =>
        ocall (G114 k ((v.fst.fst, v.fst.snd.fst, ()), (4 : Int), ())) fun (r_2 : Int × Unit) =>
          ocall (G115 k ((v.fst.fst, v.fst.snd.fst, ()), (2 : Int), ()))
            fun (r_3 : List UInt8 × Bool × Unit) =>
            ocall (G115 k ((v.fst.fst, v.fst.snd.fst, ()), (37 : Int), ()))
              fun (r_4 : List UInt8 × Bool × Unit) =>
              ocall (G115 k ((v.fst.fst, v.fst.snd.fst, ()), (39 : Int), ()))
                fun (r_5 : List UInt8 × Bool × Unit) =>
                ocall (G115 k ((v.fst.fst, v.fst.snd.fst, ()), (90 : Int), ()))
                  fun (r_6 : List UInt8 × Bool × Unit) =>
                  ocall
                    (G116 k
                      ((v.fst.fst, v.fst.snd.fst, ()),
                        (r.fst, r_3.fst, r_2.fst, Go.IntKind.u32.wrap r_1.fst, r_4.fst, r_5.fst, ()),
                        ()))
                    fun (r_7 : Bool × Unit) =>
                    sel (!r_7.fst)
                      (sel (!r_7.fst)
                        (some (((0 : Int), [], (0 : Int), (0 : Int), [], [], ()), (3 : Int), ()))
                        (sel (decide ((5 : Int) ≤ r.fst))
                          (ocall (G42 k (r.fst, ())) fun (r_8 : Bool × Unit) =>
                            sel r_8.fst
                              (ocall
                                (G109 k
                                  ((r.fst, r_3.fst, r_2.fst, Go.IntKind.u32.wrap r_1.fst, r_4.fst, r_5.fst, ()),
                                    ()))
                                fun (r_9 : List (Int × List UInt8 × Unit) × Unit) =>
                                sel (decide ((4 : Int) < Int.ofNat r_9.fst.length))
                                  (sel (decide (Int.toNat (4 : Int) < r_9.fst.length))
                                    (sel
                                      (!decide
                                          (r_6.fst =
                                            (r_9.fst.getD (Int.toNat (4 : Int))
                                                  (OfNat.ofNat (0 : Nat), [], ())).snd.fst))
                                      (some
                                        (((0 : Int), [], (0 : Int), (0 : Int), [], [], ()), (11 : Int),
                                          ()))
                                      (ocall (G117 k ((37 : Int), r_4.fst, ())) fun (r_10 : Bool × Unit) =>
                                        sel (!r_10.fst)
                                          (some
                                            (((0 : Int), [], (0 : Int), (0 : Int), [], [], ()), (3 : Int),
                                              ()))
                                          (some
                                            ((r.fst, r_3.fst, r_2.fst, Go.IntKind.u32.wrap r_1.fst, r_4.fst, r_5.fst,
                                                ()),
                                              (0 : Int), ()))))
                                    none)
                                  none)
                              (ocall (G117 k ((37 : Int), r_4.fst, ())) fun (r_9 : Bool × Unit) =>
                                sel (!r_9.fst)
                                  (some
                                    (((0 : Int), [], (0 : Int), (0 : Int), [], [], ()), (3 : Int), ()))
                                  (some
                                    ((r.fst, r_3.fst, r_2.fst, Go.IntKind.u32.wrap r_1.fst, r_4.fst, r_5.fst,
                                        ()),
                                      (0 : Int), ()))))
                          (ocall (G117 k ((37 : Int), r_4.fst, ())) fun (r_8 : Bool × Unit) =>
                            sel (!r_8.fst)
                              (some (((0 : Int), [], (0 : Int), (0 : Int), [], [], ()), (3 : Int), ()))
                              (some
                                ((r.fst, r_3.fst, r_2.fst, Go.IntKind.u32.wrap r_1.fst, r_4.fst, r_5.fst, ()),
                                  (0 : Int), ())))))
                      (ocall (G42 k (r.fst, ())) fun (r_8 : Bool × Unit) =>
                        sel r_8.fst
                          (ocall (G107 k (r_3.fst, ())) fun (r_9 : Bool × Unit) =>
                            sel (!r_9.fst)
                              (some (((0 : Int), [], (0 : Int), (0 : Int), [], [], ()), (3 : Int), ()))
                              (sel (decide ((5 : Int) ≤ r.fst))
                                (ocall (G42 k (r.fst, ())) fun (r_10 : Bool × Unit) =>
                                  sel r_10.fst
                                    (ocall
                                      (G109 k
                                        ((r.fst, r_3.fst, r_2.fst, Go.IntKind.u32.wrap r_1.fst, r_4.fst, r_5.fst,
                                            ()),
                                          ()))
                                      fun (r_11 : List (Int × List UInt8 × Unit) × Unit) =>
                                      sel (decide ((4 : Int) < Int.ofNat r_11.fst.length))
                                        (sel (decide (Int.toNat (4 : Int) < r_11.fst.length))
                                          (sel
                                            (!decide
                                                (r_6.fst =
                                                  (r_11.fst.getD (Int.toNat (4 : Int))
                                                        (OfNat.ofNat (0 : Nat), [], ())).snd.fst))
                                            (some
                                              (((0 : Int), [], (0 : Int), (0 : Int), [], [], ()), (11 : Int),
                                                ()))
                                            (ocall (G117 k ((37 : Int), r_4.fst, ()))
                                              fun (r_12 : Bool × Unit) =>
                                              sel (!r_12.fst)
                                                (some
                                                  (((0 : Int), [], (0 : Int), (0 : Int), [], [], ()), (3 : Int),
                                                    ()))
                                                (some
                                                  ((r.fst, r_3.fst, r_2.fst, Go.IntKind.u32.wrap r_1.fst, r_4.fst,
                                                      r_5.fst, ()),
                                                    (0 : Int), ()))))
                                          none)
                                        none)
                                    (ocall (G117 k ((37 : Int), r_4.fst, ())) fun (r_11 : Bool × Unit) =>
                                      sel (!r_11.fst)
                                        (some
                                          (((0 : Int), [], (0 : Int), (0 : Int), [], [], ()), (3 : Int),
                                            ()))
                                        (some
                                          ((r.fst, r_3.fst, r_2.fst, Go.IntKind.u32.wrap r_1.fst, r_4.fst, r_5.fst,
                                              ()),
                                            (0 : Int), ()))))
                                (ocall (G117 k ((37 : Int), r_4.fst, ())) fun (r_10 : Bool × Unit) =>
                                  sel (!r_10.fst)
                                    (some
                                      (((0 : Int), [], (0 : Int), (0 : Int), [], [], ()), (3 : Int),
                                        ()))
                                    (some
                                      ((r.fst, r_3.fst, r_2.fst, Go.IntKind.u32.wrap r_1.fst, r_4.fst, r_5.fst,
                                          ()),
                                        (0 : Int), ())))))
                          (sel (decide ((5 : Int) ≤ r.fst))
                            (ocall (G42 k (r.fst, ())) fun (r_9 : Bool × Unit) =>
                              sel r_9.fst
                                (ocall
                                  (G109 k
                                    ((r.fst, r_3.fst, r_2.fst, Go.IntKind.u32.wrap r_1.fst, r_4.fst, r_5.fst,
                                        ()),
                                      ()))
                                  fun (r_10 : List (Int × List UInt8 × Unit) × Unit) =>
                                  sel (decide ((4 : Int) < Int.ofNat r_10.fst.length))
                                    (sel (decide (Int.toNat (4 : Int) < r_10.fst.length))
                                      (sel
                                        (!decide
                                            (r_6.fst =
                                              (r_10.fst.getD (Int.toNat (4 : Int))
                                                    (OfNat.ofNat (0 : Nat), [], ())).snd.fst))
                                        (some
                                          (((0 : Int), [], (0 : Int), (0 : Int), [], [], ()), (11 : Int),
                                            ()))
                                        (ocall (G117 k ((37 : Int), r_4.fst, ())) fun (r_11 : Bool × Unit) =>
                                          sel (!r_11.fst)
                                            (some
                                              (((0 : Int), [], (0 : Int), (0 : Int), [], [], ()), (3 : Int),
                                                ()))
                                            (some
                                              ((r.fst, r_3.fst, r_2.fst, Go.IntKind.u32.wrap r_1.fst, r_4.fst, r_5.fst,
                                                  ()),
                                                (0 : Int), ()))))
                                      none)
                                    none)
                                (ocall (G117 k ((37 : Int), r_4.fst, ())) fun (r_10 : Bool × Unit) =>
                                  sel (!r_10.fst)
                                    (some
                                      (((0 : Int), [], (0 : Int), (0 : Int), [], [], ()), (3 : Int),
                                        ()))
                                    (some
                                      ((r.fst, r_3.fst, r_2.fst, Go.IntKind.u32.wrap r_1.fst, r_4.fst, r_5.fst,
                                          ()),
                                        (0 : Int), ()))))
                            (ocall (G117 k ((37 : Int), r_4.fst, ())) fun (r_9 : Bool × Unit) =>
                              sel (!r_9.fst)
                                (some
                                  (((0 : Int), [], (0 : Int), (0 : Int), [], [], ()), (3 : Int), ()))
                                (some
                                  ((r.fst, r_3.fst, r_2.fst, Go.IntKind.u32.wrap r_1.fst, r_4.fst, r_5.fst, ()),
                                    (0 : Int), ())))))) := by kernel_rfl
noncomputable def G34 (k : Nat) (v : Unit) : Option (Bool × Unit) := F34 k v
theorem G34_eq (k : Nat) (v : Unit) : G34 k v =
  ocall
  (G37 k
    (((5 : Int), [(49 : UInt8), (56 : UInt8)], (500 : Int), (7 : Int),
        [(97 : UInt8), (98 : UInt8), (99 : UInt8), (100 : UInt8), (101 : UInt8), (102 : UInt8), (103 : UInt8),
          (104 : UInt8), (105 : UInt8), (106 : UInt8), (107 : UInt8), (108 : UInt8)],
        [], ()),
      ()))
  fun (r : (List UInt8 × List (Int × List UInt8 × Unit) × Unit) × Int × Unit) =>
  ocall (G40 k ((r.fst.fst, r.fst.snd.fst, ()), ()))
    fun (r_1 : (Int × List UInt8 × Int × Int × List UInt8 × List UInt8 × Unit) × Int × Unit) =>
    ocall
      (G37 k
        (((1 : Int), [(49 : UInt8), (57 : UInt8)], (0 : Int), (0 : Int),
            [(97 : UInt8), (98 : UInt8), (99 : UInt8), (100 : UInt8), (101 : UInt8), (102 : UInt8), (103 : UInt8),
              (104 : UInt8), (105 : UInt8), (106 : UInt8), (107 : UInt8), (108 : UInt8)],
            [], ()),
          ()))
      fun (r_2 : (List UInt8 × List (Int × List UInt8 × Unit) × Unit) × Int × Unit) =>
      sel (decide (r.snd.fst = (0 : Int)))
        (sel (decide (r_1.snd.fst = (0 : Int)))
          (sel (decide (r_2.snd.fst = (1 : Int)))
            (sel (decide (r.fst.fst = [(48 : UInt8), (52 : UInt8), (50 : UInt8), (48 : UInt8)]))
              (sel (decide (Int.ofNat r.fst.snd.fst.length = (5 : Int)))
                (sel (decide ((1 : Int) < Int.ofNat r.fst.snd.fst.length))
                  (sel
                    (decide
                      ((r.fst.snd.fst.getD (Int.toNat (1 : Int)) (OfNat.ofNat (0 : Nat), [], ())).snd.fst =
                        [(48 : UInt8), (48 : UInt8), (48 : UInt8), (48 : UInt8), (48 : UInt8), (48 : UInt8),
                          (48 : UInt8), (48 : UInt8), (48 : UInt8), (53 : UInt8), (48 : UInt8), (48 : UInt8)]))
                    (sel
                      (sameI r_1.fst.fst (OfNat.ofNat (5 : Nat)) &&
                        (sameS r_1.fst.snd.fst [(49 : UInt8), (56 : UInt8)] &&
                          (sameI r_1.fst.snd.snd.fst (OfNat.ofNat (500 : Nat)) &&
                            (sameI r_1.fst.snd.snd.snd.fst (OfNat.ofNat (7 : Nat)) &&
                              (sameS r_1.fst.snd.snd.snd.snd.fst
                                  [(97 : UInt8), (98 : UInt8), (99 : UInt8), (100 : UInt8), (101 : UInt8),
                                    (102 : UInt8), (103 : UInt8), (104 : UInt8), (105 : UInt8), (106 : UInt8),
                                    (107 : UInt8), (108 : UInt8)] &&
                                (sameS r_1.fst.snd.snd.snd.snd.snd.fst [] && true))))))
                      (ocall
                        (G33 k
                          (((5 : Int), [(49 : UInt8), (56 : UInt8)], (500 : Int), (7 : Int),
                              [(97 : UInt8), (98 : UInt8), (99 : UInt8), (100 : UInt8), (101 : UInt8), (102 : UInt8),
                                (103 : UInt8), (104 : UInt8), (105 : UInt8), (106 : UInt8), (107 : UInt8),
                                (108 : UInt8)],
                              [], ()),
                            ()))
                        fun (r : Bool × Unit) =>
                        sel r.fst
                          (ocall (G42 k ((3 : Int), ())) fun (r : Bool × Unit) =>
                            sel r.fst
                              (ocall (G42 k ((7 : Int), ())) fun (r : Bool × Unit) =>
                                some (!r.fst, ()))
                              (some (false, ())))
                          (some (false, ())))
                      (some (false, ())))
                    (some (false, ())))
                  none)
                (some (false, ())))
              (some (false, ())))
            (some (false, ())))
          (some (false, ())))
        (some (false, ())) := by kernel_rfl
noncomputable def G35_2 (k : Nat) (j : Nat) (v : Int × List UInt8 × List (Int × List UInt8 × Unit) × Unit) : Option
  (List UInt8 × List (Int × List UInt8 × Unit) × Unit ⊕ Bool × Unit) := F35_2 k j v
theorem G35_2_eq (k : Nat) (j : Nat) (v : Int × List UInt8 × List (Int × List UInt8 × Unit) × Unit) : G35_2 k
  (j + (1 : Nat)) v =
  sel (decide (v.fst < Int.ofNat v.snd.snd.fst.length))
  (sel (decide (v.fst < (200 : Int)))
    (sel (decide ((0 : Int) ≤ v.fst))
      (sel (decide (v.fst < Int.ofNat v.snd.snd.fst.length))
        (sel
          (decide
            ((1200 : Int) <
              Int.ofNat (List.length (v.snd.snd.fst.getD v.fst.toNat (OfNat.ofNat (0 : Nat), [], ())).snd.fst)))
          (some (Sum.inr (false, ())))
          (G35_2 k j (Go.IntKind.i64.wrap (v.fst + (1 : Int)), v.snd.fst, v.snd.snd.fst, ())))
        none)
      none)
    (some (Sum.inl (v.snd.fst, v.snd.snd.fst, ()))))
  (some (Sum.inl (v.snd.fst, v.snd.snd.fst, ()))) := by kernel_rfl
noncomputable def G35 (k : Nat) (v : (List UInt8 × List (Int × List UInt8 × Unit) × Unit) × Unit) : Option
  (Bool × Unit) := F35 k v
theorem G35_eq (k : Nat) (v : (List UInt8 × List (Int × List UInt8 × Unit) × Unit) × Unit) : G35 k v =
  ocall (G35_2 k k ((0 : Int), v.fst.fst, v.fst.snd.fst, ()))
  fun (e : List UInt8 × List (Int × List UInt8 × Unit) × Unit ⊕ Bool × Unit) =>
  esel e
    (fun (v : List UInt8 × List (Int × List UInt8 × Unit) × Unit) =>
      sel (decide (Int.ofNat v.fst.length ≤ (300 : Int)))
        (some (decide (Int.ofNat v.snd.fst.length ≤ (200 : Int)), ())) (some (false, ())))
    fun (e : Bool × Unit) => some (e.fst, ()) := by kernel_rfl
noncomputable def G43 (k : Nat) (v : Int × Unit) : Option (Bool × Unit) := F43 k v
theorem G43_eq (k : Nat) (v : Int × Unit) : G43 k v =
  sel (decide (v.fst = (1 : Int))) (some (true, ()))
  (sel (decide (v.fst = (3 : Int))) (some (true, ()))
    (sel (decide (v.fst = (5 : Int))) (some (true, ()))
      (some (decide (v.fst = (6 : Int)), ())))) := by kernel_rfl
noncomputable def G110_5 (k : Nat) (j : Nat) (v : List UInt8 × Int × Int × Unit) : Option
  (Int × Unit) := F110_5 k j v
theorem G110_5_eq (k : Nat) (j : Nat) (v : List UInt8 × Int × Int × Unit) : G110_5 k (j + (1 : Nat)) v =
  sel (decide (v.snd.snd.fst < Int.ofNat v.fst.length))
  (sel (decide ((0 : Int) ≤ v.snd.snd.fst))
    (sel (decide (v.snd.snd.fst < Int.ofNat v.fst.length))
      (sel (decide ((Go.IntKind.i64.wrap (Int.ofNat v.fst.length - v.snd.snd.fst)).tmod (2 : Int) = (0 : Int)))
        (sel
          (decide
            ((9 : Int) <
              Go.IntKind.i64.wrap
                ((2 : Int) *
                  Go.IntKind.i64.wrap
                    (Go.IntKind.i64.wrap (Int.ofNat (v.fst.getD v.snd.snd.fst.toNat (0 : UInt8)).toNat) - (48 : Int)))))
          (G110_5 k j
            (v.fst,
              Go.IntKind.i64.wrap
                (v.snd.fst +
                  Go.IntKind.i64.wrap
                    (Go.IntKind.i64.wrap
                        ((2 : Int) *
                          Go.IntKind.i64.wrap
                            (Go.IntKind.i64.wrap (Int.ofNat (v.fst.getD v.snd.snd.fst.toNat (0 : UInt8)).toNat) -
                              (48 : Int))) -
                      (9 : Int))),
              Go.IntKind.i64.wrap (v.snd.snd.fst + (1 : Int)), ()))
          (G110_5 k j
            (v.fst,
              Go.IntKind.i64.wrap
                (v.snd.fst +
                  Go.IntKind.i64.wrap
                    ((2 : Int) *
                      Go.IntKind.i64.wrap
                        (Go.IntKind.i64.wrap (Int.ofNat (v.fst.getD v.snd.snd.fst.toNat (0 : UInt8)).toNat) -
                          (48 : Int)))),
              Go.IntKind.i64.wrap (v.snd.snd.fst + (1 : Int)), ())))
        (G110_5 k j
          (v.fst,
            Go.IntKind.i64.wrap
              (v.snd.fst +
                Go.IntKind.i64.wrap
                  (Go.IntKind.i64.wrap (Int.ofNat (v.fst.getD v.snd.snd.fst.toNat (0 : UInt8)).toNat) - (48 : Int))),
            Go.IntKind.i64.wrap (v.snd.snd.fst + (1 : Int)), ())))
      none)
    none)
  (some (v.snd.fst, ())) := by kernel_rfl
noncomputable def G110 (k : Nat) (v : List UInt8 × Unit) : Option (Bool × Unit) := F110 k v
theorem G110_eq (k : Nat) (v : List UInt8 × Unit) : G110 k v =
  ocall (G171 k (v.fst, ())) fun (r : Bool × Unit) =>
  sel (!r.fst) (some (false, ()))
    (ocall (G110_5 k k (v.fst, (0 : Int), (0 : Int), ())) fun (e : Int × Unit) =>
      some (decide (e.fst.tmod (10 : Int) = (0 : Int)), ())) := by kernel_rfl
noncomputable def G36 (k : Nat) (v : (Int × List UInt8 × Int × Int × List UInt8 × List UInt8 × Unit) × Unit) : Option
  (Bool × Unit) := F36 k v
theorem G36_eq (k : Nat) (v : (Int × List UInt8 × Int × Int × List UInt8 × List UInt8 × Unit) × Unit) : G36 k v =
  sel (decide (v.fst.fst < (1 : Int))) (some (false, ()))
  (sel (decide ((7 : Int) < v.fst.fst)) (some (false, ()))
    (sel (decide ((999999 : Int) < v.fst.snd.snd.snd.fst)) (some (false, ()))
      (ocall (G101 k ((37 : Int), v.fst.snd.snd.snd.snd.fst, ())) fun (r : Bool × Unit) =>
        sel (!r.fst) (some (false, ()))
          (ocall (G43 k (v.fst.fst, ())) fun (r : Bool × Unit) =>
            sel r.fst
              (ocall (G110 k (v.fst.snd.fst, ())) fun (r : Bool × Unit) =>
                sel r.fst
                  (sel (decide (Int.ofNat v.fst.snd.fst.length < (20 : Int)))
                    (sel (decide (v.fst.snd.snd.fst < (1000000000000 : Int)))
                      (some (decide (v.fst.snd.snd.snd.snd.snd.fst = []), ())) (some (false, ())))
                    (some (false, ())))
                  (some (false, ())))
              (ocall (G101 k ((39 : Int), v.fst.snd.snd.snd.snd.snd.fst, ())) fun (r : Bool × Unit) =>
                sel r.fst
                  (sel (decide (v.fst.snd.fst = [])) (some (decide (v.fst.snd.snd.fst = (0 : Int)), ()))
                    (some (false, ())))
                  (some (false, ()))))))) := by kernel_rfl
noncomputable def G111 (k : Nat) (v : Unit) : Option (List (List UInt8) × Unit) := F111 k v
theorem G111_eq (k : Nat) (v : Unit) : G111 k v =
  some
  ([[(48 : UInt8), (49 : UInt8), (48 : UInt8), (48 : UInt8)], [(48 : UInt8), (49 : UInt8), (49 : UInt8), (48 : UInt8)],
      [(48 : UInt8), (52 : UInt8), (48 : UInt8), (48 : UInt8)],
      [(48 : UInt8), (52 : UInt8), (49 : UInt8), (48 : UInt8)],
      [(48 : UInt8), (52 : UInt8), (50 : UInt8), (48 : UInt8)],
      [(48 : UInt8), (52 : UInt8), (50 : UInt8), (49 : UInt8)],
      [(48 : UInt8), (52 : UInt8), (51 : UInt8), (48 : UInt8)]],
    ()) := by kernel_rfl
noncomputable def G112 (k : Nat) (v : List UInt8 × Unit) : Option (List UInt8 × Unit) := F112 k v
theorem G112_eq (k : Nat) (v : List UInt8 × Unit) : G112 k v =
  sel (decide ((4 : Nat) + v.fst.length ≤ (140737488355328 : Nat)))
  (sel
    (decide
      (((48 : UInt8) :: (49 : UInt8) :: (48 : UInt8) :: (48 : UInt8) :: v.fst).length + (32 : Nat) ≤
        (140737488355328 : Nat)))
    (some
      ((48 : UInt8) :: (49 : UInt8) :: (48 : UInt8) :: (48 : UInt8) :: v.fst ++
          [(48 : UInt8), (48 : UInt8), (48 : UInt8), (48 : UInt8), (48 : UInt8), (48 : UInt8), (48 : UInt8),
            (48 : UInt8), (48 : UInt8), (48 : UInt8), (48 : UInt8), (48 : UInt8), (48 : UInt8), (48 : UInt8),
            (48 : UInt8), (48 : UInt8), (48 : UInt8), (48 : UInt8), (48 : UInt8), (48 : UInt8), (48 : UInt8),
            (48 : UInt8), (48 : UInt8), (48 : UInt8), (48 : UInt8), (48 : UInt8), (48 : UInt8), (48 : UInt8),
            (48 : UInt8), (48 : UInt8), (48 : UInt8), (48 : UInt8)],
        ()))
    none)
  none := by kernel_rfl
noncomputable def G39 (k : Nat) (v : (Int × List UInt8 × Int × Int × List UInt8 × List UInt8 × Unit) × Unit) : Option
  ((List UInt8 × List (Int × List UInt8 × Unit) × Unit) × Unit) := F39 k v
theorem G39_eq (k : Nat) (v : (Int × List UInt8 × Int × Int × List UInt8 × List UInt8 × Unit) × Unit) : G39 k v =
  ocall (G111 k ()) fun (r : List (List UInt8) × Unit) =>
  sel (decide ((0 : Int) ≤ Go.IntKind.i64.wrap (v.fst.fst - (1 : Int))))
    (sel (decide (Go.IntKind.i64.wrap (v.fst.fst - (1 : Int)) < Int.ofNat r.fst.length))
      (sel (decide ((Go.IntKind.i64.wrap (v.fst.fst - (1 : Int))).toNat < r.fst.length))
        (ocall (G43 k (v.fst.fst, ())) fun (r_1 : Bool × Unit) =>
          sel r_1.fst
            (ocall (G106 k (v.fst.snd.snd.fst, (12 : Int), ())) fun (r_2 : List UInt8 × Unit) =>
              ocall (G106 k (Go.IntKind.u64.wrap v.fst.snd.snd.snd.fst, (6 : Int), ()))
                fun (r_3 : List UInt8 × Unit) =>
                ocall (G43 k (v.fst.fst, ())) fun (r_4 : Bool × Unit) =>
                  sel (!r_4.fst)
                    (sel (decide (v.fst.fst = (5 : Int)))
                      (ocall (G112 k (r_3.fst, ())) fun (r_5 : List UInt8 × Unit) =>
                        some
                          ((r.fst.getD (Go.IntKind.i64.wrap (v.fst.fst - (1 : Int))).toNat [],
                              [((2 : Int), v.fst.snd.fst, ()), ((4 : Int), r_2.fst, ()),
                                ((11 : Int), r_3.fst, ()), ((37 : Int), v.fst.snd.snd.snd.snd.fst, ()),
                                ((39 : Int), v.fst.snd.snd.snd.snd.snd.fst, ()),
                                ((90 : Int), r_5.fst, ())],
                              ()),
                            ()))
                      (sel (decide (v.fst.fst = (6 : Int)))
                        (ocall (G112 k (r_3.fst, ())) fun (r_5 : List UInt8 × Unit) =>
                          some
                            ((r.fst.getD (Go.IntKind.i64.wrap (v.fst.fst - (1 : Int))).toNat [],
                                [((2 : Int), v.fst.snd.fst, ()), ((4 : Int), r_2.fst, ()),
                                  ((11 : Int), r_3.fst, ()),
                                  ((37 : Int), v.fst.snd.snd.snd.snd.fst, ()),
                                  ((39 : Int), v.fst.snd.snd.snd.snd.snd.fst, ()),
                                  ((90 : Int), r_5.fst, ())],
                                ()),
                              ()))
                        (some
                          ((r.fst.getD (Go.IntKind.i64.wrap (v.fst.fst - (1 : Int))).toNat [],
                              [((2 : Int), v.fst.snd.fst, ()), ((4 : Int), r_2.fst, ()),
                                ((11 : Int), r_3.fst, ()), ((37 : Int), v.fst.snd.snd.snd.snd.fst, ()),
                                ((39 : Int), v.fst.snd.snd.snd.snd.snd.fst, ())],
                              ()),
                            ()))))
                    (sel (decide (v.fst.fst = (5 : Int)))
                      (ocall (G112 k (r_3.fst, ())) fun (r_5 : List UInt8 × Unit) =>
                        some
                          ((r.fst.getD (Go.IntKind.i64.wrap (v.fst.fst - (1 : Int))).toNat [],
                              [((2 : Int), v.fst.snd.fst, ()), ((4 : Int), r_2.fst, ()),
                                ((11 : Int), r_3.fst, ()), ((37 : Int), v.fst.snd.snd.snd.snd.fst, ()),
                                ((90 : Int), r_5.fst, ())],
                              ()),
                            ()))
                      (sel (decide (v.fst.fst = (6 : Int)))
                        (ocall (G112 k (r_3.fst, ())) fun (r_5 : List UInt8 × Unit) =>
                          some
                            ((r.fst.getD (Go.IntKind.i64.wrap (v.fst.fst - (1 : Int))).toNat [],
                                [((2 : Int), v.fst.snd.fst, ()), ((4 : Int), r_2.fst, ()),
                                  ((11 : Int), r_3.fst, ()),
                                  ((37 : Int), v.fst.snd.snd.snd.snd.fst, ()),
                                  ((90 : Int), r_5.fst, ())],
                                ()),
                              ()))
                        (some
                          ((r.fst.getD (Go.IntKind.i64.wrap (v.fst.fst - (1 : Int))).toNat [],
                              [((2 : Int), v.fst.snd.fst, ()), ((4 : Int), r_2.fst, ()),
                                ((11 : Int), r_3.fst, ()), ((37 : Int), v.fst.snd.snd.snd.snd.fst, ())],
                              ()),
                            ())))))
            (ocall (G106 k (Go.IntKind.u64.wrap v.fst.snd.snd.snd.fst, (6 : Int), ()))
              fun (r_2 : List UInt8 × Unit) =>
              ocall (G43 k (v.fst.fst, ())) fun (r_3 : Bool × Unit) =>
                sel (!r_3.fst)
                  (sel (decide (v.fst.fst = (5 : Int)))
                    (ocall (G112 k (r_2.fst, ())) fun (r_4 : List UInt8 × Unit) =>
                      some
                        ((r.fst.getD (Go.IntKind.i64.wrap (v.fst.fst - (1 : Int))).toNat [],
                            [((11 : Int), r_2.fst, ()), ((37 : Int), v.fst.snd.snd.snd.snd.fst, ()),
                              ((39 : Int), v.fst.snd.snd.snd.snd.snd.fst, ()),
                              ((90 : Int), r_4.fst, ())],
                            ()),
                          ()))
                    (sel (decide (v.fst.fst = (6 : Int)))
                      (ocall (G112 k (r_2.fst, ())) fun (r_4 : List UInt8 × Unit) =>
                        some
                          ((r.fst.getD (Go.IntKind.i64.wrap (v.fst.fst - (1 : Int))).toNat [],
                              [((11 : Int), r_2.fst, ()), ((37 : Int), v.fst.snd.snd.snd.snd.fst, ()),
                                ((39 : Int), v.fst.snd.snd.snd.snd.snd.fst, ()),
                                ((90 : Int), r_4.fst, ())],
                              ()),
                            ()))
                      (some
                        ((r.fst.getD (Go.IntKind.i64.wrap (v.fst.fst - (1 : Int))).toNat [],
                            [((11 : Int), r_2.fst, ()), ((37 : Int), v.fst.snd.snd.snd.snd.fst, ()),
                              ((39 : Int), v.fst.snd.snd.snd.snd.snd.fst, ())],
                            ()),
                          ()))))
                  (sel (decide (v.fst.fst = (5 : Int)))
                    (ocall (G112 k (r_2.fst, ())) fun (r_4 : List UInt8 × Unit) =>
                      some
                        ((r.fst.getD (Go.IntKind.i64.wrap (v.fst.fst - (1 : Int))).toNat [],
                            [((11 : Int), r_2.fst, ()), ((37 : Int), v.fst.snd.snd.snd.snd.fst, ()),
                              ((90 : Int), r_4.fst, ())],
                            ()),
                          ()))
                    (sel (decide (v.fst.fst = (6 : Int)))
                      (ocall (G112 k (r_2.fst, ())) fun (r_4 : List UInt8 × Unit) =>
                        some
                          ((r.fst.getD (Go.IntKind.i64.wrap (v.fst.fst - (1 : Int))).toNat [],
                              [((11 : Int), r_2.fst, ()), ((37 : Int), v.fst.snd.snd.snd.snd.fst, ()),
                                ((90 : Int), r_4.fst, ())],
                              ()),
                            ()))
                      (some
                        ((r.fst.getD (Go.IntKind.i64.wrap (v.fst.fst - (1 : Int))).toNat [],
                            [((11 : Int), r_2.fst, ()), ((37 : Int), v.fst.snd.snd.snd.snd.fst, ())],
                            ()),
                          ()))))))
        none)
      none)
    none := by kernel_rfl
noncomputable def G38_4 (k : Nat) (j : Nat) (v : Int × List UInt8 × List (Int × List UInt8 × Unit) × List UInt8 × List (Int × List UInt8 × Unit) × Unit) : Option
  (Unit ⊕ Bool × Unit) := F38_4 k j v
theorem G38_4_eq (k : Nat) (j : Nat) (v : Int × List UInt8 × List (Int × List UInt8 × Unit) × List UInt8 × List (Int × List UInt8 × Unit) × Unit) : G38_4
  k (j + (1 : Nat)) v =
  sel (decide (v.fst < Int.ofNat v.snd.snd.fst.length))
  (sel (decide ((0 : Int) ≤ v.fst))
    (sel (decide (v.fst < Int.ofNat v.snd.snd.fst.length))
      (sel (decide ((0 : Int) ≤ v.fst))
        (sel (decide (v.fst < Int.ofNat v.snd.snd.snd.snd.fst.length))
          (sel
            (!(sameI (v.snd.snd.fst.getD v.fst.toNat (OfNat.ofNat (0 : Nat), [], ())).fst
                  (v.snd.snd.snd.snd.fst.getD v.fst.toNat (OfNat.ofNat (0 : Nat), [], ())).fst &&
                (sameS (v.snd.snd.fst.getD v.fst.toNat (OfNat.ofNat (0 : Nat), [], ())).snd.fst
                    (v.snd.snd.snd.snd.fst.getD v.fst.toNat (OfNat.ofNat (0 : Nat), [], ())).snd.fst &&
                  true)))
            (some (Sum.inr (false, ())))
            (G38_4 k j
              (Go.IntKind.i64.wrap (v.fst + (1 : Int)), v.snd.fst, v.snd.snd.fst, v.snd.snd.snd.fst,
                v.snd.snd.snd.snd.fst, ())))
          none)
        none)
      none)
    none)
  (some (Sum.inl ())) := by kernel_rfl
noncomputable def G38 (k : Nat) (v : (List UInt8 × List (Int × List UInt8 × Unit) × Unit) × (List UInt8 × List (Int × List UInt8 × Unit) × Unit) × Unit) : Option
  (Bool × Unit) := F38 k v
theorem G38_eq (k : Nat) (v : (List UInt8 × List (Int × List UInt8 × Unit) × Unit) × (List UInt8 × List (Int × List UInt8 × Unit) × Unit) × Unit) : G38
  k v =
  sel (!decide (v.fst.fst = v.snd.fst.fst)) (some (false, ()))
  (sel (!decide (Int.ofNat v.fst.snd.fst.length = Int.ofNat v.snd.fst.snd.fst.length)) (some (false, ()))
    (ocall (G38_4 k k ((0 : Int), v.fst.fst, v.fst.snd.fst, v.snd.fst.fst, v.snd.fst.snd.fst, ()))
      fun (e : Unit ⊕ Bool × Unit) =>
      esel e (fun (v : Unit) => some (true, ())) fun (e : Bool × Unit) =>
        some (e.fst, ()))) := by kernel_rfl
noncomputable def G178_3 (k : Nat) (j : Nat) (v : List UInt8 × List (List UInt8) × Int × Unit) : Option
  (Unit ⊕ Bool × Unit) := F178_3 k j v
theorem G178_3_eq (k : Nat) (j : Nat) (v : List UInt8 × List (List UInt8) × Int × Unit) : G178_3 k (j + (1 : Nat)) v =
  sel (decide (v.snd.snd.fst < Int.ofNat v.snd.fst.length))
  (sel (decide ((0 : Int) ≤ v.snd.snd.fst))
    (sel (decide (v.snd.snd.fst < Int.ofNat v.snd.fst.length))
      (sel (decide (v.snd.snd.fst.toNat < v.snd.fst.length))
        (sel (decide (v.snd.fst.getD v.snd.snd.fst.toNat [] = v.fst)) (some (Sum.inr (true, ())))
          (G178_3 k j (v.fst, v.snd.fst, Go.IntKind.i64.wrap (v.snd.snd.fst + (1 : Int)), ())))
        none)
      none)
    none)
  (some (Sum.inl ())) := by kernel_rfl
noncomputable def G178 (k : Nat) (v : List UInt8 × Unit) : Option (Bool × Unit) := F178 k v
theorem G178_eq (k : Nat) (v : List UInt8 × Unit) : G178 k v =
  ocall
  (G178_3 k k
    (v.fst,
      [[(48 : UInt8), (49 : UInt8), (48 : UInt8), (48 : UInt8)],
        [(48 : UInt8), (49 : UInt8), (49 : UInt8), (48 : UInt8)],
        [(48 : UInt8), (52 : UInt8), (48 : UInt8), (48 : UInt8)],
        [(48 : UInt8), (52 : UInt8), (49 : UInt8), (48 : UInt8)],
        [(48 : UInt8), (52 : UInt8), (50 : UInt8), (48 : UInt8)],
        [(48 : UInt8), (52 : UInt8), (50 : UInt8), (49 : UInt8)],
        [(48 : UInt8), (52 : UInt8), (51 : UInt8), (48 : UInt8)]],
      (0 : Int), ()))
  fun (e : Unit ⊕ Bool × Unit) =>
  esel e (fun (v : Unit) => some (false, ())) fun (e : Bool × Unit) =>
    some (e.fst, ()) := by kernel_rfl
noncomputable def G118_4 (k : Nat) (j : Nat) (v : Int × List UInt8 × List (Int × List UInt8 × Unit) × Unit) : Option
  (Unit ⊕ Bool × Unit) := F118_4 k j v
theorem G118_4_eq (k : Nat) (j : Nat) (v : Int × List UInt8 × List (Int × List UInt8 × Unit) × Unit) : G118_4 k
  (j + (1 : Nat)) v =
  sel (decide (v.fst < Int.ofNat v.snd.snd.fst.length))
  (sel (decide ((0 : Int) ≤ v.fst))
    (sel (decide (v.fst < Int.ofNat v.snd.snd.fst.length))
      (sel (decide ((0 : Int) ≤ v.fst))
        (sel (decide (v.fst < Int.ofNat v.snd.snd.fst.length))
          (ocall
            (G101 k
              ((v.snd.snd.fst.getD v.fst.toNat (OfNat.ofNat (0 : Nat), [], ())).fst,
                (v.snd.snd.fst.getD v.fst.toNat (OfNat.ofNat (0 : Nat), [], ())).snd.fst, ()))
            fun (r : Bool × Unit) =>
            sel (!r.fst) (some (Sum.inr (false, ())))
              (sel (decide ((0 : Int) < v.fst))
                (sel (decide ((0 : Int) ≤ v.fst))
                  (sel (decide (v.fst < Int.ofNat v.snd.snd.fst.length))
                    (sel (decide ((0 : Int) ≤ Go.IntKind.i64.wrap (v.fst - (1 : Int))))
                      (sel (decide (Go.IntKind.i64.wrap (v.fst - (1 : Int)) < Int.ofNat v.snd.snd.fst.length))
                        (sel
                          (decide
                            ((v.snd.snd.fst.getD v.fst.toNat (OfNat.ofNat (0 : Nat), [], ())).fst ≤
                              (v.snd.snd.fst.getD (Go.IntKind.i64.wrap (v.fst - (1 : Int))).toNat
                                  (OfNat.ofNat (0 : Nat), [], ())).fst))
                          (some (Sum.inr (false, ())))
                          (G118_4 k j (Go.IntKind.i64.wrap (v.fst + (1 : Int)), v.snd.fst, v.snd.snd.fst, ())))
                        none)
                      none)
                    none)
                  none)
                (G118_4 k j (Go.IntKind.i64.wrap (v.fst + (1 : Int)), v.snd.fst, v.snd.snd.fst, ()))))
          none)
        none)
      none)
    none)
  (some (Sum.inl ())) := by kernel_rfl
noncomputable def G118 (k : Nat) (v : (List UInt8 × List (Int × List UInt8 × Unit) × Unit) × Unit) : Option
  (Bool × Unit) := F118 k v
theorem G118_eq (k : Nat) (v : (List UInt8 × List (Int × List UInt8 × Unit) × Unit) × Unit) : G118 k v =
  ocall (G178 k (v.fst.fst, ())) fun (r : Bool × Unit) =>
  sel (!r.fst) (some (false, ()))
    (sel (decide (Int.ofNat v.fst.snd.fst.length = (0 : Int))) (some (false, ()))
      (ocall (G118_4 k k ((0 : Int), v.fst.fst, v.fst.snd.fst, ())) fun (e : Unit ⊕ Bool × Unit) =>
        esel e (fun (v : Unit) => some (true, ())) fun (e : Bool × Unit) =>
          some (e.fst, ()))) := by kernel_rfl
noncomputable def G119 (k : Nat) (v : Int × Unit) : Option (List Int × Unit) := F119 k v
theorem G119_eq (k : Nat) (v : Int × Unit) : G119 k v =
  sel (decide (v.fst = (5 : Int))) (some ([(2 : Int), (4 : Int), (11 : Int), (37 : Int), (90 : Int)], ()))
  (sel (decide (v.fst = (6 : Int))) (some ([(2 : Int), (4 : Int), (11 : Int), (37 : Int), (90 : Int)], ()))
    (ocall (G43 k (v.fst, ())) fun (r : Bool × Unit) =>
      sel r.fst (some ([(2 : Int), (4 : Int), (11 : Int), (37 : Int)], ()))
        (some ([(11 : Int), (37 : Int), (39 : Int)], ())))) := by kernel_rfl
noncomputable def G41_5 (k : Nat) (j : Nat) (v : Int ×
  List UInt8 ×
    List (Int × List UInt8 × Unit) ×
      Int ×
        List UInt8 ×
          Int × Int × List UInt8 × List UInt8 × Int × List UInt8 × Int × Int × List UInt8 × List UInt8 × Unit) : Option
  (List UInt8 ×
    List (Int × List UInt8 × Unit) ×
      Int ×
        List UInt8 ×
          Int ×
            Int ×
              List UInt8 × List UInt8 × Int × List UInt8 × Int × Int × List UInt8 × List UInt8 × Unit) := F41_5 k j v
theorem G41_5_eq (k : Nat) (j : Nat) (v : Int ×
  List UInt8 ×
    List (Int × List UInt8 × Unit) ×
      Int ×
        List UInt8 ×
          Int × Int × List UInt8 × List UInt8 × Int × List UInt8 × Int × Int × List UInt8 × List UInt8 × Unit) : G41_5
  k (j + (1 : Nat)) v =
  sel (decide (v.fst < (7 : Int)))
  (ocall (G111 k ()) fun (r : List (List UInt8) × Unit) =>
    sel (decide ((0 : Int) ≤ v.fst))
      (sel (decide (v.fst < Int.ofNat r.fst.length))
        (sel (decide (v.fst.toNat < r.fst.length))
          (sel (decide (r.fst.getD v.fst.toNat [] = v.snd.fst))
            (G41_5 k j
              (Go.IntKind.i64.wrap (v.fst + (1 : Int)), v.snd.fst, v.snd.snd.fst, v.snd.snd.snd.fst,
                v.snd.snd.snd.snd.fst, v.snd.snd.snd.snd.snd.fst, v.snd.snd.snd.snd.snd.snd.fst,
                v.snd.snd.snd.snd.snd.snd.snd.fst, v.snd.snd.snd.snd.snd.snd.snd.snd.fst,
                Go.IntKind.i64.wrap (v.fst + (1 : Int)), v.snd.snd.snd.snd.snd.snd.snd.snd.snd.snd.fst,
                v.snd.snd.snd.snd.snd.snd.snd.snd.snd.snd.snd.fst,
                v.snd.snd.snd.snd.snd.snd.snd.snd.snd.snd.snd.snd.fst,
                v.snd.snd.snd.snd.snd.snd.snd.snd.snd.snd.snd.snd.snd.fst,
                v.snd.snd.snd.snd.snd.snd.snd.snd.snd.snd.snd.snd.snd.snd.fst, ()))
            (G41_5 k j
              (Go.IntKind.i64.wrap (v.fst + (1 : Int)), v.snd.fst, v.snd.snd.fst, v.snd.snd.snd.fst,
                v.snd.snd.snd.snd.fst, v.snd.snd.snd.snd.snd.fst, v.snd.snd.snd.snd.snd.snd.fst,
                v.snd.snd.snd.snd.snd.snd.snd.fst, v.snd.snd.snd.snd.snd.snd.snd.snd.fst,
                v.snd.snd.snd.snd.snd.snd.snd.snd.snd.fst, v.snd.snd.snd.snd.snd.snd.snd.snd.snd.snd.fst,
                v.snd.snd.snd.snd.snd.snd.snd.snd.snd.snd.snd.fst,
                v.snd.snd.snd.snd.snd.snd.snd.snd.snd.snd.snd.snd.fst,
                v.snd.snd.snd.snd.snd.snd.snd.snd.snd.snd.snd.snd.snd.fst,
                v.snd.snd.snd.snd.snd.snd.snd.snd.snd.snd.snd.snd.snd.snd.fst, ())))
          none)
        none)
      none)
  (some
    (v.snd.fst, v.snd.snd.fst, v.snd.snd.snd.fst, v.snd.snd.snd.snd.fst, v.snd.snd.snd.snd.snd.fst,
      v.snd.snd.snd.snd.snd.snd.fst, v.snd.snd.snd.snd.snd.snd.snd.fst, v.snd.snd.snd.snd.snd.snd.snd.snd.fst,
      v.snd.snd.snd.snd.snd.snd.snd.snd.snd.fst, v.snd.snd.snd.snd.snd.snd.snd.snd.snd.snd.fst,
      v.snd.snd.snd.snd.snd.snd.snd.snd.snd.snd.snd.fst, v.snd.snd.snd.snd.snd.snd.snd.snd.snd.snd.snd.snd.fst,
      v.snd.snd.snd.snd.snd.snd.snd.snd.snd.snd.snd.snd.snd.fst,
      v.snd.snd.snd.snd.snd.snd.snd.snd.snd.snd.snd.snd.snd.snd.fst, ())) := by kernel_rfl
noncomputable def G41_13 (k : Nat) (j : Nat) (v : List Int ×
  Int ×
    List UInt8 ×
      List (Int × List UInt8 × Unit) ×
        Int ×
          List UInt8 ×
            Int × Int × List UInt8 × List UInt8 × Int × List UInt8 × Int × Int × List UInt8 × List UInt8 × Unit) : Option
  (List Int ×
      List UInt8 ×
        List (Int × List UInt8 × Unit) ×
          Int ×
            List UInt8 ×
              Int × Int × List UInt8 × List UInt8 × Int × List UInt8 × Int × Int × List UInt8 × List UInt8 × Unit ⊕
    Int × Int × List UInt8 × Int × Int × List UInt8 × List UInt8 × Unit) := F41_13 k j v
theorem G41_13_eq (k : Nat) (j : Nat) (v : List Int ×
  Int ×
    List UInt8 ×
      List (Int × List UInt8 × Unit) ×
        Int ×
          List UInt8 ×
            Int × Int × List UInt8 × List UInt8 × Int × List UInt8 × Int × Int × List UInt8 × List UInt8 × Unit) : G41_13
  k (j + (1 : Nat)) v =
  sel (decide (v.snd.fst < Int.ofNat v.fst.length))
  (sel (decide ((0 : Int) ≤ v.snd.fst))
    (sel (decide (v.snd.fst < Int.ofNat v.snd.snd.snd.fst.length))
      (sel (decide ((0 : Int) ≤ v.snd.fst))
        (sel (decide (v.snd.fst < Int.ofNat v.fst.length))
          (sel (decide (v.snd.fst.toNat < v.fst.length))
            (sel
              (!decide
                  ((v.snd.snd.snd.fst.getD v.snd.fst.toNat (OfNat.ofNat (0 : Nat), [], ())).fst =
                    v.fst.getD v.snd.fst.toNat (OfNat.ofNat (0 : Nat))))
              (some (Sum.inr ((3 : Int), (0 : Int), [], (0 : Int), (0 : Int), [], [], ())))
              (ocall
                (G120 k
                  ((v.snd.snd.snd.fst.getD v.snd.fst.toNat (OfNat.ofNat (0 : Nat), [], ())).snd.fst,
                    ()))
                fun (r : Int × Int × Unit) =>
                sel
                  (decide
                    ((v.snd.snd.snd.fst.getD v.snd.fst.toNat (OfNat.ofNat (0 : Nat), [], ())).fst = (2 : Int)))
                  (G41_13 k j
                    (v.fst, Go.IntKind.i64.wrap (v.snd.fst + (1 : Int)), v.snd.snd.fst, v.snd.snd.snd.fst,
                      v.snd.snd.snd.snd.fst, v.snd.snd.snd.snd.snd.fst, v.snd.snd.snd.snd.snd.snd.fst,
                      v.snd.snd.snd.snd.snd.snd.snd.fst, v.snd.snd.snd.snd.snd.snd.snd.snd.fst,
                      v.snd.snd.snd.snd.snd.snd.snd.snd.snd.fst, v.snd.snd.snd.snd.snd.snd.snd.snd.snd.snd.fst,
                      (v.snd.snd.snd.fst.getD v.snd.fst.toNat (OfNat.ofNat (0 : Nat), [], ())).snd.fst,
                      v.snd.snd.snd.snd.snd.snd.snd.snd.snd.snd.snd.snd.fst,
                      v.snd.snd.snd.snd.snd.snd.snd.snd.snd.snd.snd.snd.snd.fst,
                      v.snd.snd.snd.snd.snd.snd.snd.snd.snd.snd.snd.snd.snd.snd.fst,
                      v.snd.snd.snd.snd.snd.snd.snd.snd.snd.snd.snd.snd.snd.snd.snd.fst, ()))
                  (sel
                    (decide
                      ((v.snd.snd.snd.fst.getD v.snd.fst.toNat (OfNat.ofNat (0 : Nat), [], ())).fst =
                        (4 : Int)))
                    (G41_13 k j
                      (v.fst, Go.IntKind.i64.wrap (v.snd.fst + (1 : Int)), v.snd.snd.fst, v.snd.snd.snd.fst,
                        v.snd.snd.snd.snd.fst, v.snd.snd.snd.snd.snd.fst, v.snd.snd.snd.snd.snd.snd.fst,
                        v.snd.snd.snd.snd.snd.snd.snd.fst, v.snd.snd.snd.snd.snd.snd.snd.snd.fst,
                        v.snd.snd.snd.snd.snd.snd.snd.snd.snd.fst, v.snd.snd.snd.snd.snd.snd.snd.snd.snd.snd.fst,
                        v.snd.snd.snd.snd.snd.snd.snd.snd.snd.snd.snd.fst, r.fst,
                        v.snd.snd.snd.snd.snd.snd.snd.snd.snd.snd.snd.snd.snd.fst,
                        v.snd.snd.snd.snd.snd.snd.snd.snd.snd.snd.snd.snd.snd.snd.fst,
                        v.snd.snd.snd.snd.snd.snd.snd.snd.snd.snd.snd.snd.snd.snd.snd.fst, ()))
                    (sel
                      (decide
                        ((v.snd.snd.snd.fst.getD v.snd.fst.toNat (OfNat.ofNat (0 : Nat), [], ())).fst =
                          (11 : Int)))
                      (G41_13 k j
                        (v.fst, Go.IntKind.i64.wrap (v.snd.fst + (1 : Int)), v.snd.snd.fst, v.snd.snd.snd.fst,
                          v.snd.snd.snd.snd.fst, v.snd.snd.snd.snd.snd.fst, v.snd.snd.snd.snd.snd.snd.fst,
                          v.snd.snd.snd.snd.snd.snd.snd.fst, v.snd.snd.snd.snd.snd.snd.snd.snd.fst,
                          v.snd.snd.snd.snd.snd.snd.snd.snd.snd.fst, v.snd.snd.snd.snd.snd.snd.snd.snd.snd.snd.fst,
                          v.snd.snd.snd.snd.snd.snd.snd.snd.snd.snd.snd.fst,
                          v.snd.snd.snd.snd.snd.snd.snd.snd.snd.snd.snd.snd.fst, Go.IntKind.u32.wrap r.fst,
                          v.snd.snd.snd.snd.snd.snd.snd.snd.snd.snd.snd.snd.snd.snd.fst,
                          v.snd.snd.snd.snd.snd.snd.snd.snd.snd.snd.snd.snd.snd.snd.snd.fst, ()))
                      (sel
                        (decide
                          ((v.snd.snd.snd.fst.getD v.snd.fst.toNat (OfNat.ofNat (0 : Nat), [], ())).fst =
                            (37 : Int)))
                        (G41_13 k j
                          (v.fst, Go.IntKind.i64.wrap (v.snd.fst + (1 : Int)), v.snd.snd.fst, v.snd.snd.snd.fst,
                            v.snd.snd.snd.snd.fst, v.snd.snd.snd.snd.snd.fst, v.snd.snd.snd.snd.snd.snd.fst,
                            v.snd.snd.snd.snd.snd.snd.snd.fst, v.snd.snd.snd.snd.snd.snd.snd.snd.fst,
                            v.snd.snd.snd.snd.snd.snd.snd.snd.snd.fst, v.snd.snd.snd.snd.snd.snd.snd.snd.snd.snd.fst,
                            v.snd.snd.snd.snd.snd.snd.snd.snd.snd.snd.snd.fst,
                            v.snd.snd.snd.snd.snd.snd.snd.snd.snd.snd.snd.snd.fst,
                            v.snd.snd.snd.snd.snd.snd.snd.snd.snd.snd.snd.snd.snd.fst,
                            (v.snd.snd.snd.fst.getD v.snd.fst.toNat (OfNat.ofNat (0 : Nat), [], ())).snd.fst,
                            v.snd.snd.snd.snd.snd.snd.snd.snd.snd.snd.snd.snd.snd.snd.snd.fst, ()))
                        (sel
                          (decide
                            ((v.snd.snd.snd.fst.getD v.snd.fst.toNat (OfNat.ofNat (0 : Nat), [], ())).fst =
                              (39 : Int)))
                          (G41_13 k j
                            (v.fst, Go.IntKind.i64.wrap (v.snd.fst + (1 : Int)), v.snd.snd.fst, v.snd.snd.snd.fst,
                              v.snd.snd.snd.snd.fst, v.snd.snd.snd.snd.snd.fst, v.snd.snd.snd.snd.snd.snd.fst,
                              v.snd.snd.snd.snd.snd.snd.snd.fst, v.snd.snd.snd.snd.snd.snd.snd.snd.fst,
                              v.snd.snd.snd.snd.snd.snd.snd.snd.snd.fst, v.snd.snd.snd.snd.snd.snd.snd.snd.snd.snd.fst,
                              v.snd.snd.snd.snd.snd.snd.snd.snd.snd.snd.snd.fst,
                              v.snd.snd.snd.snd.snd.snd.snd.snd.snd.snd.snd.snd.fst,
                              v.snd.snd.snd.snd.snd.snd.snd.snd.snd.snd.snd.snd.snd.fst,
                              v.snd.snd.snd.snd.snd.snd.snd.snd.snd.snd.snd.snd.snd.snd.fst,
                              (v.snd.snd.snd.fst.getD v.snd.fst.toNat (OfNat.ofNat (0 : Nat), [], ())).snd.fst,
                              ()))
                          (G41_13 k j
                            (v.fst, Go.IntKind.i64.wrap (v.snd.fst + (1 : Int)), v.snd.snd.fst, v.snd.snd.snd.fst,
                              v.snd.snd.snd.snd.fst, v.snd.snd.snd.snd.snd.fst, v.snd.snd.snd.snd.snd.snd.fst,
                              v.snd.snd.snd.snd.snd.snd.snd.fst, v.snd.snd.snd.snd.snd.snd.snd.snd.fst,
                              v.snd.snd.snd.snd.snd.snd.snd.snd.snd.fst, v.snd.snd.snd.snd.snd.snd.snd.snd.snd.snd.fst,
                              v.snd.snd.snd.snd.snd.snd.snd.snd.snd.snd.snd.fst,
                              v.snd.snd.snd.snd.snd.snd.snd.snd.snd.snd.snd.snd.fst,
                              v.snd.snd.snd.snd.snd.snd.snd.snd.snd.snd.snd.snd.snd.fst,
                              v.snd.snd.snd.snd.snd.snd.snd.snd.snd.snd.snd.snd.snd.snd.fst,
                              v.snd.snd.snd.snd.snd.snd.snd.snd.snd.snd.snd.snd.snd.snd.snd.fst, ()))))))))
            none)
          none)
        none)
      none)
    none)
  (some
    (Sum.inl
      (v.fst, v.snd.snd.fst, v.snd.snd.snd.fst, v.snd.snd.snd.snd.fst, v.snd.snd.snd.snd.snd.fst,
        v.snd.snd.snd.snd.snd.snd.fst, v.snd.snd.snd.snd.snd.snd.snd.fst, v.snd.snd.snd.snd.snd.snd.snd.snd.fst,
        v.snd.snd.snd.snd.snd.snd.snd.snd.snd.fst, v.snd.snd.snd.snd.snd.snd.snd.snd.snd.snd.fst,
        v.snd.snd.snd.snd.snd.snd.snd.snd.snd.snd.snd.fst, v.snd.snd.snd.snd.snd.snd.snd.snd.snd.snd.snd.snd.fst,
        v.snd.snd.snd.snd.snd.snd.snd.snd.snd.snd.snd.snd.snd.fst,
        v.snd.snd.snd.snd.snd.snd.snd.snd.snd.snd.snd.snd.snd.snd.fst,
        v.snd.snd.snd.snd.snd.snd.snd.snd.snd.snd.snd.snd.snd.snd.snd.fst, ()))) := by kernel_rfl
noncomputable def G41 (k : Nat) (v : (List UInt8 × List (Int × List UInt8 × Unit) × Unit) × Unit) : Option
  ((Int × List UInt8 × Int × Int × List UInt8 × List UInt8 × Unit) × Int × Unit) := F41 k v
theorem G41_eq (k : Nat) (v : (List UInt8 × List (Int × List UInt8 × Unit) × Unit) × Unit) : G41 k v =
  ocall (G118 k ((v.fst.fst, v.fst.snd.fst, ()), ())) fun (r : Bool × Unit) =>
  sel (!r.fst) (some (((0 : Int), [], (0 : Int), (0 : Int), [], [], ()), (1 : Int), ()))
    (ocall
      (G41_5 k k
        ((0 : Int), v.fst.fst, v.fst.snd.fst, (0 : Int), [], (0 : Int), (0 : Int), [], [], (0 : Int), [], (0 : Int),
          (0 : Int), [], [], ()))
      fun
        (e :
          List UInt8 ×
            List (Int × List UInt8 × Unit) ×
              Int ×
                List UInt8 ×
                  Int ×
                    Int × List UInt8 × List UInt8 × Int × List UInt8 × Int × Int × List UInt8 × List UInt8 × Unit) =>
      ocall (G119 k (e.snd.snd.snd.snd.snd.snd.snd.snd.fst, ())) fun (r : List Int × Unit) =>
        sel (!decide (Int.ofNat r.fst.length = Int.ofNat e.snd.fst.length))
          (some (((0 : Int), [], (0 : Int), (0 : Int), [], [], ()), (3 : Int), ()))
          (ocall
            (G41_13 k k
              (r.fst, (0 : Int), e.fst, e.snd.fst, e.snd.snd.fst, e.snd.snd.snd.fst, e.snd.snd.snd.snd.fst,
                e.snd.snd.snd.snd.snd.fst, e.snd.snd.snd.snd.snd.snd.fst, e.snd.snd.snd.snd.snd.snd.snd.fst,
                e.snd.snd.snd.snd.snd.snd.snd.snd.fst, e.snd.snd.snd.snd.snd.snd.snd.snd.snd.fst,
                e.snd.snd.snd.snd.snd.snd.snd.snd.snd.snd.fst, e.snd.snd.snd.snd.snd.snd.snd.snd.snd.snd.snd.fst,
                e.snd.snd.snd.snd.snd.snd.snd.snd.snd.snd.snd.snd.fst,
                e.snd.snd.snd.snd.snd.snd.snd.snd.snd.snd.snd.snd.snd.fst, ()))
            fun
              (e :
                List Int ×
                    List UInt8 ×
                      List (Int × List UInt8 × Unit) ×
                        Int ×
                          List UInt8 ×
                            Int ×
                              Int ×
                                List UInt8 ×
                                  List UInt8 × Int × List UInt8 × Int × Int × List UInt8 × List UInt8 × Unit ⊕
                  Int × Int × List UInt8 × Int × Int × List UInt8 × List UInt8 × Unit) =>
            esel e
              (fun
                  (v :
                    List Int ×
                      List UInt8 ×
                        List (Int × List UInt8 × Unit) ×
                          Int ×
                            List UInt8 ×
                              Int ×
                                Int ×
                                  List UInt8 ×
                                    List UInt8 × Int × List UInt8 × Int × Int × List UInt8 × List UInt8 × Unit) =>
                ocall (G43 k (v.snd.snd.snd.snd.snd.snd.snd.snd.snd.fst, ())) fun (r : Bool × Unit) =>
                  sel r.fst
                    (ocall (G110 k (v.snd.snd.snd.snd.snd.snd.snd.snd.snd.snd.fst, ()))
                      fun (r : Bool × Unit) =>
                      sel (!r.fst)
                        (some (((0 : Int), [], (0 : Int), (0 : Int), [], [], ()), (3 : Int), ()))
                        (sel (decide (Int.ofNat v.fst.length = (5 : Int)))
                          (sel (decide ((4 : Int) < Int.ofNat v.snd.snd.fst.length))
                            (sel (decide ((2 : Int) < Int.ofNat v.snd.snd.fst.length))
                              (ocall
                                (G112 k
                                  ((v.snd.snd.fst.getD (Int.toNat (2 : Int))
                                          (OfNat.ofNat (0 : Nat), [], ())).snd.fst,
                                    ()))
                                fun (r : List UInt8 × Unit) =>
                                sel
                                  (!decide
                                      ((v.snd.snd.fst.getD (Int.toNat (4 : Int))
                                              (OfNat.ofNat (0 : Nat), [], ())).snd.fst =
                                        r.fst))
                                  (some
                                    (((0 : Int), [], (0 : Int), (0 : Int), [], [], ()), (11 : Int), ()))
                                  (some
                                    ((v.snd.snd.snd.snd.snd.snd.snd.snd.snd.fst,
                                        v.snd.snd.snd.snd.snd.snd.snd.snd.snd.snd.fst,
                                        v.snd.snd.snd.snd.snd.snd.snd.snd.snd.snd.snd.fst,
                                        v.snd.snd.snd.snd.snd.snd.snd.snd.snd.snd.snd.snd.fst,
                                        v.snd.snd.snd.snd.snd.snd.snd.snd.snd.snd.snd.snd.snd.fst,
                                        v.snd.snd.snd.snd.snd.snd.snd.snd.snd.snd.snd.snd.snd.snd.fst, ()),
                                      (0 : Int), ())))
                              none)
                            none)
                          (some
                            ((v.snd.snd.snd.snd.snd.snd.snd.snd.snd.fst, v.snd.snd.snd.snd.snd.snd.snd.snd.snd.snd.fst,
                                v.snd.snd.snd.snd.snd.snd.snd.snd.snd.snd.snd.fst,
                                v.snd.snd.snd.snd.snd.snd.snd.snd.snd.snd.snd.snd.fst,
                                v.snd.snd.snd.snd.snd.snd.snd.snd.snd.snd.snd.snd.snd.fst,
                                v.snd.snd.snd.snd.snd.snd.snd.snd.snd.snd.snd.snd.snd.snd.fst, ()),
                              (0 : Int), ()))))
                    (sel (decide (Int.ofNat v.fst.length = (5 : Int)))
                      (sel (decide ((4 : Int) < Int.ofNat v.snd.snd.fst.length))
                        (sel (decide ((2 : Int) < Int.ofNat v.snd.snd.fst.length))
                          (ocall
                            (G112 k
                              ((v.snd.snd.fst.getD (Int.toNat (2 : Int))
                                      (OfNat.ofNat (0 : Nat), [], ())).snd.fst,
                                ()))
                            fun (r : List UInt8 × Unit) =>
                            sel
                              (!decide
                                  ((v.snd.snd.fst.getD (Int.toNat (4 : Int))
                                          (OfNat.ofNat (0 : Nat), [], ())).snd.fst =
                                    r.fst))
                              (some (((0 : Int), [], (0 : Int), (0 : Int), [], [], ()), (11 : Int), ()))
                              (some
                                ((v.snd.snd.snd.snd.snd.snd.snd.snd.snd.fst,
                                    v.snd.snd.snd.snd.snd.snd.snd.snd.snd.snd.fst,
                                    v.snd.snd.snd.snd.snd.snd.snd.snd.snd.snd.snd.fst,
                                    v.snd.snd.snd.snd.snd.snd.snd.snd.snd.snd.snd.snd.fst,
                                    v.snd.snd.snd.snd.snd.snd.snd.snd.snd.snd.snd.snd.snd.fst,
                                    v.snd.snd.snd.snd.snd.snd.snd.snd.snd.snd.snd.snd.snd.snd.fst, ()),
                                  (0 : Int), ())))
                          none)
                        none)
                      (some
                        ((v.snd.snd.snd.snd.snd.snd.snd.snd.snd.fst, v.snd.snd.snd.snd.snd.snd.snd.snd.snd.snd.fst,
                            v.snd.snd.snd.snd.snd.snd.snd.snd.snd.snd.snd.fst,
                            v.snd.snd.snd.snd.snd.snd.snd.snd.snd.snd.snd.snd.fst,
                            v.snd.snd.snd.snd.snd.snd.snd.snd.snd.snd.snd.snd.snd.fst,
                            v.snd.snd.snd.snd.snd.snd.snd.snd.snd.snd.snd.snd.snd.snd.fst, ()),
                          (0 : Int), ()))))
              fun (e : Int × Int × List UInt8 × Int × Int × List UInt8 × List UInt8 × Unit) =>
              some
                ((e.snd.fst, e.snd.snd.fst, e.snd.snd.snd.fst, e.snd.snd.snd.snd.fst, e.snd.snd.snd.snd.snd.fst,
                    e.snd.snd.snd.snd.snd.snd.fst, ()),
                  e.fst, ()))) := by kernel_rfl
noncomputable def G6 (k : Nat) (v : (Int × List UInt8 × Int × Int × List UInt8 × List UInt8 × Unit) ×
  (List UInt8 × List (Int × List UInt8 × Unit) × Unit) × Int × Unit) : Option (Bool × Unit) := F6 k v
theorem G6_eq (k : Nat) (v : (Int × List UInt8 × Int × Int × List UInt8 × List UInt8 × Unit) ×
  (List UInt8 × List (Int × List UInt8 × Unit) × Unit) × Int × Unit) : G6 k v =
  ocall (G34 k ()) fun (r : Bool × Unit) =>
  sel (!r.fst) (some (false, ()))
    (ocall
      (G24 k
        ((v.fst.fst, v.fst.snd.fst, v.fst.snd.snd.fst, v.fst.snd.snd.snd.fst, v.fst.snd.snd.snd.snd.fst,
            v.fst.snd.snd.snd.snd.snd.fst, ()),
          ()))
      fun (r : Bool × Unit) =>
      sel (!r.fst) (some (true, ()))
        (ocall (G35 k ((v.snd.fst.fst, v.snd.fst.snd.fst, ()), ())) fun (r : Bool × Unit) =>
          sel (!r.fst) (some (true, ()))
            (ocall
              (G36 k
                ((v.fst.fst, v.fst.snd.fst, v.fst.snd.snd.fst, v.fst.snd.snd.snd.fst, v.fst.snd.snd.snd.snd.fst,
                    v.fst.snd.snd.snd.snd.snd.fst, ()),
                  ()))
              fun (r : Bool × Unit) =>
              ocall
                (G37 k
                  ((v.fst.fst, v.fst.snd.fst, v.fst.snd.snd.fst, v.fst.snd.snd.snd.fst, v.fst.snd.snd.snd.snd.fst,
                      v.fst.snd.snd.snd.snd.snd.fst, ()),
                    ()))
                fun (r_1 : (List UInt8 × List (Int × List UInt8 × Unit) × Unit) × Int × Unit) =>
                sel r.fst
                  (sel (!decide (r_1.snd.fst = (0 : Int))) (some (false, ()))
                    (ocall
                      (G39 k
                        ((v.fst.fst, v.fst.snd.fst, v.fst.snd.snd.fst, v.fst.snd.snd.snd.fst, v.fst.snd.snd.snd.snd.fst,
                            v.fst.snd.snd.snd.snd.snd.fst, ()),
                          ()))
                      fun (r_2 : (List UInt8 × List (Int × List UInt8 × Unit) × Unit) × Unit) =>
                      ocall
                        (G38 k
                          ((r_1.fst.fst, r_1.fst.snd.fst, ()), (r_2.fst.fst, r_2.fst.snd.fst, ()),
                            ()))
                        fun (r_3 : Bool × Unit) =>
                        sel (!r_3.fst) (some (false, ()))
                          (sel (!r.fst)
                            (sel (!decide (r_1.snd.fst = (1 : Int))) (some (false, ()))
                              (ocall
                                (G38 k ((r_1.fst.fst, r_1.fst.snd.fst, ()), ([], [], ()), ()))
                                fun (r_4 : Bool × Unit) =>
                                sel (!r_4.fst) (some (false, ()))
                                  (ocall (G40 k ((v.snd.fst.fst, v.snd.fst.snd.fst, ()), ()))
                                    fun
                                      (r_5 :
                                        (Int × List UInt8 × Int × Int × List UInt8 × List UInt8 × Unit) ×
                                          Int × Unit) =>
                                    ocall (G41 k ((v.snd.fst.fst, v.snd.fst.snd.fst, ()), ()))
                                      fun
                                        (r_6 :
                                          (Int × List UInt8 × Int × Int × List UInt8 × List UInt8 × Unit) ×
                                            Int × Unit) =>
                                      ocall
                                        (G33 k
                                          ((v.fst.fst, v.fst.snd.fst, v.fst.snd.snd.fst, v.fst.snd.snd.snd.fst,
                                              v.fst.snd.snd.snd.snd.fst, v.fst.snd.snd.snd.snd.snd.fst, ()),
                                            ()))
                                        fun (r_7 : Bool × Unit) =>
                                        sel (r_7.fst == r.fst)
                                          (sel
                                            (sameI r_5.fst.fst r_6.fst.fst &&
                                              (sameS r_5.fst.snd.fst r_6.fst.snd.fst &&
                                                (sameI r_5.fst.snd.snd.fst r_6.fst.snd.snd.fst &&
                                                  (sameI r_5.fst.snd.snd.snd.fst r_6.fst.snd.snd.snd.fst &&
                                                    (sameS r_5.fst.snd.snd.snd.snd.fst r_6.fst.snd.snd.snd.snd.fst &&
                                                      (sameS r_5.fst.snd.snd.snd.snd.snd.fst
                                                          r_6.fst.snd.snd.snd.snd.snd.fst &&
                                                        true))))))
                                            (sel (decide (r_5.snd.fst = r_6.snd.fst))
                                              (ocall (G42 k (v.snd.snd.fst, ())) fun (r : Bool × Unit) =>
                                                ocall (G43 k (v.snd.snd.fst, ())) fun (r_8 : Bool × Unit) =>
                                                  some (r.fst == r_8.fst, ()))
                                              (some (false, ())))
                                            (some (false, ())))
                                          (some (false, ())))))
                            (ocall (G40 k ((v.snd.fst.fst, v.snd.fst.snd.fst, ()), ()))
                              fun
                                (r_4 :
                                  (Int × List UInt8 × Int × Int × List UInt8 × List UInt8 × Unit) × Int × Unit) =>
                              ocall (G41 k ((v.snd.fst.fst, v.snd.fst.snd.fst, ()), ()))
                                fun
                                  (r_5 :
                                    (Int × List UInt8 × Int × Int × List UInt8 × List UInt8 × Unit) × Int × Unit) =>
                                ocall
                                  (G33 k
                                    ((v.fst.fst, v.fst.snd.fst, v.fst.snd.snd.fst, v.fst.snd.snd.snd.fst,
                                        v.fst.snd.snd.snd.snd.fst, v.fst.snd.snd.snd.snd.snd.fst, ()),
                                      ()))
                                  fun (r_6 : Bool × Unit) =>
                                  sel (r_6.fst == r.fst)
                                    (sel
                                      (sameI r_4.fst.fst r_5.fst.fst &&
                                        (sameS r_4.fst.snd.fst r_5.fst.snd.fst &&
                                          (sameI r_4.fst.snd.snd.fst r_5.fst.snd.snd.fst &&
                                            (sameI r_4.fst.snd.snd.snd.fst r_5.fst.snd.snd.snd.fst &&
                                              (sameS r_4.fst.snd.snd.snd.snd.fst r_5.fst.snd.snd.snd.snd.fst &&
                                                (sameS r_4.fst.snd.snd.snd.snd.snd.fst
                                                    r_5.fst.snd.snd.snd.snd.snd.fst &&
                                                  true))))))
                                      (sel (decide (r_4.snd.fst = r_5.snd.fst))
                                        (ocall (G42 k (v.snd.snd.fst, ())) fun (r : Bool × Unit) =>
                                          ocall (G43 k (v.snd.snd.fst, ())) fun (r_7 : Bool × Unit) =>
                                            some (r.fst == r_7.fst, ()))
                                        (some (false, ())))
                                      (some (false, ())))
                                    (some (false, ()))))))
                  (sel (!r.fst)
                    (sel (!decide (r_1.snd.fst = (1 : Int))) (some (false, ()))
                      (ocall (G38 k ((r_1.fst.fst, r_1.fst.snd.fst, ()), ([], [], ()), ()))
                        fun (r_2 : Bool × Unit) =>
                        sel (!r_2.fst) (some (false, ()))
                          (ocall (G40 k ((v.snd.fst.fst, v.snd.fst.snd.fst, ()), ()))
                            fun
                              (r_3 : (Int × List UInt8 × Int × Int × List UInt8 × List UInt8 × Unit) × Int × Unit) =>
                            ocall (G41 k ((v.snd.fst.fst, v.snd.fst.snd.fst, ()), ()))
                              fun
                                (r_4 :
                                  (Int × List UInt8 × Int × Int × List UInt8 × List UInt8 × Unit) × Int × Unit) =>
                              ocall
                                (G33 k
                                  ((v.fst.fst, v.fst.snd.fst, v.fst.snd.snd.fst, v.fst.snd.snd.snd.fst,
                                      v.fst.snd.snd.snd.snd.fst, v.fst.snd.snd.snd.snd.snd.fst, ()),
                                    ()))
                                fun (r_5 : Bool × Unit) =>
                                sel (r_5.fst == r.fst)
                                  (sel
                                    (sameI r_3.fst.fst r_4.fst.fst &&
                                      (sameS r_3.fst.snd.fst r_4.fst.snd.fst &&
                                        (sameI r_3.fst.snd.snd.fst r_4.fst.snd.snd.fst &&
                                          (sameI r_3.fst.snd.snd.snd.fst r_4.fst.snd.snd.snd.fst &&
                                            (sameS r_3.fst.snd.snd.snd.snd.fst r_4.fst.snd.snd.snd.snd.fst &&
                                              (sameS r_3.fst.snd.snd.snd.snd.snd.fst r_4.fst.snd.snd.snd.snd.snd.fst &&
                                                true))))))
                                    (sel (decide (r_3.snd.fst = r_4.snd.fst))
                                      (ocall (G42 k (v.snd.snd.fst, ())) fun (r : Bool × Unit) =>
                                        ocall (G43 k (v.snd.snd.fst, ())) fun (r_6 : Bool × Unit) =>
                                          some (r.fst == r_6.fst, ()))
                                      (some (false, ())))
                                    (some (false, ())))
                                  (some (false, ())))))
                    (ocall (G40 k ((v.snd.fst.fst, v.snd.fst.snd.fst, ()), ()))
                      fun (r_2 : (Int × List UInt8 × Int × Int × List UInt8 × List UInt8 × Unit) × Int × Unit) =>
                      ocall (G41 k ((v.snd.fst.fst, v.snd.fst.snd.fst, ()), ()))
                        fun (r_3 : (Int × List UInt8 × Int × Int × List UInt8 × List UInt8 × Unit) × Int × Unit) =>
                        ocall
                          (G33 k
                            ((v.fst.fst, v.fst.snd.fst, v.fst.snd.snd.fst, v.fst.snd.snd.snd.fst,
                                v.fst.snd.snd.snd.snd.fst, v.fst.snd.snd.snd.snd.snd.fst, ()),
                              ()))
                          fun (r_4 : Bool × Unit) =>
                          sel (r_4.fst == r.fst)
                            (sel
                              (sameI r_2.fst.fst r_3.fst.fst &&
                                (sameS r_2.fst.snd.fst r_3.fst.snd.fst &&
                                  (sameI r_2.fst.snd.snd.fst r_3.fst.snd.snd.fst &&
                                    (sameI r_2.fst.snd.snd.snd.fst r_3.fst.snd.snd.snd.fst &&
                                      (sameS r_2.fst.snd.snd.snd.snd.fst r_3.fst.snd.snd.snd.snd.fst &&
                                        (sameS r_2.fst.snd.snd.snd.snd.snd.fst r_3.fst.snd.snd.snd.snd.snd.fst &&
                                          true))))))
                              (sel (decide (r_2.snd.fst = r_3.snd.fst))
                                (ocall (G42 k (v.snd.snd.fst, ())) fun (r : Bool × Unit) =>
                                  ocall (G43 k (v.snd.snd.fst, ())) fun (r_5 : Bool × Unit) =>
                                    some (r.fst == r_5.fst, ()))
                                (some (false, ())))
                              (some (false, ())))
                            (some (false, ()))))))) := by kernel_rfl
noncomputable def G7 (k : Nat) (v : (Int × List UInt8 × Int × Int × List UInt8 × List UInt8 × Unit) ×
  (Int × List UInt8 × Int × Int × List UInt8 × List UInt8 × Unit) ×
    (List UInt8 × List (Int × List UInt8 × Unit) × Unit) × Unit) : Option (Bool × Unit) := F7 k v
theorem G7_eq (k : Nat) (v : (Int × List UInt8 × Int × Int × List UInt8 × List UInt8 × Unit) ×
  (Int × List UInt8 × Int × Int × List UInt8 × List UInt8 × Unit) ×
    (List UInt8 × List (Int × List UInt8 × Unit) × Unit) × Unit) : G7 k v =
  ocall (G34 k ()) fun (r : Bool × Unit) =>
  sel (!r.fst) (some (false, ()))
    (ocall
      (G24 k
        ((v.fst.fst, v.fst.snd.fst, v.fst.snd.snd.fst, v.fst.snd.snd.snd.fst, v.fst.snd.snd.snd.snd.fst,
            v.fst.snd.snd.snd.snd.snd.fst, ()),
          ()))
      fun (r : Bool × Unit) =>
      sel (!r.fst) (some (true, ()))
        (ocall
          (G24 k
            ((v.snd.fst.fst, v.snd.fst.snd.fst, v.snd.fst.snd.snd.fst, v.snd.fst.snd.snd.snd.fst,
                v.snd.fst.snd.snd.snd.snd.fst, v.snd.fst.snd.snd.snd.snd.snd.fst, ()),
              ()))
          fun (r : Bool × Unit) =>
          sel (!r.fst) (some (true, ()))
            (ocall (G35 k ((v.snd.snd.fst.fst, v.snd.snd.fst.snd.fst, ()), ()))
              fun (r : Bool × Unit) =>
              sel (!r.fst) (some (true, ()))
                (ocall
                  (G37 k
                    ((v.fst.fst, v.fst.snd.fst, v.fst.snd.snd.fst, v.fst.snd.snd.snd.fst, v.fst.snd.snd.snd.snd.fst,
                        v.fst.snd.snd.snd.snd.snd.fst, ()),
                      ()))
                  fun (r : (List UInt8 × List (Int × List UInt8 × Unit) × Unit) × Int × Unit) =>
                  ocall
                    (G37 k
                      ((v.snd.fst.fst, v.snd.fst.snd.fst, v.snd.fst.snd.snd.fst, v.snd.fst.snd.snd.snd.fst,
                          v.snd.fst.snd.snd.snd.snd.fst, v.snd.fst.snd.snd.snd.snd.snd.fst, ()),
                        ()))
                    fun (r_1 : (List UInt8 × List (Int × List UInt8 × Unit) × Unit) × Int × Unit) =>
                    sel (decide (r.snd.fst = (0 : Int)))
                      (ocall (G40 k ((r.fst.fst, r.fst.snd.fst, ()), ()))
                        fun (r_2 : (Int × List UInt8 × Int × Int × List UInt8 × List UInt8 × Unit) × Int × Unit) =>
                        sel (!decide (r_2.snd.fst = (0 : Int))) (some (false, ()))
                          (sel
                            (!(sameI r_2.fst.fst v.fst.fst &&
                                (sameS r_2.fst.snd.fst v.fst.snd.fst &&
                                  (sameI r_2.fst.snd.snd.fst v.fst.snd.snd.fst &&
                                    (sameI r_2.fst.snd.snd.snd.fst v.fst.snd.snd.snd.fst &&
                                      (sameS r_2.fst.snd.snd.snd.snd.fst v.fst.snd.snd.snd.snd.fst &&
                                        (sameS r_2.fst.snd.snd.snd.snd.snd.fst v.fst.snd.snd.snd.snd.snd.fst &&
                                          true)))))))
                            (some (false, ()))
                            (ocall (G44 k ((r.fst.fst, r.fst.snd.fst, ()), ()))
                              fun (r_3 : Bool × Unit) =>
                              sel (!r_3.fst) (some (false, ()))
                                (sel (decide (r_1.snd.fst = (0 : Int)))
                                  (ocall
                                    (G38 k
                                      ((r.fst.fst, r.fst.snd.fst, ()),
                                        (r_1.fst.fst, r_1.fst.snd.fst, ()), ()))
                                    fun (r : Bool × Unit) =>
                                    sel
                                      (!r.fst ==
                                          (sameI v.fst.fst v.snd.fst.fst &&
                                            (sameS v.fst.snd.fst v.snd.fst.snd.fst &&
                                              (sameI v.fst.snd.snd.fst v.snd.fst.snd.snd.fst &&
                                                (sameI v.fst.snd.snd.snd.fst v.snd.fst.snd.snd.snd.fst &&
                                                  (sameS v.fst.snd.snd.snd.snd.fst v.snd.fst.snd.snd.snd.snd.fst &&
                                                    (sameS v.fst.snd.snd.snd.snd.snd.fst
                                                        v.snd.fst.snd.snd.snd.snd.snd.fst &&
                                                      true)))))))
                                      (some (false, ()))
                                      (ocall
                                        (G40 k ((v.snd.snd.fst.fst, v.snd.snd.fst.snd.fst, ()), ()))
                                        fun
                                          (r :
                                            (Int × List UInt8 × Int × Int × List UInt8 × List UInt8 × Unit) ×
                                              Int × Unit) =>
                                        sel (!decide (r.snd.fst = (0 : Int)))
                                          (some
                                            (sameI r.fst.fst (OfNat.ofNat (0 : Nat)) &&
                                                (sameS r.fst.snd.fst [] &&
                                                  (sameI r.fst.snd.snd.fst (OfNat.ofNat (0 : Nat)) &&
                                                    (sameI r.fst.snd.snd.snd.fst (OfNat.ofNat (0 : Nat)) &&
                                                      (sameS r.fst.snd.snd.snd.snd.fst [] &&
                                                        (sameS r.fst.snd.snd.snd.snd.snd.fst [] && true))))),
                                              ()))
                                          (ocall
                                            (G37 k
                                              ((r.fst.fst, r.fst.snd.fst, r.fst.snd.snd.fst, r.fst.snd.snd.snd.fst,
                                                  r.fst.snd.snd.snd.snd.fst, r.fst.snd.snd.snd.snd.snd.fst, ()),
                                                ()))
                                            fun
                                              (r_4 :
                                                (List UInt8 × List (Int × List UInt8 × Unit) × Unit) × Int × Unit) =>
                                            sel (decide (r_4.snd.fst = (0 : Int)))
                                              (ocall
                                                (G33 k
                                                  ((r.fst.fst, r.fst.snd.fst, r.fst.snd.snd.fst, r.fst.snd.snd.snd.fst,
                                                      r.fst.snd.snd.snd.snd.fst, r.fst.snd.snd.snd.snd.snd.fst,
                                                      ()),
                                                    ()))
                                                fun (r : Bool × Unit) =>
                                                sel r.fst
                                                  (ocall
                                                    (G38 k
                                                      ((r_4.fst.fst, r_4.fst.snd.fst, ()),
                                                        (v.snd.snd.fst.fst, v.snd.snd.fst.snd.fst, ()),
                                                        ()))
                                                    fun (r : Bool × Unit) => some (r.fst, ()))
                                                  (some (false, ())))
                                              (some (false, ())))))
                                  (ocall (G40 k ((v.snd.snd.fst.fst, v.snd.snd.fst.snd.fst, ()), ()))
                                    fun
                                      (r :
                                        (Int × List UInt8 × Int × Int × List UInt8 × List UInt8 × Unit) ×
                                          Int × Unit) =>
                                    sel (!decide (r.snd.fst = (0 : Int)))
                                      (some
                                        (sameI r.fst.fst (OfNat.ofNat (0 : Nat)) &&
                                            (sameS r.fst.snd.fst [] &&
                                              (sameI r.fst.snd.snd.fst (OfNat.ofNat (0 : Nat)) &&
                                                (sameI r.fst.snd.snd.snd.fst (OfNat.ofNat (0 : Nat)) &&
                                                  (sameS r.fst.snd.snd.snd.snd.fst [] &&
                                                    (sameS r.fst.snd.snd.snd.snd.snd.fst [] && true))))),
                                          ()))
                                      (ocall
                                        (G37 k
                                          ((r.fst.fst, r.fst.snd.fst, r.fst.snd.snd.fst, r.fst.snd.snd.snd.fst,
                                              r.fst.snd.snd.snd.snd.fst, r.fst.snd.snd.snd.snd.snd.fst, ()),
                                            ()))
                                        fun
                                          (r_4 :
                                            (List UInt8 × List (Int × List UInt8 × Unit) × Unit) × Int × Unit) =>
                                        sel (decide (r_4.snd.fst = (0 : Int)))
                                          (ocall
                                            (G33 k
                                              ((r.fst.fst, r.fst.snd.fst, r.fst.snd.snd.fst, r.fst.snd.snd.snd.fst,
                                                  r.fst.snd.snd.snd.snd.fst, r.fst.snd.snd.snd.snd.snd.fst, ()),
                                                ()))
                                            fun (r : Bool × Unit) =>
                                            sel r.fst
                                              (ocall
                                                (G38 k
                                                  ((r_4.fst.fst, r_4.fst.snd.fst, ()),
                                                    (v.snd.snd.fst.fst, v.snd.snd.fst.snd.fst, ()), ()))
                                                fun (r : Bool × Unit) => some (r.fst, ()))
                                              (some (false, ())))
                                          (some (false, ()))))))))
                      (ocall (G40 k ((v.snd.snd.fst.fst, v.snd.snd.fst.snd.fst, ()), ()))
                        fun (r : (Int × List UInt8 × Int × Int × List UInt8 × List UInt8 × Unit) × Int × Unit) =>
                        sel (!decide (r.snd.fst = (0 : Int)))
                          (some
                            (sameI r.fst.fst (OfNat.ofNat (0 : Nat)) &&
                                (sameS r.fst.snd.fst [] &&
                                  (sameI r.fst.snd.snd.fst (OfNat.ofNat (0 : Nat)) &&
                                    (sameI r.fst.snd.snd.snd.fst (OfNat.ofNat (0 : Nat)) &&
                                      (sameS r.fst.snd.snd.snd.snd.fst [] &&
                                        (sameS r.fst.snd.snd.snd.snd.snd.fst [] && true))))),
                              ()))
                          (ocall
                            (G37 k
                              ((r.fst.fst, r.fst.snd.fst, r.fst.snd.snd.fst, r.fst.snd.snd.snd.fst,
                                  r.fst.snd.snd.snd.snd.fst, r.fst.snd.snd.snd.snd.snd.fst, ()),
                                ()))
                            fun (r_2 : (List UInt8 × List (Int × List UInt8 × Unit) × Unit) × Int × Unit) =>
                            sel (decide (r_2.snd.fst = (0 : Int)))
                              (ocall
                                (G33 k
                                  ((r.fst.fst, r.fst.snd.fst, r.fst.snd.snd.fst, r.fst.snd.snd.snd.fst,
                                      r.fst.snd.snd.snd.snd.fst, r.fst.snd.snd.snd.snd.snd.fst, ()),
                                    ()))
                                fun (r : Bool × Unit) =>
                                sel r.fst
                                  (ocall
                                    (G38 k
                                      ((r_2.fst.fst, r_2.fst.snd.fst, ()),
                                        (v.snd.snd.fst.fst, v.snd.snd.fst.snd.fst, ()), ()))
                                    fun (r : Bool × Unit) => some (r.fst, ()))
                                  (some (false, ())))
                              (some (false, ())))))))) := by kernel_rfl
end Go.Proofs.YtjgnpmdbkgeakaaDoor.G
