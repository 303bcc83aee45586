/- What each function's run comes to, as a plain function. -/
import Derived.Test.YthglkecbfakmpaaG
import Derived.KernelRfl
set_option maxRecDepth 1000000
set_option linter.unusedVariables false
set_option linter.unusedSimpArgs false
namespace Go.Proofs.Ythglkecbfakmpaa.G
open Go Go.Proofs.Ythglkecbfakmpaa Th
noncomputable def G25 (k : Nat) (v : (Int × List (List Int) × Unit) × Unit) : Option (Bool × Unit) := F25 k v
theorem G25_eq (k : Nat) (v : (Int × List (List Int) × Unit) × Unit) : G25 k v =
  sel (decide ((1 : Int) ≤ v.fst.fst))
  (sel (decide (v.fst.fst ≤ (64 : Int))) (some (decide (Int.ofNat v.fst.snd.fst.length ≤ v.fst.fst), ()))
    (some (false, ())))
  (some (false, ())) := by kernel_rfl
noncomputable def G18 (k : Nat) (v : Int × Unit) : Option ((Int × List (List Int) × Unit) × Int × Unit) := F18 k v
theorem G18_eq (k : Nat) (v : Int × Unit) : G18 k v =
  ocall (G25 k ((v.fst, [], ()), ())) fun (r : Bool × Unit) =>
  sel r.fst (some ((v.fst, [], ()), (0 : Int), ()))
    (some (((0 : Int), [], ()), (1 : Int), ())) := by kernel_rfl
noncomputable def G26 (k : Nat) (v : (Int × List (List Int) × Unit) × Unit) : Option (Int × Unit) := F26 k v
theorem G26_eq (k : Nat) (v : (Int × List (List Int) × Unit) × Unit) : G26 k v =
  ocall (G25 k ((v.fst.fst, v.fst.snd.fst, ()), ())) fun (r : Bool × Unit) =>
  sel (!r.fst) (some ((0 : Int), ()))
    (some (Go.IntKind.i64.wrap (v.fst.fst - Int.ofNat v.fst.snd.fst.length), ())) := by kernel_rfl
noncomputable def G72 (k : Nat) (v : List (List Int)) : Option (List (List Int) × Unit) := F72 k v
theorem G72_eq (k : Nat) (v : List (List Int)) : G72 k v =
  sel (decide (((0 : Nat) + v.length) * (24 : Nat) ≤ (140737488355328 : Nat))) (some (v, ()))
  none := by kernel_rfl
noncomputable def G73 (k : Nat) (v : List Int) : Option (List Int × Unit) := F73 k v
theorem G73_eq (k : Nat) (v : List Int) : G73 k v =
  sel (decide (((0 : Nat) + v.length) * (1 : Nat) ≤ (140737488355328 : Nat))) (some (v, ()))
  none := by kernel_rfl
noncomputable def G21_7 (k : Nat) (j : Nat) (v : List (List Int) × Int × Int × Int × List (List Int) × Int × List (List Int) × Unit) : Option
  (Int × List (List Int) × Int × List (List Int) × Unit) := F21_7 k j v
theorem G21_7_eq (k : Nat) (j : Nat) (v : List (List Int) × Int × Int × Int × List (List Int) × Int × List (List Int) × Unit) : G21_7
  k (j + (1 : Nat)) v =
  sel (decide (v.snd.snd.fst < v.snd.fst))
  (sel (decide ((0 : Int) ≤ v.snd.snd.fst))
    (sel (decide (v.snd.snd.fst < Int.ofNat v.fst.length))
      (ocall (G73 k (v.fst.getD v.snd.snd.fst.toNat [])) fun (r : List Int × Unit) =>
        sel (decide ((v.snd.snd.snd.snd.fst.length + (1 : Nat)) * (24 : Nat) ≤ (140737488355328 : Nat)))
          (G21_7 k j
            (v.fst, v.snd.fst, Go.IntKind.i64.wrap (v.snd.snd.fst + (1 : Int)), v.snd.snd.snd.fst,
              v.snd.snd.snd.snd.fst.append [r.fst], v.snd.snd.snd.snd.snd.fst, v.snd.snd.snd.snd.snd.snd.fst,
              ()))
          none)
      none)
    none)
  (some
    (v.snd.snd.snd.fst, v.snd.snd.snd.snd.fst, v.snd.snd.snd.snd.snd.fst, v.snd.snd.snd.snd.snd.snd.fst,
      ())) := by kernel_rfl
noncomputable def G21 (k : Nat) (v : (Int × List (List Int) × Unit) × List (List Int) × Unit) : Option
  ((Int × List (List Int) × Unit) × Int × Unit) := F21 k v
theorem G21_eq (k : Nat) (v : (Int × List (List Int) × Unit) × List (List Int) × Unit) : G21 k v =
  ocall (G25 k ((v.fst.fst, v.fst.snd.fst, ()), ())) fun (r : Bool × Unit) =>
  sel (!r.fst) (some ((v.fst.fst, v.fst.snd.fst, ()), (1 : Int), ()))
    (ocall (G26 k ((v.fst.fst, v.fst.snd.fst, ()), ())) fun (r : Int × Unit) =>
      sel (decide (r.fst < Int.ofNat v.snd.fst.length))
        (some ((v.fst.fst, v.fst.snd.fst, ()), (7 : Int), ()))
        (ocall (G72 k v.fst.snd.fst) fun (r : List (List Int) × Unit) =>
          ocall
            (G21_7 k k (v.snd.fst, Int.ofNat v.snd.fst.length, (0 : Int), v.fst.fst, r.fst, (0 : Int), [], ()))
            fun (e : Int × List (List Int) × Int × List (List Int) × Unit) =>
            some ((e.fst, e.snd.fst, ()), (0 : Int), ()))) := by kernel_rfl
noncomputable def G23 (k : Nat) (v : (Int × List (List Int) × Unit) × Unit) : Option
  ((Int × List (List Int) × Unit) × List Int × Int × Unit) := F23 k v
theorem G23_eq (k : Nat) (v : (Int × List (List Int) × Unit) × Unit) : G23 k v =
  ocall (G25 k ((v.fst.fst, v.fst.snd.fst, ()), ())) fun (r : Bool × Unit) =>
  sel (!r.fst) (some ((v.fst.fst, v.fst.snd.fst, ()), [], (1 : Int), ()))
    (sel (decide (Int.ofNat v.fst.snd.fst.length = (0 : Int)))
      (some ((v.fst.fst, v.fst.snd.fst, ()), [], (5 : Int), ()))
      (sel (decide ((0 : Int) < Int.ofNat v.fst.snd.fst.length))
        (ocall (G73 k (v.fst.snd.fst.getD (Int.toNat (0 : Int)) [])) fun (r : List Int × Unit) =>
          sel (decide ((1 : Int) ≤ Int.ofNat v.fst.snd.fst.length))
            (sel (decide (Int.ofNat v.fst.snd.fst.length ≤ Int.ofNat v.fst.snd.fst.length))
              (sel (decide (Int.ofNat v.fst.snd.fst.length ≤ Int.ofNat v.fst.snd.fst.length))
                (ocall
                  (G72 k
                    (List.drop (Int.toNat (1 : Int)) (List.take (Int.ofNat v.fst.snd.fst.length).toNat v.fst.snd.fst)))
                  fun (r_1 : List (List Int) × Unit) =>
                  some ((v.fst.fst, r_1.fst, ()), r.fst, (0 : Int), ()))
                none)
              none)
            none)
        none)) := by kernel_rfl
noncomputable def G16 (k : Nat) (v : Unit) : Option (Bool × Unit) := F16 k v
theorem G16_eq (k : Nat) (v : Unit) : G16 k v =
  ocall (G18 k ((2 : Int), ())) fun (r : (Int × List (List Int) × Unit) × Int × Unit) =>
  ocall (G21 k ((r.fst.fst, r.fst.snd.fst, ()), [[(97 : Int)], [(98 : Int)]], ()))
    fun (r_1 : (Int × List (List Int) × Unit) × Int × Unit) =>
    ocall (G21 k ((r_1.fst.fst, r_1.fst.snd.fst, ()), [[(99 : Int)]], ()))
      fun (r_2 : (Int × List (List Int) × Unit) × Int × Unit) =>
      ocall (G23 k ((r_1.fst.fst, r_1.fst.snd.fst, ()), ()))
        fun (r_3 : (Int × List (List Int) × Unit) × List Int × Int × Unit) =>
        sel (decide (r.snd.fst = (0 : Int)))
          (sel (decide (r_1.snd.fst = (0 : Int)))
            (sel (decide (r_2.snd.fst = (7 : Int)))
              (sel (decide (r_3.snd.snd.fst = (0 : Int)))
                (sel (decide (ofBytes r_3.snd.fst = [(97 : UInt8)]))
                  (ocall (G26 k ((r_3.fst.fst, r_3.fst.snd.fst, ()), ())) fun (r : Int × Unit) =>
                    sel (decide (r.fst = (1 : Int)))
                      (ocall (G26 k ((r_1.fst.fst, r_1.fst.snd.fst, ()), ())) fun (r : Int × Unit) =>
                        sel (decide (r.fst = (0 : Int)))
                          (ocall (G25 k ((r_3.fst.fst, r_3.fst.snd.fst, ()), ()))
                            fun (r : Bool × Unit) => some (r.fst, ()))
                          (some (false, ())))
                      (some (false, ())))
                  (some (false, ())))
                (some (false, ())))
              (some (false, ())))
            (some (false, ())))
          (some (false, ())) := by kernel_rfl
noncomputable def G17_2 (k : Nat) (j : Nat) (v : List (List Int) × Int × Unit) : Option
  (List (List Int) × Unit ⊕ Bool × Unit) := F17_2 k j v
theorem G17_2_eq (k : Nat) (j : Nat) (v : List (List Int) × Int × Unit) : G17_2 k (j + (1 : Nat)) v =
  sel (decide (v.snd.fst < Int.ofNat v.fst.length))
  (sel (decide (v.snd.fst < (300 : Int)))
    (sel (decide ((0 : Int) ≤ v.snd.fst))
      (sel (decide (v.snd.fst < Int.ofNat v.fst.length))
        (sel (decide ((3000 : Int) < Int.ofNat (List.length (v.fst.getD v.snd.fst.toNat []))))
          (some (Sum.inr (false, ())))
          (G17_2 k j (v.fst, Go.IntKind.i64.wrap (v.snd.fst + (1 : Int)), ())))
        none)
      none)
    (some (Sum.inl (v.fst, ()))))
  (some (Sum.inl (v.fst, ()))) := by kernel_rfl
noncomputable def G17 (k : Nat) (v : List (List Int) × Unit) : Option (Bool × Unit) := F17 k v
theorem G17_eq (k : Nat) (v : List (List Int) × Unit) : G17 k v =
  ocall (G17_2 k k (v.fst, (0 : Int), ())) fun (e : List (List Int) × Unit ⊕ Bool × Unit) =>
  esel e (fun (v : List (List Int) × Unit) => some (decide (Int.ofNat v.fst.length ≤ (300 : Int)), ()))
    fun (e : Bool × Unit) => some (e.fst, ()) := by kernel_rfl
noncomputable def G27_4 (k : Nat) (j : Nat) (v : List (List Int) × List (List Int) × Int × Unit) : Option
  (Unit ⊕ Bool × Unit) := F27_4 k j v
theorem G27_4_eq (k : Nat) (j : Nat) (v : List (List Int) × List (List Int) × Int × Unit) : G27_4 k (j + (1 : Nat)) v =
  sel (decide (v.snd.snd.fst < Int.ofNat v.fst.length))
  (sel (decide ((0 : Int) ≤ v.snd.snd.fst))
    (sel (decide (v.snd.snd.fst < Int.ofNat v.fst.length))
      (sel (decide ((0 : Int) ≤ v.snd.snd.fst))
        (sel (decide (v.snd.snd.fst < Int.ofNat v.snd.fst.length))
          (sel (!decide (ofBytes (v.fst.getD v.snd.snd.fst.toNat []) = ofBytes (v.snd.fst.getD v.snd.snd.fst.toNat [])))
            (some (Sum.inr (false, ())))
            (G27_4 k j (v.fst, v.snd.fst, Go.IntKind.i64.wrap (v.snd.snd.fst + (1 : Int)), ())))
          none)
        none)
      none)
    none)
  (some (Sum.inl ())) := by kernel_rfl
noncomputable def G27 (k : Nat) (v : List (List Int) × List (List Int) × Unit) : Option (Bool × Unit) := F27 k v
theorem G27_eq (k : Nat) (v : List (List Int) × List (List Int) × Unit) : G27 k v =
  sel (!decide (Int.ofNat v.fst.length = Int.ofNat v.snd.fst.length)) (some (false, ()))
  (ocall (G27_4 k k (v.fst, v.snd.fst, (0 : Int), ())) fun (e : Unit ⊕ Bool × Unit) =>
    esel e (fun (v : Unit) => some (true, ())) fun (e : Bool × Unit) =>
      some (e.fst, ())) := by kernel_rfl
noncomputable def G19 (k : Nat) (v : (Int × List (List Int) × Unit) × (Int × List (List Int) × Unit) × Unit) : Option
  (Bool × Unit) := F19 k v
theorem G19_eq (k : Nat) (v : (Int × List (List Int) × Unit) × (Int × List (List Int) × Unit) × Unit) : G19 k v =
  sel (decide (v.fst.fst = v.snd.fst.fst))
  (ocall (G27 k (v.fst.snd.fst, v.snd.fst.snd.fst, ())) fun (r : Bool × Unit) => some (r.fst, ()))
  (some (false, ())) := by kernel_rfl
noncomputable def G20 (k : Nat) (v : (Int × List (List Int) × Unit) × Unit) : Option (Bool × Unit) := F20 k v
theorem G20_eq (k : Nat) (v : (Int × List (List Int) × Unit) × Unit) : G20 k v =
  sel (decide ((0 : Int) < v.fst.fst))
  (sel (decide (v.fst.fst < (65 : Int))) (some (decide (Int.ofNat v.fst.snd.fst.length ≤ v.fst.fst), ()))
    (some (false, ())))
  (some (false, ())) := by kernel_rfl
noncomputable def G22 (k : Nat) (v : (Int × List (List Int) × Unit) × List (List Int) × Unit) : Option
  ((Int × List (List Int) × Unit) × Int × Unit) := F22 k v
theorem G22_eq (k : Nat) (v : (Int × List (List Int) × Unit) × List (List Int) × Unit) : G22 k v =
  ocall (G20 k ((v.fst.fst, v.fst.snd.fst, ()), ())) fun (r : Bool × Unit) =>
  sel (!r.fst) (some ((v.fst.fst, v.fst.snd.fst, ()), (1 : Int), ()))
    (sel (decide (v.fst.fst < Go.IntKind.i64.wrap (Int.ofNat v.fst.snd.fst.length + Int.ofNat v.snd.fst.length)))
      (some ((v.fst.fst, v.fst.snd.fst, ()), (7 : Int), ()))
      (sel (decide (((0 : Nat) + v.fst.snd.fst.length) * (24 : Nat) ≤ (140737488355328 : Nat)))
        (sel (decide ((v.fst.snd.fst.length + v.snd.fst.length) * (24 : Nat) ≤ (140737488355328 : Nat)))
          (some ((v.fst.fst, v.fst.snd.fst.append v.snd.fst, ()), (0 : Int), ())) none)
        none)) := by kernel_rfl
noncomputable def G24 (k : Nat) (v : (Int × List (List Int) × Unit) × Unit) : Option
  ((Int × List (List Int) × Unit) × List Int × Int × Unit) := F24 k v
theorem G24_eq (k : Nat) (v : (Int × List (List Int) × Unit) × Unit) : G24 k v =
  ocall (G20 k ((v.fst.fst, v.fst.snd.fst, ()), ())) fun (r : Bool × Unit) =>
  sel (!r.fst) (some ((v.fst.fst, v.fst.snd.fst, ()), [], (1 : Int), ()))
    (sel (decide (Int.ofNat v.fst.snd.fst.length = (0 : Int)))
      (some ((v.fst.fst, v.fst.snd.fst, ()), [], (5 : Int), ()))
      (sel (decide ((1 : Int) ≤ Int.ofNat v.fst.snd.fst.length))
        (sel (decide (Int.ofNat v.fst.snd.fst.length ≤ Int.ofNat v.fst.snd.fst.length))
          (sel (decide (Int.ofNat v.fst.snd.fst.length ≤ Int.ofNat v.fst.snd.fst.length))
            (sel (decide ((0 : Int) < Int.ofNat v.fst.snd.fst.length))
              (some
                ((v.fst.fst,
                    List.drop (Int.toNat (1 : Int)) (List.take (Int.ofNat v.fst.snd.fst.length).toNat v.fst.snd.fst),
                    ()),
                  v.fst.snd.fst.getD (Int.toNat (0 : Int)) [], (0 : Int), ()))
              none)
            none)
          none)
        none)) := by kernel_rfl
noncomputable def G3 (k : Nat) (v : (Int × List (List Int) × Unit) × List (List Int) × Int × Unit) : Option
  (Bool × Unit) := F3 k v
theorem G3_eq (k : Nat) (v : (Int × List (List Int) × Unit) × List (List Int) × Int × Unit) : G3 k v =
  ocall (G16 k ()) fun (r : Bool × Unit) =>
  sel (!r.fst) (some (false, ()))
    (ocall (G17 k (v.fst.snd.fst, ())) fun (r : Bool × Unit) =>
      sel (!r.fst) (some (true, ()))
        (ocall (G17 k (v.snd.fst, ())) fun (r : Bool × Unit) =>
          sel (!r.fst) (some (true, ()))
            (ocall (G18 k (v.snd.snd.fst, ())) fun (r : (Int × List (List Int) × Unit) × Int × Unit) =>
              sel (decide ((1 : Int) ≤ v.snd.snd.fst))
                (sel (decide (v.snd.snd.fst ≤ (64 : Int)))
                  (sel (!decide (r.snd.fst = (0 : Int))) (some (false, ()))
                    (ocall (G19 k ((r.fst.fst, r.fst.snd.fst, ()), (v.snd.snd.fst, [], ()), ()))
                      fun (r : Bool × Unit) =>
                      sel (!r.fst) (some (false, ()))
                        (ocall (G20 k ((v.fst.fst, v.fst.snd.fst, ()), ())) fun (r : Bool × Unit) =>
                          sel r.fst
                            (ocall (G21 k ((v.fst.fst, v.fst.snd.fst, ()), v.snd.fst, ()))
                              fun (r : (Int × List (List Int) × Unit) × Int × Unit) =>
                              ocall (G22 k ((v.fst.fst, v.fst.snd.fst, ()), v.snd.fst, ()))
                                fun (r_1 : (Int × List (List Int) × Unit) × Int × Unit) =>
                                ocall (G23 k ((v.fst.fst, v.fst.snd.fst, ()), ()))
                                  fun (r_2 : (Int × List (List Int) × Unit) × List Int × Int × Unit) =>
                                  ocall (G24 k ((v.fst.fst, v.fst.snd.fst, ()), ()))
                                    fun (r_3 : (Int × List (List Int) × Unit) × List Int × Int × Unit) =>
                                    ocall (G25 k ((v.fst.fst, v.fst.snd.fst, ()), ()))
                                      fun (r_4 : Bool × Unit) =>
                                      ocall (G20 k ((v.fst.fst, v.fst.snd.fst, ()), ()))
                                        fun (r_5 : Bool × Unit) =>
                                        sel (r_4.fst == r_5.fst)
                                          (ocall (G26 k ((v.fst.fst, v.fst.snd.fst, ()), ()))
                                            fun (r_6 : Int × Unit) =>
                                            sel
                                              (decide
                                                (r_6.fst =
                                                  Go.IntKind.i64.wrap (v.fst.fst - Int.ofNat v.fst.snd.fst.length)))
                                              (ocall
                                                (G19 k
                                                  ((r.fst.fst, r.fst.snd.fst, ()),
                                                    (r_1.fst.fst, r_1.fst.snd.fst, ()), ()))
                                                fun (r_7 : Bool × Unit) =>
                                                sel r_7.fst
                                                  (sel (decide (r.snd.fst = r_1.snd.fst))
                                                    (ocall
                                                      (G19 k
                                                        ((r_2.fst.fst, r_2.fst.snd.fst, ()),
                                                          (r_3.fst.fst, r_3.fst.snd.fst, ()), ()))
                                                      fun (r : Bool × Unit) =>
                                                      sel r.fst
                                                        (sel (decide (ofBytes r_2.snd.fst = ofBytes r_3.snd.fst))
                                                          (some
                                                            (decide (r_2.snd.snd.fst = r_3.snd.snd.fst), ()))
                                                          (some (false, ())))
                                                        (some (false, ())))
                                                    (some (false, ())))
                                                  (some (false, ())))
                                              (some (false, ())))
                                          (some (false, ())))
                            (ocall (G21 k ((v.fst.fst, v.fst.snd.fst, ()), v.snd.fst, ()))
                              fun (r : (Int × List (List Int) × Unit) × Int × Unit) =>
                              ocall (G22 k ((v.fst.fst, v.fst.snd.fst, ()), v.snd.fst, ()))
                                fun (r_1 : (Int × List (List Int) × Unit) × Int × Unit) =>
                                ocall (G23 k ((v.fst.fst, v.fst.snd.fst, ()), ()))
                                  fun (r_2 : (Int × List (List Int) × Unit) × List Int × Int × Unit) =>
                                  ocall (G24 k ((v.fst.fst, v.fst.snd.fst, ()), ()))
                                    fun (r_3 : (Int × List (List Int) × Unit) × List Int × Int × Unit) =>
                                    ocall (G25 k ((v.fst.fst, v.fst.snd.fst, ()), ()))
                                      fun (r_4 : Bool × Unit) =>
                                      ocall (G20 k ((v.fst.fst, v.fst.snd.fst, ()), ()))
                                        fun (r_5 : Bool × Unit) =>
                                        sel (r_4.fst == r_5.fst)
                                          (ocall (G26 k ((v.fst.fst, v.fst.snd.fst, ()), ()))
                                            fun (r_6 : Int × Unit) =>
                                            sel (decide (r_6.fst = (0 : Int)))
                                              (ocall
                                                (G19 k
                                                  ((r.fst.fst, r.fst.snd.fst, ()),
                                                    (r_1.fst.fst, r_1.fst.snd.fst, ()), ()))
                                                fun (r_7 : Bool × Unit) =>
                                                sel r_7.fst
                                                  (sel (decide (r.snd.fst = r_1.snd.fst))
                                                    (ocall
                                                      (G19 k
                                                        ((r_2.fst.fst, r_2.fst.snd.fst, ()),
                                                          (r_3.fst.fst, r_3.fst.snd.fst, ()), ()))
                                                      fun (r : Bool × Unit) =>
                                                      sel r.fst
                                                        (sel (decide (ofBytes r_2.snd.fst = ofBytes r_3.snd.fst))
                                                          (some
                                                            (decide (r_2.snd.snd.fst = r_3.snd.snd.fst), ()))
                                                          (some (false, ())))
                                                        (some (false, ())))
                                                    (some (false, ())))
                                                  (some (false, ())))
                                              (some (false, ())))
                                          (some (false, ()))))))
                  (sel (!decide (r.snd.fst = (1 : Int))) (some (false, ()))
                    (ocall (G19 k ((r.fst.fst, r.fst.snd.fst, ()), ((0 : Int), [], ()), ()))
                      fun (r : Bool × Unit) =>
                      sel (!r.fst) (some (false, ()))
                        (ocall (G20 k ((v.fst.fst, v.fst.snd.fst, ()), ())) fun (r : Bool × Unit) =>
                          sel r.fst
                            (ocall (G21 k ((v.fst.fst, v.fst.snd.fst, ()), v.snd.fst, ()))
                              fun (r : (Int × List (List Int) × Unit) × Int × Unit) =>
                              ocall (G22 k ((v.fst.fst, v.fst.snd.fst, ()), v.snd.fst, ()))
                                fun (r_1 : (Int × List (List Int) × Unit) × Int × Unit) =>
                                ocall (G23 k ((v.fst.fst, v.fst.snd.fst, ()), ()))
                                  fun (r_2 : (Int × List (List Int) × Unit) × List Int × Int × Unit) =>
                                  ocall (G24 k ((v.fst.fst, v.fst.snd.fst, ()), ()))
                                    fun (r_3 : (Int × List (List Int) × Unit) × List Int × Int × Unit) =>
                                    ocall (G25 k ((v.fst.fst, v.fst.snd.fst, ()), ()))
                                      fun (r_4 : Bool × Unit) =>
                                      ocall (G20 k ((v.fst.fst, v.fst.snd.fst, ()), ()))
                                        fun (r_5 : Bool × Unit) =>
                                        sel (r_4.fst == r_5.fst)
                                          (ocall (G26 k ((v.fst.fst, v.fst.snd.fst, ()), ()))
                                            fun (r_6 : Int × Unit) =>
                                            sel
                                              (decide
                                                (r_6.fst =
                                                  Go.IntKind.i64.wrap (v.fst.fst - Int.ofNat v.fst.snd.fst.length)))
                                              (ocall
                                                (G19 k
                                                  ((r.fst.fst, r.fst.snd.fst, ()),
                                                    (r_1.fst.fst, r_1.fst.snd.fst, ()), ()))
                                                fun (r_7 : Bool × Unit) =>
                                                sel r_7.fst
                                                  (sel (decide (r.snd.fst = r_1.snd.fst))
                                                    (ocall
                                                      (G19 k
                                                        ((r_2.fst.fst, r_2.fst.snd.fst, ()),
                                                          (r_3.fst.fst, r_3.fst.snd.fst, ()), ()))
                                                      fun (r : Bool × Unit) =>
                                                      sel r.fst
                                                        (sel (decide (ofBytes r_2.snd.fst = ofBytes r_3.snd.fst))
                                                          (some
                                                            (decide (r_2.snd.snd.fst = r_3.snd.snd.fst), ()))
                                                          (some (false, ())))
                                                        (some (false, ())))
                                                    (some (false, ())))
                                                  (some (false, ())))
                                              (some (false, ())))
                                          (some (false, ())))
                            (ocall (G21 k ((v.fst.fst, v.fst.snd.fst, ()), v.snd.fst, ()))
                              fun (r : (Int × List (List Int) × Unit) × Int × Unit) =>
                              ocall (G22 k ((v.fst.fst, v.fst.snd.fst, ()), v.snd.fst, ()))
                                fun (r_1 : (Int × List (List Int) × Unit) × Int × Unit) =>
                                ocall (G23 k ((v.fst.fst, v.fst.snd.fst, ()), ()))
                                  fun (r_2 : (Int × List (List Int) × Unit) × List Int × Int × Unit) =>
                                  ocall (G24 k ((v.fst.fst, v.fst.snd.fst, ()), ()))
                                    fun (r_3 : (Int × List (List Int) × Unit) × List Int × Int × Unit) =>
                                    ocall (G25 k ((v.fst.fst, v.fst.snd.fst, ()), ()))
                                      fun (r_4 : Bool × Unit) =>
                                      ocall (G20 k ((v.fst.fst, v.fst.snd.fst, ()), ()))
                                        fun (r_5 : Bool × Unit) =>
                                        sel (r_4.fst == r_5.fst)
                                          (ocall (G26 k ((v.fst.fst, v.fst.snd.fst, ()), ()))
                                            fun (r_6 : Int × Unit) =>
                                            sel (decide (r_6.fst = (0 : Int)))
                                              (ocall
                                                (G19 k
                                                  ((r.fst.fst, r.fst.snd.fst, ()),
                                                    (r_1.fst.fst, r_1.fst.snd.fst, ()), ()))
                                                fun (r_7 : Bool × Unit) =>
                                                sel r_7.fst
                                                  (sel (decide (r.snd.fst = r_1.snd.fst))
                                                    (ocall
                                                      (G19 k
                                                        ((r_2.fst.fst, r_2.fst.snd.fst, ()),
                                                          (r_3.fst.fst, r_3.fst.snd.fst, ()), ()))
                                                      fun (r : Bool × Unit) =>
                                                      sel r.fst
                                                        (sel (decide (ofBytes r_2.snd.fst = ofBytes r_3.snd.fst))
                                                          (some
                                                            (decide (r_2.snd.snd.fst = r_3.snd.snd.fst), ()))
                                                          (some (false, ())))
                                                        (some (false, ())))
                                                    (some (false, ())))
                                                  (some (false, ())))
                                              (some (false, ())))
                                          (some (false, ())))))))
                (sel (!decide (r.snd.fst = (1 : Int))) (some (false, ()))
                  (ocall (G19 k ((r.fst.fst, r.fst.snd.fst, ()), ((0 : Int), [], ()), ()))
                    fun (r : Bool × Unit) =>
                    sel (!r.fst) (some (false, ()))
                      (ocall (G20 k ((v.fst.fst, v.fst.snd.fst, ()), ())) fun (r : Bool × Unit) =>
                        sel r.fst
                          (ocall (G21 k ((v.fst.fst, v.fst.snd.fst, ()), v.snd.fst, ()))
                            fun (r : (Int × List (List Int) × Unit) × Int × Unit) =>
                            ocall (G22 k ((v.fst.fst, v.fst.snd.fst, ()), v.snd.fst, ()))
                              fun (r_1 : (Int × List (List Int) × Unit) × Int × Unit) =>
                              ocall (G23 k ((v.fst.fst, v.fst.snd.fst, ()), ()))
                                fun (r_2 : (Int × List (List Int) × Unit) × List Int × Int × Unit) =>
                                ocall (G24 k ((v.fst.fst, v.fst.snd.fst, ()), ()))
                                  fun (r_3 : (Int × List (List Int) × Unit) × List Int × Int × Unit) =>
                                  ocall (G25 k ((v.fst.fst, v.fst.snd.fst, ()), ()))
                                    fun (r_4 : Bool × Unit) =>
                                    ocall (G20 k ((v.fst.fst, v.fst.snd.fst, ()), ()))
                                      fun (r_5 : Bool × Unit) =>
                                      sel (r_4.fst == r_5.fst)
                                        (ocall (G26 k ((v.fst.fst, v.fst.snd.fst, ()), ()))
                                          fun (r_6 : Int × Unit) =>
                                          sel
                                            (decide
                                              (r_6.fst =
                                                Go.IntKind.i64.wrap (v.fst.fst - Int.ofNat v.fst.snd.fst.length)))
                                            (ocall
                                              (G19 k
                                                ((r.fst.fst, r.fst.snd.fst, ()),
                                                  (r_1.fst.fst, r_1.fst.snd.fst, ()), ()))
                                              fun (r_7 : Bool × Unit) =>
                                              sel r_7.fst
                                                (sel (decide (r.snd.fst = r_1.snd.fst))
                                                  (ocall
                                                    (G19 k
                                                      ((r_2.fst.fst, r_2.fst.snd.fst, ()),
                                                        (r_3.fst.fst, r_3.fst.snd.fst, ()), ()))
                                                    fun (r : Bool × Unit) =>
                                                    sel r.fst
                                                      (sel (decide (ofBytes r_2.snd.fst = ofBytes r_3.snd.fst))
                                                        (some (decide (r_2.snd.snd.fst = r_3.snd.snd.fst), ()))
                                                        (some (false, ())))
                                                      (some (false, ())))
                                                  (some (false, ())))
                                                (some (false, ())))
                                            (some (false, ())))
                                        (some (false, ())))
                          (ocall (G21 k ((v.fst.fst, v.fst.snd.fst, ()), v.snd.fst, ()))
                            fun (r : (Int × List (List Int) × Unit) × Int × Unit) =>
                            ocall (G22 k ((v.fst.fst, v.fst.snd.fst, ()), v.snd.fst, ()))
                              fun (r_1 : (Int × List (List Int) × Unit) × Int × Unit) =>
                              ocall (G23 k ((v.fst.fst, v.fst.snd.fst, ()), ()))
                                fun (r_2 : (Int × List (List Int) × Unit) × List Int × Int × Unit) =>
                                ocall (G24 k ((v.fst.fst, v.fst.snd.fst, ()), ()))
                                  fun (r_3 : (Int × List (List Int) × Unit) × List Int × Int × Unit) =>
                                  ocall (G25 k ((v.fst.fst, v.fst.snd.fst, ()), ()))
                                    fun (r_4 : Bool × Unit) =>
                                    ocall (G20 k ((v.fst.fst, v.fst.snd.fst, ()), ()))
                                      fun (r_5 : Bool × Unit) =>
                                      sel (r_4.fst == r_5.fst)
                                        (ocall (G26 k ((v.fst.fst, v.fst.snd.fst, ()), ()))
                                          fun (r_6 : Int × Unit) =>
                                          sel (decide (r_6.fst = (0 : Int)))
                                            (ocall
                                              (G19 k
                                                ((r.fst.fst, r.fst.snd.fst, ()),
                                                  (r_1.fst.fst, r_1.fst.snd.fst, ()), ()))
                                              fun (r_7 : Bool × Unit) =>
                                              sel r_7.fst
                                                (sel (decide (r.snd.fst = r_1.snd.fst))
                                                  (ocall
                                                    (G19 k
                                                      ((r_2.fst.fst, r_2.fst.snd.fst, ()),
                                                        (r_3.fst.fst, r_3.fst.snd.fst, ()), ()))
                                                    fun (r : Bool × Unit) =>
                                                    sel r.fst
                                                      (sel (decide (ofBytes r_2.snd.fst = ofBytes r_3.snd.fst))
                                                        (some (decide (r_2.snd.snd.fst = r_3.snd.snd.fst), ()))
                                                        (some (false, ())))
                                                      (some (false, ())))
                                                  (some (false, ())))
                                                (some (false, ())))
                                            (some (false, ())))
                                        (some (false, ()))))))))) := by kernel_rfl
noncomputable def G4_11 (k : Nat) (j : Nat) (v : List (List Int) × Int × Int × Int × Int × List (List Int) × Int × List (List Int) × Unit) : Option
  (List (List Int) × Int × Int × Int × List (List Int) × Int × List (List Int) × Unit ⊕ Bool × Unit) := F4_11 k j v
theorem G4_11_eq (k : Nat) (j : Nat) (v : List (List Int) × Int × Int × Int × Int × List (List Int) × Int × List (List Int) × Unit) : G4_11
  k (j + (1 : Nat)) v =
  sel (decide (v.snd.snd.snd.fst < Int.ofNat v.fst.length))
  (sel (decide ((0 : Int) ≤ v.snd.snd.snd.fst))
    (sel (decide (v.snd.snd.snd.fst < Int.ofNat v.fst.length))
      (ocall
        (G21 k
          ((v.snd.snd.snd.snd.fst, v.snd.snd.snd.snd.snd.fst, ()), [v.fst.getD v.snd.snd.snd.fst.toNat []],
            ()))
        fun (r : (Int × List (List Int) × Unit) × Int × Unit) =>
        sel (!decide (r.snd.fst = (0 : Int)) == decide (v.snd.snd.fst < v.snd.snd.snd.snd.fst))
          (some (Sum.inr (false, ())))
          (ocall (G25 k ((r.fst.fst, r.fst.snd.fst, ()), ())) fun (r_1 : Bool × Unit) =>
            sel (!r_1.fst) (some (Sum.inr (false, ())))
              (sel (!decide (r.snd.fst = (0 : Int)))
                (sel (!decide (r.snd.fst = (7 : Int))) (some (Sum.inr (false, ())))
                  (sel (decide (r.snd.fst = (0 : Int)))
                    (G4_11 k j
                      (v.fst, v.snd.fst, Go.IntKind.i64.wrap (v.snd.snd.fst + (1 : Int)),
                        Go.IntKind.i64.wrap (v.snd.snd.snd.fst + (1 : Int)), r.fst.fst, r.fst.snd.fst,
                        v.snd.snd.snd.snd.snd.snd.fst, v.snd.snd.snd.snd.snd.snd.snd.fst, ()))
                    (G4_11 k j
                      (v.fst, v.snd.fst, v.snd.snd.fst, Go.IntKind.i64.wrap (v.snd.snd.snd.fst + (1 : Int)), r.fst.fst,
                        r.fst.snd.fst, v.snd.snd.snd.snd.snd.snd.fst, v.snd.snd.snd.snd.snd.snd.snd.fst, ()))))
                (sel (decide (r.snd.fst = (0 : Int)))
                  (G4_11 k j
                    (v.fst, v.snd.fst, Go.IntKind.i64.wrap (v.snd.snd.fst + (1 : Int)),
                      Go.IntKind.i64.wrap (v.snd.snd.snd.fst + (1 : Int)), r.fst.fst, r.fst.snd.fst,
                      v.snd.snd.snd.snd.snd.snd.fst, v.snd.snd.snd.snd.snd.snd.snd.fst, ()))
                  (G4_11 k j
                    (v.fst, v.snd.fst, v.snd.snd.fst, Go.IntKind.i64.wrap (v.snd.snd.snd.fst + (1 : Int)), r.fst.fst,
                      r.fst.snd.fst, v.snd.snd.snd.snd.snd.snd.fst, v.snd.snd.snd.snd.snd.snd.snd.fst, ()))))))
      none)
    none)
  (some
    (Sum.inl
      (v.fst, v.snd.fst, v.snd.snd.fst, v.snd.snd.snd.snd.fst, v.snd.snd.snd.snd.snd.fst, v.snd.snd.snd.snd.snd.snd.fst,
        v.snd.snd.snd.snd.snd.snd.snd.fst, ()))) := by kernel_rfl
noncomputable def G4_23 (k : Nat) (j : Nat) (v : List (List Int) × Int × List (List Int) × Int × Int × List (List Int) × Unit) : Option
  (List (List Int) × Int × List (List Int) × Int × List (List Int) × Unit ⊕ Bool × Unit) := F4_23 k j v
theorem G4_23_eq (k : Nat) (j : Nat) (v : List (List Int) × Int × List (List Int) × Int × Int × List (List Int) × Unit) : G4_23
  k (j + (1 : Nat)) v =
  sel (decide (v.snd.snd.snd.fst < v.snd.fst))
  (ocall (G23 k ((v.snd.snd.snd.snd.fst, v.snd.snd.snd.snd.snd.fst, ()), ()))
    fun (r : (Int × List (List Int) × Unit) × List Int × Int × Unit) =>
    sel (!decide (r.snd.snd.fst = (0 : Int))) (some (Sum.inr (false, ())))
      (ocall (G26 k ((r.fst.fst, r.fst.snd.fst, ()), ())) fun (r_1 : Int × Unit) =>
        ocall (G26 k ((v.snd.snd.snd.snd.fst, v.snd.snd.snd.snd.snd.fst, ()), ()))
          fun (r_2 : Int × Unit) =>
          sel (!decide (r_1.fst = Go.IntKind.i64.wrap (r_2.fst + (1 : Int)))) (some (Sum.inr (false, ())))
            (sel (decide ((v.snd.snd.fst.length + (1 : Nat)) * (24 : Nat) ≤ (140737488355328 : Nat)))
              (G4_23 k j
                (v.fst, v.snd.fst, v.snd.snd.fst.append [r.snd.fst],
                  Go.IntKind.i64.wrap (v.snd.snd.snd.fst + (1 : Int)), r.fst.fst, r.fst.snd.fst, ()))
              none)))
  (some
    (Sum.inl
      (v.fst, v.snd.fst, v.snd.snd.fst, v.snd.snd.snd.snd.fst, v.snd.snd.snd.snd.snd.fst, ()))) := by kernel_rfl
noncomputable def G4 (k : Nat) (v : Int × List (List Int) × Unit) : Option (Bool × Unit) := F4 k v
theorem G4_eq (k : Nat) (v : Int × List (List Int) × Unit) : G4 k v =
  ocall (G16 k ()) fun (r : Bool × Unit) =>
  sel (!r.fst) (some (false, ()))
    (sel (decide ((100 : Int) < Int.ofNat v.snd.fst.length)) (some (true, ()))
      (ocall (G17 k (v.snd.fst, ())) fun (r : Bool × Unit) =>
        sel (!r.fst) (some (true, ()))
          (ocall (G18 k (Go.IntKind.i64.wrap ((Go.IntKind.i64.wrap v.fst).tmod (64 : Int) + (1 : Int)), ()))
            fun (r : (Int × List (List Int) × Unit) × Int × Unit) =>
            sel (!decide (r.snd.fst = (0 : Int))) (some (false, ()))
              (ocall (G21 k ((r.fst.fst, r.fst.snd.fst, ()), v.snd.fst, ()))
                fun (r_1 : (Int × List (List Int) × Unit) × Int × Unit) =>
                ocall
                  (G4_11 k k
                    (v.snd.fst, r_1.snd.fst, (0 : Int), (0 : Int), r.fst.fst, r.fst.snd.fst, r_1.fst.fst,
                      r_1.fst.snd.fst, ()))
                  fun
                    (e :
                      List (List Int) × Int × Int × Int × List (List Int) × Int × List (List Int) × Unit ⊕
                        Bool × Unit) =>
                  esel e
                    (fun (v : List (List Int) × Int × Int × Int × List (List Int) × Int × List (List Int) × Unit) =>
                      sel (!decide (v.snd.fst = (0 : Int)) == decide (Int.ofNat v.fst.length ≤ v.snd.snd.snd.fst))
                        (some (false, ()))
                        (sel (decide (v.snd.fst = (0 : Int)))
                          (ocall
                            (G19 k
                              ((v.snd.snd.snd.snd.snd.fst, v.snd.snd.snd.snd.snd.snd.fst, ()),
                                (v.snd.snd.snd.fst, v.snd.snd.snd.snd.fst, ()), ()))
                            fun (r : Bool × Unit) =>
                            sel (!r.fst) (some (false, ()))
                              (ocall
                                (G4_23 k k
                                  (v.fst, v.snd.snd.fst, [], (0 : Int), v.snd.snd.snd.fst, v.snd.snd.snd.snd.fst,
                                    ()))
                                fun
                                  (e :
                                    List (List Int) × Int × List (List Int) × Int × List (List Int) × Unit ⊕
                                      Bool × Unit) =>
                                esel e
                                  (fun (v : List (List Int) × Int × List (List Int) × Int × List (List Int) × Unit) =>
                                    ocall (G23 k ((v.snd.snd.snd.fst, v.snd.snd.snd.snd.fst, ()), ()))
                                      fun (r : (Int × List (List Int) × Unit) × List Int × Int × Unit) =>
                                      sel (decide (r.snd.snd.fst = (5 : Int)))
                                        (sel (decide (Int.ofNat (0 : Nat) ≤ v.snd.fst))
                                          (sel (decide (v.snd.fst ≤ Int.ofNat v.fst.length))
                                            (sel (decide (Int.ofNat v.fst.length ≤ Int.ofNat v.fst.length))
                                              (ocall
                                                (G27 k
                                                  (v.snd.snd.fst,
                                                    List.drop (Int.ofNat (0 : Nat)).toNat
                                                      (List.take v.snd.fst.toNat v.fst),
                                                    ()))
                                                fun (r : Bool × Unit) => some (r.fst, ()))
                                              none)
                                            none)
                                          none)
                                        (some (false, ())))
                                  fun (e : Bool × Unit) => some (e.fst, ())))
                          (ocall
                            (G4_23 k k
                              (v.fst, v.snd.snd.fst, [], (0 : Int), v.snd.snd.snd.fst, v.snd.snd.snd.snd.fst,
                                ()))
                            fun
                              (e :
                                List (List Int) × Int × List (List Int) × Int × List (List Int) × Unit ⊕
                                  Bool × Unit) =>
                            esel e
                              (fun (v : List (List Int) × Int × List (List Int) × Int × List (List Int) × Unit) =>
                                ocall (G23 k ((v.snd.snd.snd.fst, v.snd.snd.snd.snd.fst, ()), ()))
                                  fun (r : (Int × List (List Int) × Unit) × List Int × Int × Unit) =>
                                  sel (decide (r.snd.snd.fst = (5 : Int)))
                                    (sel (decide (Int.ofNat (0 : Nat) ≤ v.snd.fst))
                                      (sel (decide (v.snd.fst ≤ Int.ofNat v.fst.length))
                                        (sel (decide (Int.ofNat v.fst.length ≤ Int.ofNat v.fst.length))
                                          (ocall
                                            (G27 k
                                              (v.snd.snd.fst,
                                                List.drop (Int.ofNat (0 : Nat)).toNat (List.take v.snd.fst.toNat v.fst),
                                                ()))
                                            fun (r : Bool × Unit) => some (r.fst, ()))
                                          none)
                                        none)
                                      none)
                                    (some (false, ())))
                              fun (e : Bool × Unit) => some (e.fst, ()))))
                    fun (e : Bool × Unit) => some (e.fst, ()))))) := by kernel_rfl
end Go.Proofs.Ythglkecbfakmpaa.G
