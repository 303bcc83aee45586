/- What each function's run comes to, as a plain function. -/
import Derived.Test.YtjgnpmdbkgeakaaG
import Derived.KernelRfl
set_option maxRecDepth 1000000
set_option linter.unusedVariables false
set_option linter.unusedSimpArgs false
namespace Go.Proofs.Ytjgnpmdbkgeakaa.G
open Go Go.Proofs.Ytjgnpmdbkgeakaa Th
noncomputable def G10_2 (k : Nat) (j : Nat) (v : Int × List (Int × Int × Int × Unit) × Int × Int × Int × Int × Int × Unit) : Option
  (Int × Int × Int × Unit ⊕ Bool × Int × Int × Int × Unit) := F10_2 k j v
theorem G10_2_eq (k : Nat) (j : Nat) (v : Int × List (Int × Int × Int × Unit) × Int × Int × Int × Int × Int × Unit) : G10_2
  k (j + (1 : Nat)) v =
  sel (decide (v.snd.snd.snd.fst < v.snd.snd.fst))
  (sel (decide ((0 : Int) ≤ v.snd.snd.snd.fst))
    (sel (decide (v.snd.snd.snd.fst < Int.ofNat v.snd.fst.length))
      (sel (decide (v.snd.snd.snd.fst.toNat < v.snd.fst.length))
        (sel
          (decide
            ((v.snd.fst.getD v.snd.snd.snd.fst.toNat
                  (OfNat.ofNat (0 : Nat), OfNat.ofNat (0 : Nat), OfNat.ofNat (0 : Nat), ())).fst =
              v.fst))
          (some
            (Sum.inr
              (true,
                (v.snd.fst.getD v.snd.snd.snd.fst.toNat
                    (OfNat.ofNat (0 : Nat), OfNat.ofNat (0 : Nat), OfNat.ofNat (0 : Nat), ())).fst,
                (v.snd.fst.getD v.snd.snd.snd.fst.toNat
                      (OfNat.ofNat (0 : Nat), OfNat.ofNat (0 : Nat), OfNat.ofNat (0 : Nat), ())).snd.fst,
                (v.snd.fst.getD v.snd.snd.snd.fst.toNat
                        (OfNat.ofNat (0 : Nat), OfNat.ofNat (0 : Nat), OfNat.ofNat (0 : Nat), ())).snd.snd.fst,
                ())))
          (G10_2 k j
            (v.fst, v.snd.fst, v.snd.snd.fst, Go.IntKind.i64.wrap (v.snd.snd.snd.fst + (1 : Int)),
              v.snd.snd.snd.snd.fst, v.snd.snd.snd.snd.snd.fst, v.snd.snd.snd.snd.snd.snd.fst, ())))
        none)
      none)
    none)
  (some
    (Sum.inl
      (v.snd.snd.snd.snd.fst, v.snd.snd.snd.snd.snd.fst, v.snd.snd.snd.snd.snd.snd.fst, ()))) := by kernel_rfl
noncomputable def G10 (k : Nat) (v : Int × Unit) : Option ((Int × Int × Int × Unit) × Bool × Unit) := F10 k v
theorem G10_eq (k : Nat) (v : Int × Unit) : G10 k v =
  ocall
  (G10_2 k k
    (v.fst,
      [((2 : Int), (3 : Int), (19 : Int), ()), ((3 : Int), (1 : Int), (6 : Int), ()),
        ((4 : Int), (1 : Int), (12 : Int), ()), ((7 : Int), (1 : Int), (10 : Int), ()),
        ((11 : Int), (1 : Int), (6 : Int), ()), ((12 : Int), (1 : Int), (6 : Int), ()),
        ((37 : Int), (2 : Int), (12 : Int), ()), ((38 : Int), (2 : Int), (6 : Int), ()),
        ((39 : Int), (2 : Int), (2 : Int), ()), ((41 : Int), (2 : Int), (8 : Int), ()),
        ((44 : Int), (4 : Int), (25 : Int), ()), ((48 : Int), (5 : Int), (999 : Int), ()),
        ((49 : Int), (1 : Int), (3 : Int), ()), ((90 : Int), (1 : Int), (42 : Int), ()),
        ((120 : Int), (5 : Int), (999 : Int), ())],
      Int.ofNat (15 : Nat), (0 : Int), (0 : Int), (0 : Int), (0 : Int), ()))
  fun (e : Int × Int × Int × Unit ⊕ Bool × Int × Int × Int × Unit) =>
  esel e (fun (v : Int × Int × Int × Unit) => some (((0 : Int), (0 : Int), (0 : Int), ()), false, ()))
    fun (e : Bool × Int × Int × Int × Unit) =>
    some ((e.snd.fst, e.snd.snd.fst, e.snd.snd.snd.fst, ()), e.fst, ()) := by kernel_rfl
noncomputable def G30 (k : Nat) (v : (Int × Int × Int × Unit) × Unit) : Option
  ((Int × Int × Unit) × Unit ⊕ (Int × Unit) × Unit) := F30 k v
theorem G30_eq (k : Nat) (v : (Int × Int × Int × Unit) × Unit) : G30 k v =
  sel (decide (v.fst.snd.fst = (3 : Int)))
  (sel (decide (v.fst.snd.fst = (3 : Int))) (some (Sum.inl (((2 : Int), v.fst.snd.snd.fst, ()), ())))
    (sel (decide (v.fst.snd.fst = (5 : Int))) (some (Sum.inl (((3 : Int), v.fst.snd.snd.fst, ()), ())))
      (some (Sum.inr ((v.fst.snd.snd.fst, ()), ())))))
  (sel (decide (v.fst.snd.fst = (4 : Int))) (some (Sum.inl (((2 : Int), v.fst.snd.snd.fst, ()), ())))
    (sel (decide (v.fst.snd.fst = (5 : Int))) (some (Sum.inl (((3 : Int), v.fst.snd.snd.fst, ()), ())))
      (some (Sum.inr ((v.fst.snd.snd.fst, ()), ()))))) := by kernel_rfl
noncomputable def G87 (k : Nat) (v : (Int × Int × Unit) × Int × Unit) : Option (Bool × Unit) := F87 k v
theorem G87_eq (k : Nat) (v : (Int × Int × Unit) × Int × Unit) : G87 k v =
  sel (decide ((1 : Int) ≤ v.snd.fst)) (some (decide (v.snd.fst ≤ v.fst.snd.fst), ()))
  (some (false, ())) := by kernel_rfl
noncomputable def G89 (k : Nat) (v : (Int × Unit) × Int × Unit) : Option (Bool × Unit) := F89 k v
theorem G89_eq (k : Nat) (v : (Int × Unit) × Int × Unit) : G89 k v =
  some (decide (v.snd.fst = v.fst.fst), ()) := by kernel_rfl
noncomputable def G50_g0 (k : Nat) (j : Nat) (v : List UInt8 × Int × Unit) : Option (Bool × Unit) := F50_g0 k j v
theorem G50_g0_eq (k : Nat) (j : Nat) (v : List UInt8 × Int × Unit) : G50_g0 k (j + (1 : Nat)) v =
  sel (decide (v.snd.fst = Int.ofNat v.fst.length)) (some (decide ((0 : Int) < v.snd.fst), ()))
  (sel (decide ((0 : Int) ≤ v.snd.fst))
    (sel (decide (v.snd.fst < Int.ofNat v.fst.length))
      (sel (decide (Int.ofNat (v.fst.getD v.snd.fst.toNat (0 : UInt8)).toNat < (48 : Int))) (some (false, ()))
        (sel (decide ((0 : Int) ≤ v.snd.fst))
          (sel (decide (v.snd.fst < Int.ofNat v.fst.length))
            (sel (decide ((57 : Int) < Int.ofNat (v.fst.getD v.snd.fst.toNat (0 : UInt8)).toNat))
              (some (false, ())) (G50_g0 k j (v.fst, Go.IntKind.i64.wrap (v.snd.fst + (1 : Int)), ())))
            none)
          none))
      none)
    none) := by kernel_rfl
noncomputable def G50 (k : Nat) (v : List UInt8 × Unit) : Option (Bool × Unit) := F50 k v
theorem G50_eq (k : Nat) (v : List UInt8 × Unit) : G50 k v =
  sel (decide ((0 : Int) = Int.ofNat v.fst.length)) (some (false, ()))
  (sel (decide ((0 : Int) < Int.ofNat v.fst.length))
    (sel (decide (Int.ofNat (v.fst.getD (Int.toNat (0 : Int)) (0 : UInt8)).toNat < (48 : Int)))
      (some (false, ()))
      (sel (decide ((0 : Int) < Int.ofNat v.fst.length))
        (sel (decide ((57 : Int) < Int.ofNat (v.fst.getD (Int.toNat (0 : Int)) (0 : UInt8)).toNat))
          (some (false, ()))
          (ocall (G50_g0 k k (v.fst, Go.IntKind.i64.wrap ((0 : Int) + (1 : Int)), ())) fun (e : Bool × Unit) =>
            some (e.fst, ())))
        none))
    none) := by kernel_rfl
noncomputable def G33 (k : Nat) (v : (Int × Int × Int × Unit) × List UInt8 × Unit) : Option (Bool × Unit) := F33 k v
theorem G33_eq (k : Nat) (v : (Int × Int × Int × Unit) × List UInt8 × Unit) : G33 k v =
  sel (decide (v.snd.fst.length ≤ (9223372036854775807 : Nat)))
  (ocall (G50 k (v.snd.fst, ())) fun (r : Bool × Unit) =>
    some (Signs.signsOf v.fst.snd.fst r.fst v.snd.fst, ()))
  none := by kernel_rfl
noncomputable def G14 (k : Nat) (v : Int × List UInt8 × Unit) : Option (Bool × Unit) := F14 k v
theorem G14_eq (k : Nat) (v : Int × List UInt8 × Unit) : G14 k v =
  ocall (G10 k (v.fst, ())) fun (r : (Int × Int × Int × Unit) × Bool × Unit) =>
  sel r.snd.fst
    (ocall (G30 k ((r.fst.fst, r.fst.snd.fst, r.fst.snd.snd.fst, ()), ()))
      fun (r_1 : (Int × Int × Unit) × Unit ⊕ (Int × Unit) × Unit) =>
      esel r_1
        (fun (v_1 : (Int × Int × Unit) × Unit) =>
          ocall (G87 k ((v_1.fst.fst, v_1.fst.snd.fst, ()), Int.ofNat v.snd.fst.length, ()))
            fun (r_2 : Bool × Unit) =>
            sel r_2.fst
              (ocall (G33 k ((r.fst.fst, r.fst.snd.fst, r.fst.snd.snd.fst, ()), v.snd.fst, ()))
                fun (r : Bool × Unit) => some (r.fst, ()))
              (some (false, ())))
        fun (e : (Int × Unit) × Unit) =>
        ocall (G89 k ((e.fst.fst, ()), Int.ofNat v.snd.fst.length, ())) fun (r_2 : Bool × Unit) =>
          sel r_2.fst
            (ocall (G33 k ((r.fst.fst, r.fst.snd.fst, r.fst.snd.snd.fst, ()), v.snd.fst, ()))
              fun (r : Bool × Unit) => some (r.fst, ()))
            (some (false, ())))
    (some (false, ())) := by kernel_rfl
noncomputable def G86 (k : Nat) (v : (Int × Int × Unit) × Unit) : Option (Int × Unit) := F86 k v
theorem G86_eq (k : Nat) (v : (Int × Int × Unit) × Unit) : G86 k v =
  some (v.fst.fst, ()) := by kernel_rfl
noncomputable def G88 (k : Nat) (v : (Int × Unit) × Unit) : Option (Int × Unit) := F88 k v
theorem G88_eq (k : Nat) (v : (Int × Unit) × Unit) : G88 k v =
  some ((0 : Int), ()) := by kernel_rfl
noncomputable def G31_5 (k : Nat) (j : Nat) (v : Int × List Int × Int × Unit) : Option
  (Int × List Int × Unit) := F31_5 k j v
theorem G31_5_eq (k : Nat) (j : Nat) (v : Int × List Int × Int × Unit) : G31_5 k (j + (1 : Nat)) v =
  sel (decide ((0 : Int) ≤ v.snd.snd.fst))
  (sel (decide ((0 : Int) ≤ v.snd.snd.fst))
    (sel (decide (v.snd.snd.fst < Int.ofNat v.snd.fst.length))
      (sel (decide (v.snd.snd.fst.toNat < v.snd.fst.length))
        (G31_5 k j
          (Go.IntKind.u64.wrap (v.fst.tdiv (10 : Int)),
            v.snd.fst.set v.snd.snd.fst.toNat
              (Go.IntKind.u8.wrap ((48 : Int) + Go.IntKind.u8.wrap (v.fst.tmod (10 : Int)))),
            Go.IntKind.i64.wrap (v.snd.snd.fst - (1 : Int)), ()))
        none)
      none)
    none)
  (some (v.fst, v.snd.fst, ())) := by kernel_rfl
noncomputable def G31 (k : Nat) (v : Int × Int × Unit) : Option (List UInt8 × Int × Unit) := F31 k v
theorem G31_eq (k : Nat) (v : Int × Int × Unit) : G31 k v =
  sel (decide (v.snd.fst < (1 : Int))) (some ([], (1 : Int), ()))
  (sel (decide ((19 : Int) < v.snd.fst)) (some ([], (1 : Int), ()))
    (sel (decide ((0 : Int) ≤ v.snd.fst))
      (sel (decide (v.snd.fst ≤ v.snd.fst))
        (sel (decide (v.snd.fst ≤ (140737488355328 : Int)))
          (sel (decide (v.snd.fst * Int.ofNat (1 : Nat) ≤ (140737488355328 : Int)))
            (ocall
              (G31_5 k k
                (v.fst, List.replicate v.snd.fst.toNat (OfNat.ofNat (0 : Nat)),
                  Go.IntKind.i64.wrap (v.snd.fst - (1 : Int)), ()))
              fun (e : Int × List Int × Unit) =>
              sel (decide ((0 : Int) < e.fst)) (some ([], (10 : Int), ()))
                (some (ofBytes e.snd.fst, (0 : Int), ())))
            none)
          none)
        none)
      none)) := by kernel_rfl
noncomputable def G12 (k : Nat) (v : Int × List UInt8 × Unit) : Option (List Int × Int × Unit) := F12 k v
theorem G12_eq (k : Nat) (v : Int × List UInt8 × Unit) : G12 k v =
  ocall (G10 k (v.fst, ())) fun (r : (Int × Int × Int × Unit) × Bool × Unit) =>
  sel (!r.snd.fst) (some ([], (5 : Int), ()))
    (ocall (G14 k (v.fst, v.snd.fst, ())) fun (r_1 : Bool × Unit) =>
      sel (!r_1.fst) (some ([], (1 : Int), ()))
        (ocall (G30 k ((r.fst.fst, r.fst.snd.fst, r.fst.snd.snd.fst, ()), ()))
          fun (r : (Int × Int × Unit) × Unit ⊕ (Int × Unit) × Unit) =>
          esel r
            (fun (v_1 : (Int × Int × Unit) × Unit) =>
              ocall (G86 k ((v_1.fst.fst, v_1.fst.snd.fst, ()), ())) fun (r : Int × Unit) =>
                sel (decide ((0 : Int) < r.fst))
                  (ocall (G31 k (Go.IntKind.u64.wrap (Int.ofNat v.snd.fst.length), r.fst, ()))
                    fun (r : List UInt8 × Int × Unit) =>
                    sel (decide (r.fst.length + v.snd.fst.length ≤ (140737488355328 : Nat)))
                      (some (toBytes (r.fst.append v.snd.fst), (0 : Int), ())) none)
                  (some (toBytes v.snd.fst, (0 : Int), ())))
            fun (e : (Int × Unit) × Unit) =>
            ocall (G88 k ((e.fst.fst, ()), ())) fun (r : Int × Unit) =>
              sel (decide ((0 : Int) < r.fst))
                (ocall (G31 k (Go.IntKind.u64.wrap (Int.ofNat v.snd.fst.length), r.fst, ()))
                  fun (r : List UInt8 × Int × Unit) =>
                  sel (decide (r.fst.length + v.snd.fst.length ≤ (140737488355328 : Nat)))
                    (some (toBytes (r.fst.append v.snd.fst), (0 : Int), ())) none)
                (some (toBytes v.snd.fst, (0 : Int), ())))) := by kernel_rfl
noncomputable def G52_9 (k : Nat) (j : Nat) (v : Int × List Int × Int × Int × Unit) : Option
  (Int × Unit) := F52_9 k j v
theorem G52_9_eq (k : Nat) (j : Nat) (v : Int × List Int × Int × Int × Unit) : G52_9 k (j + (1 : Nat)) v =
  sel (decide (v.snd.snd.snd.fst < v.snd.snd.fst))
  (sel (decide ((0 : Int) ≤ v.snd.snd.snd.fst))
    (sel (decide (v.snd.snd.snd.fst < Int.ofNat v.snd.fst.length))
      (sel (decide (v.snd.snd.snd.fst.toNat < v.snd.fst.length))
        (G52_9 k j
          (Go.IntKind.u64.wrap
              (Go.IntKind.u64.wrap ((10 : Int) * v.fst) +
                Go.IntKind.u64.wrap
                  (Go.IntKind.u8.wrap (v.snd.fst.getD v.snd.snd.snd.fst.toNat (OfNat.ofNat (0 : Nat)) - (48 : Int)))),
            v.snd.fst, v.snd.snd.fst, Go.IntKind.i64.wrap (v.snd.snd.snd.fst + (1 : Int)), ()))
        none)
      none)
    none)
  (some (v.fst, ())) := by kernel_rfl
noncomputable def G52 (k : Nat) (v : List UInt8 × Unit) : Option (Int × Int × Unit) := F52 k v
theorem G52_eq (k : Nat) (v : List UInt8 × Unit) : G52 k v =
  sel (decide (v.fst = [])) (some ((0 : Int), (2 : Int), ()))
  (sel (decide ((19 : Int) < Int.ofNat v.fst.length)) (some ((0 : Int), (4 : Int), ()))
    (ocall (G50 k (v.fst, ())) fun (r : Bool × Unit) =>
      sel (!r.fst) (some ((0 : Int), (3 : Int), ()))
        (ocall (G52_9 k k ((0 : Int), toBytes v.fst, Int.ofNat (toBytes v.fst).length, (0 : Int), ()))
          fun (e : Int × Unit) => some (e.fst, (0 : Int), ())))) := by kernel_rfl
noncomputable def G36 (k : Nat) (v : (Int × Int × Int × Unit) × List Int × Unit) : Option
  (Int × Int × Unit) := F36 k v
theorem G36_eq (k : Nat) (v : (Int × Int × Int × Unit) × List Int × Unit) : G36 k v =
  ocall (G30 k ((v.fst.fst, v.fst.snd.fst, v.fst.snd.snd.fst, ()), ()))
  fun (r : (Int × Int × Unit) × Unit ⊕ (Int × Unit) × Unit) =>
  esel r
    (fun (v_1 : (Int × Int × Unit) × Unit) =>
      ocall (G86 k ((v_1.fst.fst, v_1.fst.snd.fst, ()), ())) fun (r : Int × Unit) =>
        sel (decide (r.fst = (0 : Int))) (some (v.fst.snd.snd.fst, (0 : Int), ()))
          (sel (decide (Int.ofNat v.snd.fst.length < r.fst)) (some ((0 : Int), (2 : Int), ()))
            (sel (decide (Int.ofNat (0 : Nat) ≤ r.fst))
              (sel (decide (r.fst ≤ Int.ofNat v.snd.fst.length))
                (sel (decide (Int.ofNat v.snd.fst.length ≤ Int.ofNat v.snd.fst.length))
                  (ocall
                    (G52 k
                      (ofBytes (List.drop (Int.ofNat (0 : Nat)).toNat (List.take r.fst.toNat v.snd.fst)), ()))
                    fun (r : Int × Int × Unit) =>
                    sel (!decide (r.snd.fst = (0 : Int)))
                      (sel (!decide (r.snd.fst = (0 : Int))) (some ((0 : Int), (3 : Int), ()))
                        (sel (decide (Go.IntKind.u64.wrap v.fst.snd.snd.fst < r.fst))
                          (some ((0 : Int), (4 : Int), ()))
                          (some (Go.IntKind.i64.wrap r.fst, (0 : Int), ()))))
                      (sel (decide (r.fst = (0 : Int))) (some ((0 : Int), (3 : Int), ()))
                        (sel (decide (Go.IntKind.u64.wrap v.fst.snd.snd.fst < r.fst))
                          (some ((0 : Int), (4 : Int), ()))
                          (some (Go.IntKind.i64.wrap r.fst, (0 : Int), ())))))
                  none)
                none)
              none)))
    fun (e : (Int × Unit) × Unit) =>
    ocall (G88 k ((e.fst.fst, ()), ())) fun (r : Int × Unit) =>
      sel (decide (r.fst = (0 : Int))) (some (v.fst.snd.snd.fst, (0 : Int), ()))
        (sel (decide (Int.ofNat v.snd.fst.length < r.fst)) (some ((0 : Int), (2 : Int), ()))
          (sel (decide (Int.ofNat (0 : Nat) ≤ r.fst))
            (sel (decide (r.fst ≤ Int.ofNat v.snd.fst.length))
              (sel (decide (Int.ofNat v.snd.fst.length ≤ Int.ofNat v.snd.fst.length))
                (ocall
                  (G52 k
                    (ofBytes (List.drop (Int.ofNat (0 : Nat)).toNat (List.take r.fst.toNat v.snd.fst)), ()))
                  fun (r : Int × Int × Unit) =>
                  sel (!decide (r.snd.fst = (0 : Int)))
                    (sel (!decide (r.snd.fst = (0 : Int))) (some ((0 : Int), (3 : Int), ()))
                      (sel (decide (Go.IntKind.u64.wrap v.fst.snd.snd.fst < r.fst))
                        (some ((0 : Int), (4 : Int), ()))
                        (some (Go.IntKind.i64.wrap r.fst, (0 : Int), ()))))
                    (sel (decide (r.fst = (0 : Int))) (some ((0 : Int), (3 : Int), ()))
                      (sel (decide (Go.IntKind.u64.wrap v.fst.snd.snd.fst < r.fst))
                        (some ((0 : Int), (4 : Int), ()))
                        (some (Go.IntKind.i64.wrap r.fst, (0 : Int), ())))))
                none)
              none)
            none)) := by kernel_rfl
noncomputable def G16 (k : Nat) (v : Int × List Int × Unit) : Option (List UInt8 × Int × Int × Unit) := F16 k v
theorem G16_eq (k : Nat) (v : Int × List Int × Unit) : G16 k v =
  ocall (G10 k (v.fst, ())) fun (r : (Int × Int × Int × Unit) × Bool × Unit) =>
  sel (!r.snd.fst) (some ([], (0 : Int), (5 : Int), ()))
    (ocall (G36 k ((r.fst.fst, r.fst.snd.fst, r.fst.snd.snd.fst, ()), v.snd.fst, ()))
      fun (r_1 : Int × Int × Unit) =>
      sel (!decide (r_1.snd.fst = (0 : Int))) (some ([], (0 : Int), r_1.snd.fst, ()))
        (ocall (G30 k ((r.fst.fst, r.fst.snd.fst, r.fst.snd.snd.fst, ()), ()))
          fun (r_2 : (Int × Int × Unit) × Unit ⊕ (Int × Unit) × Unit) =>
          esel r_2
            (fun (v_1 : (Int × Int × Unit) × Unit) =>
              ocall (G86 k ((v_1.fst.fst, v_1.fst.snd.fst, ()), ())) fun (r_3 : Int × Unit) =>
                sel (decide (Int.ofNat v.snd.fst.length < Go.IntKind.i64.wrap (r_3.fst + r_1.fst)))
                  (some ([], (0 : Int), (2 : Int), ()))
                  (sel (decide ((0 : Int) ≤ r_3.fst))
                    (sel (decide (r_3.fst ≤ Go.IntKind.i64.wrap (r_3.fst + r_1.fst)))
                      (sel (decide (Go.IntKind.i64.wrap (r_3.fst + r_1.fst) ≤ Int.ofNat v.snd.fst.length))
                        (sel (decide (Int.ofNat v.snd.fst.length ≤ Int.ofNat v.snd.fst.length))
                          (ocall
                            (G33 k
                              ((r.fst.fst, r.fst.snd.fst, r.fst.snd.snd.fst, ()),
                                ofBytes
                                  (List.drop r_3.fst.toNat
                                    (List.take (Go.IntKind.i64.wrap (r_3.fst + r_1.fst)).toNat v.snd.fst)),
                                ()))
                            fun (r : Bool × Unit) =>
                            sel (!r.fst) (some ([], (0 : Int), (3 : Int), ()))
                              (some
                                (ofBytes
                                    (List.drop r_3.fst.toNat
                                      (List.take (Go.IntKind.i64.wrap (r_3.fst + r_1.fst)).toNat v.snd.fst)),
                                  Go.IntKind.i64.wrap (r_3.fst + r_1.fst), (0 : Int), ())))
                          none)
                        none)
                      none)
                    none))
            fun (e : (Int × Unit) × Unit) =>
            ocall (G88 k ((e.fst.fst, ()), ())) fun (r_3 : Int × Unit) =>
              sel (decide (Int.ofNat v.snd.fst.length < Go.IntKind.i64.wrap (r_3.fst + r_1.fst)))
                (some ([], (0 : Int), (2 : Int), ()))
                (sel (decide ((0 : Int) ≤ r_3.fst))
                  (sel (decide (r_3.fst ≤ Go.IntKind.i64.wrap (r_3.fst + r_1.fst)))
                    (sel (decide (Go.IntKind.i64.wrap (r_3.fst + r_1.fst) ≤ Int.ofNat v.snd.fst.length))
                      (sel (decide (Int.ofNat v.snd.fst.length ≤ Int.ofNat v.snd.fst.length))
                        (ocall
                          (G33 k
                            ((r.fst.fst, r.fst.snd.fst, r.fst.snd.snd.fst, ()),
                              ofBytes
                                (List.drop r_3.fst.toNat
                                  (List.take (Go.IntKind.i64.wrap (r_3.fst + r_1.fst)).toNat v.snd.fst)),
                              ()))
                          fun (r : Bool × Unit) =>
                          sel (!r.fst) (some ([], (0 : Int), (3 : Int), ()))
                            (some
                              (ofBytes
                                  (List.drop r_3.fst.toNat
                                    (List.take (Go.IntKind.i64.wrap (r_3.fst + r_1.fst)).toNat v.snd.fst)),
                                Go.IntKind.i64.wrap (r_3.fst + r_1.fst), (0 : Int), ())))
                        none)
                      none)
                    none)
                  none))) := by kernel_rfl
noncomputable def G9 (k : Nat) (v : Unit) : Option (Bool × Unit) := F9 k v
theorem G9_eq (k : Nat) (v : Unit) : G9 k v =
  ocall (G12 k ((2 : Int), [(52 : UInt8), (49 : UInt8)], ())) fun (r : List Int × Int × Unit) =>
  ocall (G16 k ((2 : Int), [(48 : Int), (50 : Int), (52 : Int), (49 : Int), (57 : Int)], ()))
    fun (r_1 : List UInt8 × Int × Int × Unit) =>
    ocall (G10 k ((48 : Int), ())) fun (r_2 : (Int × Int × Int × Unit) × Bool × Unit) =>
      ocall (G12 k ((11 : Int), [(49 : UInt8), (50 : UInt8), (51 : UInt8), (52 : UInt8), (53 : UInt8)], ()))
        fun (r_3 : List Int × Int × Unit) =>
        sel (decide (ofBytes r.fst = [(48 : UInt8), (50 : UInt8), (52 : UInt8), (49 : UInt8)]))
          (sel (decide (r.snd.fst = (0 : Int)))
            (sel (decide (r_1.fst = [(52 : UInt8), (49 : UInt8)]))
              (sel (decide (r_1.snd.fst = (4 : Int)))
                (sel (decide (r_1.snd.snd.fst = (0 : Int)))
                  (sel r_2.snd.fst
                    (sel
                      (sameI r_2.fst.fst (OfNat.ofNat (48 : Nat)) &&
                        (sameI r_2.fst.snd.fst (OfNat.ofNat (5 : Nat)) &&
                          (sameI r_2.fst.snd.snd.fst (OfNat.ofNat (999 : Nat)) && true)))
                      (sel (decide (r_3.snd.fst = (1 : Int)))
                        (ocall (G14 k ((39 : Int), [(48 : UInt8), (48 : UInt8)], ())) fun (r : Bool × Unit) =>
                          some (r.fst, ()))
                        (some (false, ())))
                      (some (false, ())))
                    (some (false, ())))
                  (some (false, ())))
                (some (false, ())))
              (some (false, ())))
            (some (false, ())))
          (some (false, ())) := by kernel_rfl
noncomputable def G29 (k : Nat) (v : Unit) : Option (List Int × Unit) := F29 k v
theorem G29_eq (k : Nat) (v : Unit) : G29 k v =
  some
  ([(2 : Int), (3 : Int), (19 : Int), (3 : Int), (1 : Int), (6 : Int), (4 : Int), (1 : Int), (12 : Int), (7 : Int),
      (1 : Int), (10 : Int), (11 : Int), (1 : Int), (6 : Int), (12 : Int), (1 : Int), (6 : Int), (37 : Int), (2 : Int),
      (12 : Int), (38 : Int), (2 : Int), (6 : Int), (39 : Int), (2 : Int), (2 : Int), (41 : Int), (2 : Int), (8 : Int),
      (44 : Int), (4 : Int), (25 : Int), (48 : Int), (5 : Int), (999 : Int), (49 : Int), (1 : Int), (3 : Int),
      (90 : Int), (1 : Int), (42 : Int), (120 : Int), (5 : Int), (999 : Int)],
    ()) := by kernel_rfl
noncomputable def G11_3 (k : Nat) (j : Nat) (v : Int × List Int × Int × Int × Int × Int × Unit) : Option
  (Int × Int × Int × Unit ⊕ Bool × Int × Int × Int × Unit) := F11_3 k j v
theorem G11_3_eq (k : Nat) (j : Nat) (v : Int × List Int × Int × Int × Int × Int × Unit) : G11_3 k (j + (1 : Nat)) v =
  sel (decide (v.snd.snd.fst < Int.ofNat v.snd.fst.length))
  (sel (decide ((0 : Int) ≤ v.snd.snd.fst))
    (sel (decide (v.snd.snd.fst < Int.ofNat v.snd.fst.length))
      (sel (decide (v.snd.snd.fst.toNat < v.snd.fst.length))
        (sel (decide (v.snd.fst.getD v.snd.snd.fst.toNat (OfNat.ofNat (0 : Nat)) = v.fst))
          (sel (decide ((0 : Int) ≤ v.snd.snd.fst))
            (sel (decide (v.snd.snd.fst < Int.ofNat v.snd.fst.length))
              (sel (decide (v.snd.snd.fst.toNat < v.snd.fst.length))
                (sel (decide ((0 : Int) ≤ Go.IntKind.i64.wrap (v.snd.snd.fst + (1 : Int))))
                  (sel (decide (Go.IntKind.i64.wrap (v.snd.snd.fst + (1 : Int)) < Int.ofNat v.snd.fst.length))
                    (sel (decide ((Go.IntKind.i64.wrap (v.snd.snd.fst + (1 : Int))).toNat < v.snd.fst.length))
                      (sel (decide ((0 : Int) ≤ Go.IntKind.i64.wrap (v.snd.snd.fst + (2 : Int))))
                        (sel (decide (Go.IntKind.i64.wrap (v.snd.snd.fst + (2 : Int)) < Int.ofNat v.snd.fst.length))
                          (sel (decide ((Go.IntKind.i64.wrap (v.snd.snd.fst + (2 : Int))).toNat < v.snd.fst.length))
                            (some
                              (Sum.inr
                                (true, v.snd.fst.getD v.snd.snd.fst.toNat (OfNat.ofNat (0 : Nat)),
                                  v.snd.fst.getD (Go.IntKind.i64.wrap (v.snd.snd.fst + (1 : Int))).toNat
                                    (OfNat.ofNat (0 : Nat)),
                                  v.snd.fst.getD (Go.IntKind.i64.wrap (v.snd.snd.fst + (2 : Int))).toNat
                                    (OfNat.ofNat (0 : Nat)),
                                  ())))
                            none)
                          none)
                        none)
                      none)
                    none)
                  none)
                none)
              none)
            none)
          (G11_3 k j
            (v.fst, v.snd.fst, Go.IntKind.i64.wrap (v.snd.snd.fst + (3 : Int)), v.snd.snd.snd.fst,
              v.snd.snd.snd.snd.fst, v.snd.snd.snd.snd.snd.fst, ())))
        none)
      none)
    none)
  (some (Sum.inl (v.snd.snd.snd.fst, v.snd.snd.snd.snd.fst, v.snd.snd.snd.snd.snd.fst, ()))) := by kernel_rfl
noncomputable def G11 (k : Nat) (v : Int × Unit) : Option ((Int × Int × Int × Unit) × Bool × Unit) := F11 k v
theorem G11_eq (k : Nat) (v : Int × Unit) : G11 k v =
  ocall (G29 k ()) fun (r : List Int × Unit) =>
  ocall (G11_3 k k (v.fst, r.fst, (0 : Int), (0 : Int), (0 : Int), (0 : Int), ()))
    fun (e : Int × Int × Int × Unit ⊕ Bool × Int × Int × Int × Unit) =>
    esel e
      (fun (v : Int × Int × Int × Unit) => some (((0 : Int), (0 : Int), (0 : Int), ()), false, ()))
      fun (e : Bool × Int × Int × Int × Unit) =>
      some ((e.snd.fst, e.snd.snd.fst, e.snd.snd.snd.fst, ()), e.fst, ()) := by kernel_rfl
noncomputable def G32_2 (k : Nat) (j : Nat) (v : Int × List UInt8 × Int × Unit) : Option
  (Unit ⊕ Bool × Unit) := F32_2 k j v
theorem G32_2_eq (k : Nat) (j : Nat) (v : Int × List UInt8 × Int × Unit) : G32_2 k (j + (1 : Nat)) v =
  sel (decide (v.snd.snd.fst < Int.ofNat v.snd.fst.length))
  (sel (decide (v.fst = (1 : Int)))
    (sel (decide ((0 : Int) ≤ v.snd.snd.fst))
      (sel (decide (v.snd.snd.fst < Int.ofNat v.snd.fst.length))
        (sel (decide (Int.ofNat (v.snd.fst.getD v.snd.snd.fst.toNat (0 : UInt8)).toNat < (48 : Int)))
          (some (Sum.inr (false, ())))
          (sel (decide ((0 : Int) ≤ v.snd.snd.fst))
            (sel (decide (v.snd.snd.fst < Int.ofNat v.snd.fst.length))
              (sel (decide ((57 : Int) < Int.ofNat (v.snd.fst.getD v.snd.snd.fst.toNat (0 : UInt8)).toNat))
                (some (Sum.inr (false, ())))
                (G32_2 k j (v.fst, v.snd.fst, Go.IntKind.i64.wrap (v.snd.snd.fst + (1 : Int)), ())))
              none)
            none))
        none)
      none)
    (sel (decide (v.fst = (3 : Int)))
      (sel (decide ((0 : Int) ≤ v.snd.snd.fst))
        (sel (decide (v.snd.snd.fst < Int.ofNat v.snd.fst.length))
          (sel (decide (Int.ofNat (v.snd.fst.getD v.snd.snd.fst.toNat (0 : UInt8)).toNat < (48 : Int)))
            (some (Sum.inr (false, ())))
            (sel (decide ((0 : Int) ≤ v.snd.snd.fst))
              (sel (decide (v.snd.snd.fst < Int.ofNat v.snd.fst.length))
                (sel (decide ((57 : Int) < Int.ofNat (v.snd.fst.getD v.snd.snd.fst.toNat (0 : UInt8)).toNat))
                  (some (Sum.inr (false, ())))
                  (G32_2 k j (v.fst, v.snd.fst, Go.IntKind.i64.wrap (v.snd.snd.fst + (1 : Int)), ())))
                none)
              none))
          none)
        none)
      (sel (decide ((0 : Int) ≤ v.snd.snd.fst))
        (sel (decide (v.snd.snd.fst < Int.ofNat v.snd.fst.length))
          (sel (decide (Int.ofNat (v.snd.fst.getD v.snd.snd.fst.toNat (0 : UInt8)).toNat < (32 : Int)))
            (some (Sum.inr (false, ())))
            (sel (decide ((0 : Int) ≤ v.snd.snd.fst))
              (sel (decide (v.snd.snd.fst < Int.ofNat v.snd.fst.length))
                (sel (decide ((126 : Int) < Int.ofNat (v.snd.fst.getD v.snd.snd.fst.toNat (0 : UInt8)).toNat))
                  (some (Sum.inr (false, ())))
                  (G32_2 k j (v.fst, v.snd.fst, Go.IntKind.i64.wrap (v.snd.snd.fst + (1 : Int)), ())))
                none)
              none))
          none)
        none)))
  (some (Sum.inl ())) := by kernel_rfl
noncomputable def G32 (k : Nat) (v : Int × List UInt8 × Unit) : Option (Bool × Unit) := F32 k v
theorem G32_eq (k : Nat) (v : Int × List UInt8 × Unit) : G32 k v =
  ocall (G32_2 k k (v.fst, v.snd.fst, (0 : Int), ())) fun (e : Unit ⊕ Bool × Unit) =>
  esel e (fun (v : Unit) => some (true, ())) fun (e : Bool × Unit) =>
    some (e.fst, ()) := by kernel_rfl
noncomputable def G13 (k : Nat) (v : Int × List UInt8 × Unit) : Option (Bool × Unit) := F13 k v
theorem G13_eq (k : Nat) (v : Int × List UInt8 × Unit) : G13 k v =
  ocall (G11 k (v.fst, ())) fun (r : (Int × Int × Int × Unit) × Bool × Unit) =>
  sel (!r.snd.fst) (some (false, ()))
    (sel (decide (Int.ofNat v.snd.fst.length = (0 : Int))) (some (false, ()))
      (sel (decide (r.fst.snd.snd.fst < Int.ofNat v.snd.fst.length)) (some (false, ()))
        (sel (decide (r.fst.snd.fst < (3 : Int)))
          (sel (decide (Int.ofNat v.snd.fst.length < r.fst.snd.snd.fst)) (some (false, ()))
            (ocall (G32 k (r.fst.snd.fst, v.snd.fst, ())) fun (r : Bool × Unit) => some (r.fst, ())))
          (ocall (G32 k (r.fst.snd.fst, v.snd.fst, ())) fun (r : Bool × Unit) =>
            some (r.fst, ()))))) := by kernel_rfl
noncomputable def G34 (k : Nat) (v : Int × Unit) : Option (Int × Unit) := F34 k v
theorem G34_eq (k : Nat) (v : Int × Unit) : G34 k v =
  sel (decide (v.fst < (3 : Int))) (some ((0 : Int), ()))
  (sel (decide (v.fst = (5 : Int))) (some ((3 : Int), ())) (some ((2 : Int), ()))) := by kernel_rfl
noncomputable def G51_5 (k : Nat) (j : Nat) (v : Int × Int × List UInt8 × Int × Unit) : Option
  (Int × List UInt8 × Unit) := F51_5 k j v
theorem G51_5_eq (k : Nat) (j : Nat) (v : Int × Int × List UInt8 × Int × Unit) : G51_5 k (j + (1 : Nat)) v =
  sel (decide (v.snd.snd.snd.fst < v.snd.fst))
  (sel
    (decide
      ((ofBytes [Go.IntKind.u8.wrap (Go.IntKind.u64.wrap ((48 : Int) + v.fst.tmod (10 : Int)))]).length +
          v.snd.snd.fst.length ≤
        (140737488355328 : Nat)))
    (G51_5 k j
      (Go.IntKind.u64.wrap (v.fst.tdiv (10 : Int)), v.snd.fst,
        (ofBytes [Go.IntKind.u8.wrap (Go.IntKind.u64.wrap ((48 : Int) + v.fst.tmod (10 : Int)))]).append v.snd.snd.fst,
        Go.IntKind.i64.wrap (v.snd.snd.snd.fst + (1 : Int)), ()))
    none)
  (some (v.fst, v.snd.snd.fst, ())) := by kernel_rfl
noncomputable def G51 (k : Nat) (v : Int × Int × Unit) : Option (List UInt8 × Int × Unit) := F51 k v
theorem G51_eq (k : Nat) (v : Int × Int × Unit) : G51 k v =
  sel (decide (v.snd.fst < (1 : Int))) (some ([], (1 : Int), ()))
  (sel (decide ((19 : Int) < v.snd.fst)) (some ([], (1 : Int), ()))
    (ocall (G51_5 k k (v.fst, v.snd.fst, [], (0 : Int), ())) fun (e : Int × List UInt8 × Unit) =>
      sel (!decide (e.fst = (0 : Int))) (some ([], (10 : Int), ()))
        (some (e.snd.fst, (0 : Int), ())))) := by kernel_rfl
noncomputable def G35 (k : Nat) (v : Int × Int × Unit) : Option (List UInt8 × Unit) := F35 k v
theorem G35_eq (k : Nat) (v : Int × Int × Unit) : G35 k v =
  ocall (G51 k (v.fst, v.snd.fst, ())) fun (r : List UInt8 × Int × Unit) =>
  some (r.fst, ()) := by kernel_rfl
noncomputable def G15 (k : Nat) (v : Int × List UInt8 × Unit) : Option (List Int × Unit) := F15 k v
theorem G15_eq (k : Nat) (v : Int × List UInt8 × Unit) : G15 k v =
  ocall (G11 k (v.fst, ())) fun (r : (Int × Int × Int × Unit) × Bool × Unit) =>
  ocall (G34 k (r.fst.snd.fst, ())) fun (r : Int × Unit) =>
    sel (decide (r.fst = (0 : Int))) (some (toBytes v.snd.fst, ()))
      (ocall (G35 k (Go.IntKind.u64.wrap (Int.ofNat v.snd.fst.length), r.fst, ()))
        fun (r : List UInt8 × Unit) =>
        sel (decide (r.fst.length + v.snd.fst.length ≤ (140737488355328 : Nat)))
          (some (toBytes (r.fst.append v.snd.fst), ())) none) := by kernel_rfl
noncomputable def G53_2 (k : Nat) (j : Nat) (v : List UInt8 × Int × Unit) : Option
  (List UInt8 × Unit ⊕ Bool × Unit) := F53_2 k j v
theorem G53_2_eq (k : Nat) (j : Nat) (v : List UInt8 × Int × Unit) : G53_2 k (j + (1 : Nat)) v =
  sel (decide (v.snd.fst < Int.ofNat v.fst.length))
  (sel (decide ((0 : Int) ≤ v.snd.fst))
    (sel (decide (v.snd.fst < Int.ofNat v.fst.length))
      (sel (decide (Int.ofNat (v.fst.getD v.snd.fst.toNat (0 : UInt8)).toNat < (48 : Int)))
        (some (Sum.inr (false, ())))
        (sel (decide ((0 : Int) ≤ v.snd.fst))
          (sel (decide (v.snd.fst < Int.ofNat v.fst.length))
            (sel (decide ((57 : Int) < Int.ofNat (v.fst.getD v.snd.fst.toNat (0 : UInt8)).toNat))
              (some (Sum.inr (false, ())))
              (G53_2 k j (v.fst, Go.IntKind.i64.wrap (v.snd.fst + (1 : Int)), ())))
            none)
          none))
      none)
    none)
  (some (Sum.inl (v.fst, ()))) := by kernel_rfl
noncomputable def G53 (k : Nat) (v : List UInt8 × Unit) : Option (Bool × Unit) := F53 k v
theorem G53_eq (k : Nat) (v : List UInt8 × Unit) : G53 k v =
  ocall (G53_2 k k (v.fst, (0 : Int), ())) fun (e : List UInt8 × Unit ⊕ Bool × Unit) =>
  esel e (fun (v : List UInt8 × Unit) => some (decide ((0 : Int) < Int.ofNat v.fst.length), ()))
    fun (e : Bool × Unit) => some (e.fst, ()) := by kernel_rfl
noncomputable def G37_9 (k : Nat) (j : Nat) (v : List UInt8 × Int × Int × Unit) : Option (Int × Unit) := F37_9 k j v
theorem G37_9_eq (k : Nat) (j : Nat) (v : List UInt8 × Int × Int × Unit) : G37_9 k (j + (1 : Nat)) v =
  sel (decide (v.snd.snd.fst < Int.ofNat v.fst.length))
  (sel (decide ((0 : Int) ≤ v.snd.snd.fst))
    (sel (decide (v.snd.snd.fst < Int.ofNat v.fst.length))
      (G37_9 k j
        (v.fst,
          Go.IntKind.u64.wrap
            (Go.IntKind.u64.wrap
                (Go.IntKind.u64.wrap ((10 : Int) * v.snd.fst) +
                  Go.IntKind.u64.wrap (Int.ofNat (v.fst.getD v.snd.snd.fst.toNat (0 : UInt8)).toNat)) -
              (48 : Int)),
          Go.IntKind.i64.wrap (v.snd.snd.fst + (1 : Int)), ()))
      none)
    none)
  (some (v.snd.fst, ())) := by kernel_rfl
noncomputable def G37 (k : Nat) (v : List UInt8 × Unit) : Option (Int × Int × Unit) := F37 k v
theorem G37_eq (k : Nat) (v : List UInt8 × Unit) : G37 k v =
  sel (decide (Int.ofNat v.fst.length = (0 : Int))) (some ((0 : Int), (2 : Int), ()))
  (sel (decide ((19 : Int) < Int.ofNat v.fst.length)) (some ((0 : Int), (4 : Int), ()))
    (ocall (G53 k (v.fst, ())) fun (r : Bool × Unit) =>
      sel (!r.fst) (some ((0 : Int), (3 : Int), ()))
        (ocall (G37_9 k k (v.fst, (0 : Int), (0 : Int), ())) fun (e : Int × Unit) =>
          some (e.fst, (0 : Int), ())))) := by kernel_rfl
noncomputable def G17 (k : Nat) (v : Int × List Int × Unit) : Option (List UInt8 × Int × Int × Unit) := F17 k v
theorem G17_eq (k : Nat) (v : Int × List Int × Unit) : G17 k v =
  ocall (G11 k (v.fst, ())) fun (r : (Int × Int × Int × Unit) × Bool × Unit) =>
  sel (!r.snd.fst) (some ([], (0 : Int), (5 : Int), ()))
    (ocall (G34 k (r.fst.snd.fst, ())) fun (r_1 : Int × Unit) =>
      sel (decide ((0 : Int) < r_1.fst))
        (sel (decide (Int.ofNat v.snd.fst.length < r_1.fst)) (some ([], (0 : Int), (2 : Int), ()))
          (sel (decide (Int.ofNat (0 : Nat) ≤ r_1.fst))
            (sel (decide (r_1.fst ≤ Int.ofNat v.snd.fst.length))
              (sel (decide (Int.ofNat v.snd.fst.length ≤ Int.ofNat v.snd.fst.length))
                (ocall
                  (G37 k
                    (ofBytes (List.drop (Int.ofNat (0 : Nat)).toNat (List.take r_1.fst.toNat v.snd.fst)), ()))
                  fun (r_2 : Int × Int × Unit) =>
                  sel (!decide (r_2.snd.fst = (0 : Int))) (some ([], (0 : Int), (3 : Int), ()))
                    (sel (decide (r_2.fst = (0 : Int))) (some ([], (0 : Int), (3 : Int), ()))
                      (sel (decide (r.fst.snd.snd.fst < Go.IntKind.i64.wrap r_2.fst))
                        (some ([], (0 : Int), (4 : Int), ()))
                        (sel
                          (decide
                            (Go.IntKind.i64.wrap (Int.ofNat v.snd.fst.length - r_1.fst) < Go.IntKind.i64.wrap r_2.fst))
                          (some ([], (0 : Int), (2 : Int), ()))
                          (sel (decide ((0 : Int) ≤ r_1.fst))
                            (sel (decide (r_1.fst ≤ Go.IntKind.i64.wrap (r_1.fst + Go.IntKind.i64.wrap r_2.fst)))
                              (sel
                                (decide
                                  (Go.IntKind.i64.wrap (r_1.fst + Go.IntKind.i64.wrap r_2.fst) ≤
                                    Int.ofNat v.snd.fst.length))
                                (sel (decide (Int.ofNat v.snd.fst.length ≤ Int.ofNat v.snd.fst.length))
                                  (ocall
                                    (G32 k
                                      (r.fst.snd.fst,
                                        ofBytes
                                          (List.drop r_1.fst.toNat
                                            (List.take
                                              (Go.IntKind.i64.wrap (r_1.fst + Go.IntKind.i64.wrap r_2.fst)).toNat
                                              v.snd.fst)),
                                        ()))
                                    fun (r : Bool × Unit) =>
                                    sel (!r.fst) (some ([], (0 : Int), (3 : Int), ()))
                                      (some
                                        (ofBytes
                                            (List.drop r_1.fst.toNat
                                              (List.take
                                                (Go.IntKind.i64.wrap (r_1.fst + Go.IntKind.i64.wrap r_2.fst)).toNat
                                                v.snd.fst)),
                                          Go.IntKind.i64.wrap (r_1.fst + Go.IntKind.i64.wrap r_2.fst), (0 : Int),
                                          ())))
                                  none)
                                none)
                              none)
                            none)))))
                none)
              none)
            none))
        (sel (decide (Go.IntKind.i64.wrap (Int.ofNat v.snd.fst.length - r_1.fst) < r.fst.snd.snd.fst))
          (some ([], (0 : Int), (2 : Int), ()))
          (sel (decide ((0 : Int) ≤ r_1.fst))
            (sel (decide (r_1.fst ≤ Go.IntKind.i64.wrap (r_1.fst + r.fst.snd.snd.fst)))
              (sel (decide (Go.IntKind.i64.wrap (r_1.fst + r.fst.snd.snd.fst) ≤ Int.ofNat v.snd.fst.length))
                (sel (decide (Int.ofNat v.snd.fst.length ≤ Int.ofNat v.snd.fst.length))
                  (ocall
                    (G32 k
                      (r.fst.snd.fst,
                        ofBytes
                          (List.drop r_1.fst.toNat
                            (List.take (Go.IntKind.i64.wrap (r_1.fst + r.fst.snd.snd.fst)).toNat v.snd.fst)),
                        ()))
                    fun (r_2 : Bool × Unit) =>
                    sel (!r_2.fst) (some ([], (0 : Int), (3 : Int), ()))
                      (some
                        (ofBytes
                            (List.drop r_1.fst.toNat
                              (List.take (Go.IntKind.i64.wrap (r_1.fst + r.fst.snd.snd.fst)).toNat v.snd.fst)),
                          Go.IntKind.i64.wrap (r_1.fst + r.fst.snd.snd.fst), (0 : Int), ())))
                  none)
                none)
              none)
            none))) := by kernel_rfl
noncomputable def G3 (k : Nat) (v : Int × List UInt8 × List Int × Unit) : Option (Bool × Unit) := F3 k v
theorem G3_eq (k : Nat) (v : Int × List UInt8 × List Int × Unit) : G3 k v =
  ocall (G9 k ()) fun (r : Bool × Unit) =>
  sel (!r.fst) (some (false, ()))
    (sel (decide ((3000 : Int) < Int.ofNat v.snd.fst.length)) (some (true, ()))
      (sel (decide ((3000 : Int) < Int.ofNat v.snd.snd.fst.length)) (some (true, ()))
        (ocall (G10 k (v.fst, ())) fun (r : (Int × Int × Int × Unit) × Bool × Unit) =>
          ocall (G11 k (v.fst, ())) fun (r_1 : (Int × Int × Int × Unit) × Bool × Unit) =>
            ocall (G12 k (v.fst, v.snd.fst, ())) fun (r_2 : List Int × Int × Unit) =>
              ocall (G13 k (v.fst, v.snd.fst, ())) fun (r_3 : Bool × Unit) =>
                sel (!r_1.snd.fst)
                  (sel
                    (!(sameI r.fst.fst r_1.fst.fst &&
                        (sameI r.fst.snd.fst r_1.fst.snd.fst && (sameI r.fst.snd.snd.fst r_1.fst.snd.snd.fst && true))))
                    (some (false, ()))
                    (sel (!r.snd.fst == r_1.snd.fst) (some (false, ()))
                      (ocall (G14 k (v.fst, v.snd.fst, ())) fun (r : Bool × Unit) =>
                        sel (!r.fst == r_3.fst) (some (false, ()))
                          (sel (!decide (r_2.snd.fst = (5 : Int))) (some (false, ()))
                            (sel r_3.fst
                              (ocall (G15 k (v.fst, v.snd.fst, ())) fun (r : List Int × Unit) =>
                                sel (!decide (ofBytes r_2.fst = ofBytes r.fst)) (some (false, ()))
                                  (sel (!r_3.fst)
                                    (sel (!decide (Int.ofNat r_2.fst.length = (0 : Int))) (some (false, ()))
                                      (ocall (G16 k (v.fst, v.snd.snd.fst, ()))
                                        fun (r : List UInt8 × Int × Int × Unit) =>
                                        ocall (G17 k (v.fst, v.snd.snd.fst, ()))
                                          fun (r_4 : List UInt8 × Int × Int × Unit) =>
                                          sel (decide (r.fst = r_4.fst))
                                            (sel (decide (r.snd.fst = r_4.snd.fst))
                                              (some (decide (r.snd.snd.fst = r_4.snd.snd.fst), ()))
                                              (some (false, ())))
                                            (some (false, ()))))
                                    (ocall (G16 k (v.fst, v.snd.snd.fst, ()))
                                      fun (r : List UInt8 × Int × Int × Unit) =>
                                      ocall (G17 k (v.fst, v.snd.snd.fst, ()))
                                        fun (r_4 : List UInt8 × Int × Int × Unit) =>
                                        sel (decide (r.fst = r_4.fst))
                                          (sel (decide (r.snd.fst = r_4.snd.fst))
                                            (some (decide (r.snd.snd.fst = r_4.snd.snd.fst), ()))
                                            (some (false, ())))
                                          (some (false, ())))))
                              (sel (!r_3.fst)
                                (sel (!decide (Int.ofNat r_2.fst.length = (0 : Int))) (some (false, ()))
                                  (ocall (G16 k (v.fst, v.snd.snd.fst, ()))
                                    fun (r : List UInt8 × Int × Int × Unit) =>
                                    ocall (G17 k (v.fst, v.snd.snd.fst, ()))
                                      fun (r_4 : List UInt8 × Int × Int × Unit) =>
                                      sel (decide (r.fst = r_4.fst))
                                        (sel (decide (r.snd.fst = r_4.snd.fst))
                                          (some (decide (r.snd.snd.fst = r_4.snd.snd.fst), ()))
                                          (some (false, ())))
                                        (some (false, ()))))
                                (ocall (G16 k (v.fst, v.snd.snd.fst, ()))
                                  fun (r : List UInt8 × Int × Int × Unit) =>
                                  ocall (G17 k (v.fst, v.snd.snd.fst, ()))
                                    fun (r_4 : List UInt8 × Int × Int × Unit) =>
                                    sel (decide (r.fst = r_4.fst))
                                      (sel (decide (r.snd.fst = r_4.snd.fst))
                                        (some (decide (r.snd.snd.fst = r_4.snd.snd.fst), ()))
                                        (some (false, ())))
                                      (some (false, ())))))))))
                  (sel (!r_3.fst)
                    (sel
                      (!(sameI r.fst.fst r_1.fst.fst &&
                          (sameI r.fst.snd.fst r_1.fst.snd.fst &&
                            (sameI r.fst.snd.snd.fst r_1.fst.snd.snd.fst && true))))
                      (some (false, ()))
                      (sel (!r.snd.fst == r_1.snd.fst) (some (false, ()))
                        (ocall (G14 k (v.fst, v.snd.fst, ())) fun (r : Bool × Unit) =>
                          sel (!r.fst == r_3.fst) (some (false, ()))
                            (sel (!decide (r_2.snd.fst = (1 : Int))) (some (false, ()))
                              (sel r_3.fst
                                (ocall (G15 k (v.fst, v.snd.fst, ())) fun (r : List Int × Unit) =>
                                  sel (!decide (ofBytes r_2.fst = ofBytes r.fst)) (some (false, ()))
                                    (sel (!r_3.fst)
                                      (sel (!decide (Int.ofNat r_2.fst.length = (0 : Int))) (some (false, ()))
                                        (ocall (G16 k (v.fst, v.snd.snd.fst, ()))
                                          fun (r : List UInt8 × Int × Int × Unit) =>
                                          ocall (G17 k (v.fst, v.snd.snd.fst, ()))
                                            fun (r_4 : List UInt8 × Int × Int × Unit) =>
                                            sel (decide (r.fst = r_4.fst))
                                              (sel (decide (r.snd.fst = r_4.snd.fst))
                                                (some (decide (r.snd.snd.fst = r_4.snd.snd.fst), ()))
                                                (some (false, ())))
                                              (some (false, ()))))
                                      (ocall (G16 k (v.fst, v.snd.snd.fst, ()))
                                        fun (r : List UInt8 × Int × Int × Unit) =>
                                        ocall (G17 k (v.fst, v.snd.snd.fst, ()))
                                          fun (r_4 : List UInt8 × Int × Int × Unit) =>
                                          sel (decide (r.fst = r_4.fst))
                                            (sel (decide (r.snd.fst = r_4.snd.fst))
                                              (some (decide (r.snd.snd.fst = r_4.snd.snd.fst), ()))
                                              (some (false, ())))
                                            (some (false, ())))))
                                (sel (!r_3.fst)
                                  (sel (!decide (Int.ofNat r_2.fst.length = (0 : Int))) (some (false, ()))
                                    (ocall (G16 k (v.fst, v.snd.snd.fst, ()))
                                      fun (r : List UInt8 × Int × Int × Unit) =>
                                      ocall (G17 k (v.fst, v.snd.snd.fst, ()))
                                        fun (r_4 : List UInt8 × Int × Int × Unit) =>
                                        sel (decide (r.fst = r_4.fst))
                                          (sel (decide (r.snd.fst = r_4.snd.fst))
                                            (some (decide (r.snd.snd.fst = r_4.snd.snd.fst), ()))
                                            (some (false, ())))
                                          (some (false, ()))))
                                  (ocall (G16 k (v.fst, v.snd.snd.fst, ()))
                                    fun (r : List UInt8 × Int × Int × Unit) =>
                                    ocall (G17 k (v.fst, v.snd.snd.fst, ()))
                                      fun (r_4 : List UInt8 × Int × Int × Unit) =>
                                      sel (decide (r.fst = r_4.fst))
                                        (sel (decide (r.snd.fst = r_4.snd.fst))
                                          (some (decide (r.snd.snd.fst = r_4.snd.snd.fst), ()))
                                          (some (false, ())))
                                        (some (false, ())))))))))
                    (sel
                      (!(sameI r.fst.fst r_1.fst.fst &&
                          (sameI r.fst.snd.fst r_1.fst.snd.fst &&
                            (sameI r.fst.snd.snd.fst r_1.fst.snd.snd.fst && true))))
                      (some (false, ()))
                      (sel (!r.snd.fst == r_1.snd.fst) (some (false, ()))
                        (ocall (G14 k (v.fst, v.snd.fst, ())) fun (r : Bool × Unit) =>
                          sel (!r.fst == r_3.fst) (some (false, ()))
                            (sel (!decide (r_2.snd.fst = (0 : Int))) (some (false, ()))
                              (sel r_3.fst
                                (ocall (G15 k (v.fst, v.snd.fst, ())) fun (r : List Int × Unit) =>
                                  sel (!decide (ofBytes r_2.fst = ofBytes r.fst)) (some (false, ()))
                                    (sel (!r_3.fst)
                                      (sel (!decide (Int.ofNat r_2.fst.length = (0 : Int))) (some (false, ()))
                                        (ocall (G16 k (v.fst, v.snd.snd.fst, ()))
                                          fun (r : List UInt8 × Int × Int × Unit) =>
                                          ocall (G17 k (v.fst, v.snd.snd.fst, ()))
                                            fun (r_4 : List UInt8 × Int × Int × Unit) =>
                                            sel (decide (r.fst = r_4.fst))
                                              (sel (decide (r.snd.fst = r_4.snd.fst))
                                                (some (decide (r.snd.snd.fst = r_4.snd.snd.fst), ()))
                                                (some (false, ())))
                                              (some (false, ()))))
                                      (ocall (G16 k (v.fst, v.snd.snd.fst, ()))
                                        fun (r : List UInt8 × Int × Int × Unit) =>
                                        ocall (G17 k (v.fst, v.snd.snd.fst, ()))
                                          fun (r_4 : List UInt8 × Int × Int × Unit) =>
                                          sel (decide (r.fst = r_4.fst))
                                            (sel (decide (r.snd.fst = r_4.snd.fst))
                                              (some (decide (r.snd.snd.fst = r_4.snd.snd.fst), ()))
                                              (some (false, ())))
                                            (some (false, ())))))
                                (sel (!r_3.fst)
                                  (sel (!decide (Int.ofNat r_2.fst.length = (0 : Int))) (some (false, ()))
                                    (ocall (G16 k (v.fst, v.snd.snd.fst, ()))
                                      fun (r : List UInt8 × Int × Int × Unit) =>
                                      ocall (G17 k (v.fst, v.snd.snd.fst, ()))
                                        fun (r_4 : List UInt8 × Int × Int × Unit) =>
                                        sel (decide (r.fst = r_4.fst))
                                          (sel (decide (r.snd.fst = r_4.snd.fst))
                                            (some (decide (r.snd.snd.fst = r_4.snd.snd.fst), ()))
                                            (some (false, ())))
                                          (some (false, ()))))
                                  (ocall (G16 k (v.fst, v.snd.snd.fst, ()))
                                    fun (r : List UInt8 × Int × Int × Unit) =>
                                    ocall (G17 k (v.fst, v.snd.snd.fst, ()))
                                      fun (r_4 : List UInt8 × Int × Int × Unit) =>
                                      sel (decide (r.fst = r_4.fst))
                                        (sel (decide (r.snd.fst = r_4.snd.fst))
                                          (some (decide (r.snd.snd.fst = r_4.snd.snd.fst), ()))
                                          (some (false, ())))
                                        (some (false, ()))))))))))))) := by kernel_rfl
noncomputable def G4 (k : Nat) (v : Int × List UInt8 × List UInt8 × List Int × Int × Unit) : Option
  (Bool × Unit) := F4 k v
theorem G4_eq (k : Nat) (v : Int × List UInt8 × List UInt8 × List Int × Int × Unit) : G4 k v =
  ocall (G9 k ()) fun (r : Bool × Unit) =>
  sel (!r.fst) (some (false, ()))
    (sel (decide ((3000 : Int) < Int.ofNat v.snd.fst.length)) (some (true, ()))
      (sel (decide ((3000 : Int) < Int.ofNat v.snd.snd.fst.length)) (some (true, ()))
        (sel (decide ((3000 : Int) < Int.ofNat v.snd.snd.snd.fst.length)) (some (true, ()))
          (ocall (G12 k (v.fst, v.snd.fst, ())) fun (r : List Int × Int × Unit) =>
            ocall (G12 k (v.fst, v.snd.snd.fst, ())) fun (r_1 : List Int × Int × Unit) =>
              sel (decide (r.snd.fst = (0 : Int)))
                (sel (decide ((0 : Int) < Int.ofNat r.fst.length))
                  (sel (decide (((0 : Nat) + r.fst.length) * (1 : Nat) ≤ (140737488355328 : Nat)))
                    (sel (decide ((r.fst.length + v.snd.snd.snd.fst.length) * (1 : Nat) ≤ (140737488355328 : Nat)))
                      (ocall (G16 k (v.fst, r.fst.append v.snd.snd.snd.fst, ()))
                        fun (r_2 : List UInt8 × Int × Int × Unit) =>
                        sel (!decide (Int.ofNat r.fst.length = (0 : Int)))
                          (sel
                            (decide
                              (Int.ofNat (0 : Nat) ≤
                                (Go.IntKind.i64.wrap v.snd.snd.snd.snd.fst).tmod (Int.ofNat r.fst.length)))
                            (sel
                              (decide
                                ((Go.IntKind.i64.wrap v.snd.snd.snd.snd.fst).tmod (Int.ofNat r.fst.length) ≤
                                  Int.ofNat r.fst.length))
                              (sel (decide (Int.ofNat r.fst.length ≤ Int.ofNat r.fst.length))
                                (ocall
                                  (G16 k
                                    (v.fst,
                                      List.drop (Int.ofNat (0 : Nat)).toNat
                                        (List.take
                                          ((Go.IntKind.i64.wrap v.snd.snd.snd.snd.fst).tmod
                                              (Int.ofNat r.fst.length)).toNat
                                          r.fst),
                                      ()))
                                  fun (r_3 : List UInt8 × Int × Int × Unit) =>
                                  sel (!decide (r_2.snd.snd.fst = (0 : Int))) (some (false, ()))
                                    (sel (!decide (r_2.fst = v.snd.fst)) (some (false, ()))
                                      (sel (!decide (r_2.snd.fst = Int.ofNat r.fst.length)) (some (false, ()))
                                        (sel (!decide (r_3.snd.snd.fst = (2 : Int))) (some (false, ()))
                                          (sel (decide (r_1.snd.fst = (0 : Int)))
                                            (sel (!decide (v.snd.fst = v.snd.snd.fst))
                                              (sel (decide (Int.ofNat r.fst.length ≤ Int.ofNat r_1.fst.length))
                                                (sel (decide (Int.ofNat (0 : Nat) ≤ Int.ofNat r.fst.length))
                                                  (sel (decide (Int.ofNat r.fst.length ≤ Int.ofNat r_1.fst.length))
                                                    (sel (decide (Int.ofNat r_1.fst.length ≤ Int.ofNat r_1.fst.length))
                                                      (sel
                                                        (decide
                                                          (ofBytes r.fst =
                                                            ofBytes
                                                              (List.drop (Int.ofNat (0 : Nat)).toNat
                                                                (List.take (Int.ofNat r.fst.length).toNat r_1.fst))))
                                                        (some (false, ()))
                                                        (ocall (G16 k (v.fst, v.snd.snd.snd.fst, ()))
                                                          fun (r : List UInt8 × Int × Int × Unit) =>
                                                          sel (!decide (r.snd.snd.fst = (0 : Int)))
                                                            (sel (decide (r.fst = []))
                                                              (some (decide (r.snd.fst = (0 : Int)), ()))
                                                              (some (false, ())))
                                                            (ocall (G12 k (v.fst, r.fst, ()))
                                                              fun (r_4 : List Int × Int × Unit) =>
                                                              sel (decide (r_4.snd.fst = (0 : Int)))
                                                                (ocall (G14 k (v.fst, r.fst, ()))
                                                                  fun (r_5 : Bool × Unit) =>
                                                                  sel r_5.fst
                                                                    (sel
                                                                      (decide
                                                                        (r.snd.fst ≤
                                                                          Int.ofNat v.snd.snd.snd.fst.length))
                                                                      (sel (decide ((0 : Int) < r.snd.fst))
                                                                        (sel (decide (Int.ofNat (0 : Nat) ≤ r.snd.fst))
                                                                          (sel
                                                                            (decide
                                                                              (r.snd.fst ≤
                                                                                Int.ofNat v.snd.snd.snd.fst.length))
                                                                            (sel
                                                                              (decide
                                                                                (Int.ofNat v.snd.snd.snd.fst.length ≤
                                                                                  Int.ofNat v.snd.snd.snd.fst.length))
                                                                              (some
                                                                                (decide
                                                                                    (ofBytes r_4.fst =
                                                                                      ofBytes
                                                                                        (List.drop
                                                                                          (Int.ofNat (0 : Nat)).toNat
                                                                                          (List.take r.snd.fst.toNat
                                                                                            v.snd.snd.snd.fst))),
                                                                                  ()))
                                                                              none)
                                                                            none)
                                                                          none)
                                                                        (some (false, ())))
                                                                      (some (false, ())))
                                                                    (some (false, ())))
                                                                (some (false, ())))))
                                                      none)
                                                    none)
                                                  none)
                                                (ocall (G16 k (v.fst, v.snd.snd.snd.fst, ()))
                                                  fun (r : List UInt8 × Int × Int × Unit) =>
                                                  sel (!decide (r.snd.snd.fst = (0 : Int)))
                                                    (sel (decide (r.fst = []))
                                                      (some (decide (r.snd.fst = (0 : Int)), ()))
                                                      (some (false, ())))
                                                    (ocall (G12 k (v.fst, r.fst, ()))
                                                      fun (r_4 : List Int × Int × Unit) =>
                                                      sel (decide (r_4.snd.fst = (0 : Int)))
                                                        (ocall (G14 k (v.fst, r.fst, ()))
                                                          fun (r_5 : Bool × Unit) =>
                                                          sel r_5.fst
                                                            (sel
                                                              (decide (r.snd.fst ≤ Int.ofNat v.snd.snd.snd.fst.length))
                                                              (sel (decide ((0 : Int) < r.snd.fst))
                                                                (sel (decide (Int.ofNat (0 : Nat) ≤ r.snd.fst))
                                                                  (sel
                                                                    (decide
                                                                      (r.snd.fst ≤ Int.ofNat v.snd.snd.snd.fst.length))
                                                                    (sel
                                                                      (decide
                                                                        (Int.ofNat v.snd.snd.snd.fst.length ≤
                                                                          Int.ofNat v.snd.snd.snd.fst.length))
                                                                      (some
                                                                        (decide
                                                                            (ofBytes r_4.fst =
                                                                              ofBytes
                                                                                (List.drop (Int.ofNat (0 : Nat)).toNat
                                                                                  (List.take r.snd.fst.toNat
                                                                                    v.snd.snd.snd.fst))),
                                                                          ()))
                                                                      none)
                                                                    none)
                                                                  none)
                                                                (some (false, ())))
                                                              (some (false, ())))
                                                            (some (false, ())))
                                                        (some (false, ())))))
                                              (ocall (G16 k (v.fst, v.snd.snd.snd.fst, ()))
                                                fun (r : List UInt8 × Int × Int × Unit) =>
                                                sel (!decide (r.snd.snd.fst = (0 : Int)))
                                                  (sel (decide (r.fst = []))
                                                    (some (decide (r.snd.fst = (0 : Int)), ()))
                                                    (some (false, ())))
                                                  (ocall (G12 k (v.fst, r.fst, ()))
                                                    fun (r_4 : List Int × Int × Unit) =>
                                                    sel (decide (r_4.snd.fst = (0 : Int)))
                                                      (ocall (G14 k (v.fst, r.fst, ()))
                                                        fun (r_5 : Bool × Unit) =>
                                                        sel r_5.fst
                                                          (sel (decide (r.snd.fst ≤ Int.ofNat v.snd.snd.snd.fst.length))
                                                            (sel (decide ((0 : Int) < r.snd.fst))
                                                              (sel (decide (Int.ofNat (0 : Nat) ≤ r.snd.fst))
                                                                (sel
                                                                  (decide
                                                                    (r.snd.fst ≤ Int.ofNat v.snd.snd.snd.fst.length))
                                                                  (sel
                                                                    (decide
                                                                      (Int.ofNat v.snd.snd.snd.fst.length ≤
                                                                        Int.ofNat v.snd.snd.snd.fst.length))
                                                                    (some
                                                                      (decide
                                                                          (ofBytes r_4.fst =
                                                                            ofBytes
                                                                              (List.drop (Int.ofNat (0 : Nat)).toNat
                                                                                (List.take r.snd.fst.toNat
                                                                                  v.snd.snd.snd.fst))),
                                                                        ()))
                                                                    none)
                                                                  none)
                                                                none)
                                                              (some (false, ())))
                                                            (some (false, ())))
                                                          (some (false, ())))
                                                      (some (false, ())))))
                                            (ocall (G16 k (v.fst, v.snd.snd.snd.fst, ()))
                                              fun (r : List UInt8 × Int × Int × Unit) =>
                                              sel (!decide (r.snd.snd.fst = (0 : Int)))
                                                (sel (decide (r.fst = []))
                                                  (some (decide (r.snd.fst = (0 : Int)), ()))
                                                  (some (false, ())))
                                                (ocall (G12 k (v.fst, r.fst, ()))
                                                  fun (r_4 : List Int × Int × Unit) =>
                                                  sel (decide (r_4.snd.fst = (0 : Int)))
                                                    (ocall (G14 k (v.fst, r.fst, ()))
                                                      fun (r_5 : Bool × Unit) =>
                                                      sel r_5.fst
                                                        (sel (decide (r.snd.fst ≤ Int.ofNat v.snd.snd.snd.fst.length))
                                                          (sel (decide ((0 : Int) < r.snd.fst))
                                                            (sel (decide (Int.ofNat (0 : Nat) ≤ r.snd.fst))
                                                              (sel
                                                                (decide
                                                                  (r.snd.fst ≤ Int.ofNat v.snd.snd.snd.fst.length))
                                                                (sel
                                                                  (decide
                                                                    (Int.ofNat v.snd.snd.snd.fst.length ≤
                                                                      Int.ofNat v.snd.snd.snd.fst.length))
                                                                  (some
                                                                    (decide
                                                                        (ofBytes r_4.fst =
                                                                          ofBytes
                                                                            (List.drop (Int.ofNat (0 : Nat)).toNat
                                                                              (List.take r.snd.fst.toNat
                                                                                v.snd.snd.snd.fst))),
                                                                      ()))
                                                                  none)
                                                                none)
                                                              none)
                                                            (some (false, ())))
                                                          (some (false, ())))
                                                        (some (false, ())))
                                                    (some (false, ())))))))))
                                none)
                              none)
                            none)
                          none)
                      none)
                    none)
                  (ocall (G16 k (v.fst, v.snd.snd.snd.fst, ())) fun (r : List UInt8 × Int × Int × Unit) =>
                    sel (!decide (r.snd.snd.fst = (0 : Int)))
                      (sel (decide (r.fst = [])) (some (decide (r.snd.fst = (0 : Int)), ()))
                        (some (false, ())))
                      (ocall (G12 k (v.fst, r.fst, ())) fun (r_2 : List Int × Int × Unit) =>
                        sel (decide (r_2.snd.fst = (0 : Int)))
                          (ocall (G14 k (v.fst, r.fst, ())) fun (r_3 : Bool × Unit) =>
                            sel r_3.fst
                              (sel (decide (r.snd.fst ≤ Int.ofNat v.snd.snd.snd.fst.length))
                                (sel (decide ((0 : Int) < r.snd.fst))
                                  (sel (decide (Int.ofNat (0 : Nat) ≤ r.snd.fst))
                                    (sel (decide (r.snd.fst ≤ Int.ofNat v.snd.snd.snd.fst.length))
                                      (sel
                                        (decide
                                          (Int.ofNat v.snd.snd.snd.fst.length ≤ Int.ofNat v.snd.snd.snd.fst.length))
                                        (some
                                          (decide
                                              (ofBytes r_2.fst =
                                                ofBytes
                                                  (List.drop (Int.ofNat (0 : Nat)).toNat
                                                    (List.take r.snd.fst.toNat v.snd.snd.snd.fst))),
                                            ()))
                                        none)
                                      none)
                                    none)
                                  (some (false, ())))
                                (some (false, ())))
                              (some (false, ())))
                          (some (false, ())))))
                (ocall (G16 k (v.fst, v.snd.snd.snd.fst, ())) fun (r : List UInt8 × Int × Int × Unit) =>
                  sel (!decide (r.snd.snd.fst = (0 : Int)))
                    (sel (decide (r.fst = [])) (some (decide (r.snd.fst = (0 : Int)), ()))
                      (some (false, ())))
                    (ocall (G12 k (v.fst, r.fst, ())) fun (r_2 : List Int × Int × Unit) =>
                      sel (decide (r_2.snd.fst = (0 : Int)))
                        (ocall (G14 k (v.fst, r.fst, ())) fun (r_3 : Bool × Unit) =>
                          sel r_3.fst
                            (sel (decide (r.snd.fst ≤ Int.ofNat v.snd.snd.snd.fst.length))
                              (sel (decide ((0 : Int) < r.snd.fst))
                                (sel (decide (Int.ofNat (0 : Nat) ≤ r.snd.fst))
                                  (sel (decide (r.snd.fst ≤ Int.ofNat v.snd.snd.snd.fst.length))
                                    (sel
                                      (decide (Int.ofNat v.snd.snd.snd.fst.length ≤ Int.ofNat v.snd.snd.snd.fst.length))
                                      (some
                                        (decide
                                            (ofBytes r_2.fst =
                                              ofBytes
                                                (List.drop (Int.ofNat (0 : Nat)).toNat
                                                  (List.take r.snd.fst.toNat v.snd.snd.snd.fst))),
                                          ()))
                                      none)
                                    none)
                                  none)
                                (some (false, ())))
                              (some (false, ())))
                            (some (false, ())))
                        (some (false, ())))))))) := by kernel_rfl
noncomputable def G5_7 (k : Nat) (j : Nat) (v : Int × List UInt8 × Int × Int × Unit) : Option
  (Int × List UInt8 × Int × Unit ⊕ Bool × Unit) := F5_7 k j v
theorem G5_7_eq (k : Nat) (j : Nat) (v : Int × List UInt8 × Int × Int × Unit) : G5_7 k (j + (1 : Nat)) v =
  sel (decide (v.snd.snd.snd.fst ≤ (130 : Int)))
  (ocall (G10 k (v.snd.snd.snd.fst, ())) fun (r : (Int × Int × Int × Unit) × Bool × Unit) =>
    sel r.snd.fst
      (sel (!r.snd.fst == decide ((0 : Int) < r.fst.snd.snd.fst)) (some (Sum.inr (false, ())))
        (sel r.snd.fst
          (sel (!decide (r.fst.fst = v.snd.snd.snd.fst)) (some (Sum.inr (false, ())))
            (sel (decide (r.fst.snd.fst < (1 : Int))) (some (Sum.inr (false, ())))
              (sel (decide ((5 : Int) < r.fst.snd.fst)) (some (Sum.inr (false, ())))
                (G5_7 k j
                  (v.fst, v.snd.fst, Go.IntKind.i64.wrap (v.snd.snd.fst + (1 : Int)),
                    Go.IntKind.i64.wrap (v.snd.snd.snd.fst + (1 : Int)), ())))))
          (G5_7 k j
            (v.fst, v.snd.fst, Go.IntKind.i64.wrap (v.snd.snd.fst + (1 : Int)),
              Go.IntKind.i64.wrap (v.snd.snd.snd.fst + (1 : Int)), ()))))
      (sel (!r.snd.fst == decide ((0 : Int) < r.fst.snd.snd.fst)) (some (Sum.inr (false, ())))
        (sel r.snd.fst
          (sel (!decide (r.fst.fst = v.snd.snd.snd.fst)) (some (Sum.inr (false, ())))
            (sel (decide (r.fst.snd.fst < (1 : Int))) (some (Sum.inr (false, ())))
              (sel (decide ((5 : Int) < r.fst.snd.fst)) (some (Sum.inr (false, ())))
                (G5_7 k j
                  (v.fst, v.snd.fst, v.snd.snd.fst, Go.IntKind.i64.wrap (v.snd.snd.snd.fst + (1 : Int)), ())))))
          (G5_7 k j
            (v.fst, v.snd.fst, v.snd.snd.fst, Go.IntKind.i64.wrap (v.snd.snd.snd.fst + (1 : Int)), ())))))
  (some (Sum.inl (v.fst, v.snd.fst, v.snd.snd.fst, ()))) := by kernel_rfl
noncomputable def G5 (k : Nat) (v : Int × List UInt8 × Unit) : Option (Bool × Unit) := F5 k v
theorem G5_eq (k : Nat) (v : Int × List UInt8 × Unit) : G5 k v =
  ocall (G9 k ()) fun (r : Bool × Unit) =>
  sel (!r.fst) (some (false, ()))
    (sel (decide ((3000 : Int) < Int.ofNat v.snd.fst.length)) (some (true, ()))
      (ocall (G5_7 k k (v.fst, v.snd.fst, (0 : Int), (0 : Int), ()))
        fun (e : Int × List UInt8 × Int × Unit ⊕ Bool × Unit) =>
        esel e
          (fun (v : Int × List UInt8 × Int × Unit) =>
            ocall (G10 k (v.fst, ())) fun (r : (Int × Int × Int × Unit) × Bool × Unit) =>
              sel r.snd.fst
                (sel (decide (v.snd.snd.fst = (15 : Int)))
                  (sel (decide (r.fst.fst = v.fst))
                    (sel (decide ((2 : Int) ≤ v.fst)) (some (decide (v.fst ≤ (128 : Int)), ()))
                      (some (false, ())))
                    (some (false, ())))
                  (some (false, ())))
                (sel
                  (!(sameI r.fst.fst (OfNat.ofNat (0 : Nat)) &&
                      (sameI r.fst.snd.fst (OfNat.ofNat (0 : Nat)) &&
                        (sameI r.fst.snd.snd.fst (OfNat.ofNat (0 : Nat)) && true))))
                  (sel (decide (v.snd.snd.fst = (15 : Int)))
                    (sel (decide (r.fst.fst = v.fst))
                      (sel (decide ((2 : Int) ≤ v.fst)) (some (decide (v.fst ≤ (128 : Int)), ()))
                        (some (false, ())))
                      (some (false, ())))
                    (some (false, ())))
                  (ocall (G12 k (v.fst, v.snd.fst, ())) fun (r : List Int × Int × Unit) =>
                    ocall (G16 k (v.fst, toBytes v.snd.fst, ())) fun (r_1 : List UInt8 × Int × Int × Unit) =>
                      sel (decide (v.snd.snd.fst = (15 : Int)))
                        (sel (decide (r.snd.fst = (5 : Int)))
                          (sel (decide (r_1.snd.snd.fst = (5 : Int)))
                            (ocall (G14 k (v.fst, v.snd.fst, ())) fun (r : Bool × Unit) =>
                              some (!r.fst, ()))
                            (some (false, ())))
                          (some (false, ())))
                        (some (false, ())))))
          fun (e : Bool × Unit) => some (e.fst, ()))) := by kernel_rfl
end Go.Proofs.Ytjgnpmdbkgeakaa.G
