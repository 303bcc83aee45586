/- What each function's run comes to, as a plain function. -/
import Derived.Test.YtjgnpmdbkgeakaaDoorG
import Derived.KernelRfl
set_option maxRecDepth 1000000
set_option linter.unusedVariables false
set_option linter.unusedSimpArgs false
namespace Go.Proofs.YtjgnpmdbkgeakaaDoor.G
open Go Go.Proofs.YtjgnpmdbkgeakaaDoor Th
noncomputable def G175_2 (k : Nat) (j : Nat) (v : Int × List (Int × Int × Int × Unit) × Int × Int × Int × Int × Int × Unit) : Option
  (Int × Int × Int × Unit ⊕ Bool × Int × Int × Int × Unit) := F175_2 k j v
theorem G175_2_eq (k : Nat) (j : Nat) (v : Int × List (Int × Int × Int × Unit) × Int × Int × Int × Int × Int × Unit) : G175_2
  k (j + (1 : Nat)) v =
  sel (decide (v.snd.snd.snd.fst < v.snd.snd.fst))
  (sel (decide ((0 : Int) ≤ v.snd.snd.snd.fst))
    (sel (decide (v.snd.snd.snd.fst < Int.ofNat v.snd.fst.length))
      (sel (decide (v.snd.snd.snd.fst.toNat < v.snd.fst.length))
        (sel
          (decide
            ((v.snd.fst.getD v.snd.snd.snd.fst.toNat
                  (OfNat.ofNat (0 : Nat), OfNat.ofNat (0 : Nat), OfNat.ofNat (0 : Nat), ())).fst =
              v.fst))
          (some
            (Sum.inr
              (true,
                (v.snd.fst.getD v.snd.snd.snd.fst.toNat
                    (OfNat.ofNat (0 : Nat), OfNat.ofNat (0 : Nat), OfNat.ofNat (0 : Nat), ())).fst,
                (v.snd.fst.getD v.snd.snd.snd.fst.toNat
                      (OfNat.ofNat (0 : Nat), OfNat.ofNat (0 : Nat), OfNat.ofNat (0 : Nat), ())).snd.fst,
                (v.snd.fst.getD v.snd.snd.snd.fst.toNat
                        (OfNat.ofNat (0 : Nat), OfNat.ofNat (0 : Nat), OfNat.ofNat (0 : Nat), ())).snd.snd.fst,
                ())))
          (G175_2 k j
            (v.fst, v.snd.fst, v.snd.snd.fst, Go.IntKind.i64.wrap (v.snd.snd.snd.fst + (1 : Int)),
              v.snd.snd.snd.snd.fst, v.snd.snd.snd.snd.snd.fst, v.snd.snd.snd.snd.snd.snd.fst, ())))
        none)
      none)
    none)
  (some
    (Sum.inl
      (v.snd.snd.snd.snd.fst, v.snd.snd.snd.snd.snd.fst, v.snd.snd.snd.snd.snd.snd.fst, ()))) := by kernel_rfl
noncomputable def G175 (k : Nat) (v : Int × Unit) : Option ((Int × Int × Int × Unit) × Bool × Unit) := F175 k v
theorem G175_eq (k : Nat) (v : Int × Unit) : G175 k v =
  ocall
  (G175_2 k k
    (v.fst,
      [((2 : Int), (3 : Int), (19 : Int), ()), ((3 : Int), (1 : Int), (6 : Int), ()),
        ((4 : Int), (1 : Int), (12 : Int), ()), ((7 : Int), (1 : Int), (10 : Int), ()),
        ((11 : Int), (1 : Int), (6 : Int), ()), ((12 : Int), (1 : Int), (6 : Int), ()),
        ((37 : Int), (2 : Int), (12 : Int), ()), ((38 : Int), (2 : Int), (6 : Int), ()),
        ((39 : Int), (2 : Int), (2 : Int), ()), ((41 : Int), (2 : Int), (8 : Int), ()),
        ((44 : Int), (4 : Int), (25 : Int), ()), ((48 : Int), (5 : Int), (999 : Int), ()),
        ((49 : Int), (1 : Int), (3 : Int), ()), ((90 : Int), (1 : Int), (42 : Int), ()),
        ((120 : Int), (5 : Int), (999 : Int), ())],
      Int.ofNat (15 : Nat), (0 : Int), (0 : Int), (0 : Int), (0 : Int), ()))
  fun (e : Int × Int × Int × Unit ⊕ Bool × Int × Int × Int × Unit) =>
  esel e (fun (v : Int × Int × Int × Unit) => some (((0 : Int), (0 : Int), (0 : Int), ()), false, ()))
    fun (e : Bool × Int × Int × Int × Unit) =>
    some ((e.snd.fst, e.snd.snd.fst, e.snd.snd.snd.fst, ()), e.fst, ()) := by kernel_rfl
noncomputable def G176 (k : Nat) (v : (Int × Int × Int × Unit) × Unit) : Option
  ((Int × Int × Unit) × Unit ⊕ (Int × Unit) × Unit) := F176 k v
theorem G176_eq (k : Nat) (v : (Int × Int × Int × Unit) × Unit) : G176 k v =
  sel (decide (v.fst.snd.fst = (3 : Int)))
  (sel (decide (v.fst.snd.fst = (3 : Int))) (some (Sum.inl (((2 : Int), v.fst.snd.snd.fst, ()), ())))
    (sel (decide (v.fst.snd.fst = (5 : Int))) (some (Sum.inl (((3 : Int), v.fst.snd.snd.fst, ()), ())))
      (some (Sum.inr ((v.fst.snd.snd.fst, ()), ())))))
  (sel (decide (v.fst.snd.fst = (4 : Int))) (some (Sum.inl (((2 : Int), v.fst.snd.snd.fst, ()), ())))
    (sel (decide (v.fst.snd.fst = (5 : Int))) (some (Sum.inl (((3 : Int), v.fst.snd.snd.fst, ()), ())))
      (some (Sum.inr ((v.fst.snd.snd.fst, ()), ()))))) := by kernel_rfl
noncomputable def G246 (k : Nat) (v : (Int × Int × Unit) × Int × Unit) : Option (Bool × Unit) := F246 k v
theorem G246_eq (k : Nat) (v : (Int × Int × Unit) × Int × Unit) : G246 k v =
  sel (decide ((1 : Int) ≤ v.snd.fst)) (some (decide (v.snd.fst ≤ v.fst.snd.fst), ()))
  (some (false, ())) := by kernel_rfl
noncomputable def G248 (k : Nat) (v : (Int × Unit) × Int × Unit) : Option (Bool × Unit) := F248 k v
theorem G248_eq (k : Nat) (v : (Int × Unit) × Int × Unit) : G248 k v =
  some (decide (v.snd.fst = v.fst.fst), ()) := by kernel_rfl
noncomputable def G169_g0 (k : Nat) (j : Nat) (v : List UInt8 × Int × Unit) : Option (Bool × Unit) := F169_g0 k j v
theorem G169_g0_eq (k : Nat) (j : Nat) (v : List UInt8 × Int × Unit) : G169_g0 k (j + (1 : Nat)) v =
  sel (decide (v.snd.fst = Int.ofNat v.fst.length)) (some (decide ((0 : Int) < v.snd.fst), ()))
  (sel (decide ((0 : Int) ≤ v.snd.fst))
    (sel (decide (v.snd.fst < Int.ofNat v.fst.length))
      (sel (decide (Int.ofNat (v.fst.getD v.snd.fst.toNat (0 : UInt8)).toNat < (48 : Int))) (some (false, ()))
        (sel (decide ((0 : Int) ≤ v.snd.fst))
          (sel (decide (v.snd.fst < Int.ofNat v.fst.length))
            (sel (decide ((57 : Int) < Int.ofNat (v.fst.getD v.snd.fst.toNat (0 : UInt8)).toNat))
              (some (false, ())) (G169_g0 k j (v.fst, Go.IntKind.i64.wrap (v.snd.fst + (1 : Int)), ())))
            none)
          none))
      none)
    none) := by kernel_rfl
noncomputable def G169 (k : Nat) (v : List UInt8 × Unit) : Option (Bool × Unit) := F169 k v
theorem G169_eq (k : Nat) (v : List UInt8 × Unit) : G169 k v =
  sel (decide ((0 : Int) = Int.ofNat v.fst.length)) (some (false, ()))
  (sel (decide ((0 : Int) < Int.ofNat v.fst.length))
    (sel (decide (Int.ofNat (v.fst.getD (Int.toNat (0 : Int)) (0 : UInt8)).toNat < (48 : Int)))
      (some (false, ()))
      (sel (decide ((0 : Int) < Int.ofNat v.fst.length))
        (sel (decide ((57 : Int) < Int.ofNat (v.fst.getD (Int.toNat (0 : Int)) (0 : UInt8)).toNat))
          (some (false, ()))
          (ocall (G169_g0 k k (v.fst, Go.IntKind.i64.wrap ((0 : Int) + (1 : Int)), ()))
            fun (e : Bool × Unit) => some (e.fst, ())))
        none))
    none) := by kernel_rfl
noncomputable def G177 (k : Nat) (v : (Int × Int × Int × Unit) × List UInt8 × Unit) : Option
  (Bool × Unit) := F177 k v
theorem G177_eq (k : Nat) (v : (Int × Int × Int × Unit) × List UInt8 × Unit) : G177 k v =
  sel (decide (v.snd.fst.length ≤ (9223372036854775807 : Nat)))
  (ocall (G169 k (v.snd.fst, ())) fun (r : Bool × Unit) =>
    some (Signs.signsOf v.fst.snd.fst r.fst v.snd.fst, ()))
  none := by kernel_rfl
noncomputable def G117 (k : Nat) (v : Int × List UInt8 × Unit) : Option (Bool × Unit) := F117 k v
theorem G117_eq (k : Nat) (v : Int × List UInt8 × Unit) : G117 k v =
  ocall (G175 k (v.fst, ())) fun (r : (Int × Int × Int × Unit) × Bool × Unit) =>
  sel r.snd.fst
    (ocall (G176 k ((r.fst.fst, r.fst.snd.fst, r.fst.snd.snd.fst, ()), ()))
      fun (r_1 : (Int × Int × Unit) × Unit ⊕ (Int × Unit) × Unit) =>
      esel r_1
        (fun (v_1 : (Int × Int × Unit) × Unit) =>
          ocall (G246 k ((v_1.fst.fst, v_1.fst.snd.fst, ()), Int.ofNat v.snd.fst.length, ()))
            fun (r_2 : Bool × Unit) =>
            sel r_2.fst
              (ocall (G177 k ((r.fst.fst, r.fst.snd.fst, r.fst.snd.snd.fst, ()), v.snd.fst, ()))
                fun (r : Bool × Unit) => some (r.fst, ()))
              (some (false, ())))
        fun (e : (Int × Unit) × Unit) =>
        ocall (G248 k ((e.fst.fst, ()), Int.ofNat v.snd.fst.length, ())) fun (r_2 : Bool × Unit) =>
          sel r_2.fst
            (ocall (G177 k ((r.fst.fst, r.fst.snd.fst, r.fst.snd.snd.fst, ()), v.snd.fst, ()))
              fun (r : Bool × Unit) => some (r.fst, ()))
            (some (false, ())))
    (some (false, ())) := by kernel_rfl
noncomputable def G245 (k : Nat) (v : (Int × Int × Unit) × Unit) : Option (Int × Unit) := F245 k v
theorem G245_eq (k : Nat) (v : (Int × Int × Unit) × Unit) : G245 k v =
  some (v.fst.fst, ()) := by kernel_rfl
noncomputable def G247 (k : Nat) (v : (Int × Unit) × Unit) : Option (Int × Unit) := F247 k v
theorem G247_eq (k : Nat) (v : (Int × Unit) × Unit) : G247 k v =
  some ((0 : Int), ()) := by kernel_rfl
noncomputable def G105_5 (k : Nat) (j : Nat) (v : Int × List Int × Int × Unit) : Option
  (Int × List Int × Unit) := F105_5 k j v
theorem G105_5_eq (k : Nat) (j : Nat) (v : Int × List Int × Int × Unit) : G105_5 k (j + (1 : Nat)) v =
  sel (decide ((0 : Int) ≤ v.snd.snd.fst))
  (sel (decide ((0 : Int) ≤ v.snd.snd.fst))
    (sel (decide (v.snd.snd.fst < Int.ofNat v.snd.fst.length))
      (sel (decide (v.snd.snd.fst.toNat < v.snd.fst.length))
        (G105_5 k j
          (Go.IntKind.u64.wrap (v.fst.tdiv (10 : Int)),
            v.snd.fst.set v.snd.snd.fst.toNat
              (Go.IntKind.u8.wrap ((48 : Int) + Go.IntKind.u8.wrap (v.fst.tmod (10 : Int)))),
            Go.IntKind.i64.wrap (v.snd.snd.fst - (1 : Int)), ()))
        none)
      none)
    none)
  (some (v.fst, v.snd.fst, ())) := by kernel_rfl
noncomputable def G105 (k : Nat) (v : Int × Int × Unit) : Option (List UInt8 × Int × Unit) := F105 k v
theorem G105_eq (k : Nat) (v : Int × Int × Unit) : G105 k v =
  sel (decide (v.snd.fst < (1 : Int))) (some ([], (1 : Int), ()))
  (sel (decide ((19 : Int) < v.snd.fst)) (some ([], (1 : Int), ()))
    (sel (decide ((0 : Int) ≤ v.snd.fst))
      (sel (decide (v.snd.fst ≤ v.snd.fst))
        (sel (decide (v.snd.fst ≤ (140737488355328 : Int)))
          (sel (decide (v.snd.fst * Int.ofNat (1 : Nat) ≤ (140737488355328 : Int)))
            (ocall
              (G105_5 k k
                (v.fst, List.replicate v.snd.fst.toNat (OfNat.ofNat (0 : Nat)),
                  Go.IntKind.i64.wrap (v.snd.fst - (1 : Int)), ()))
              fun (e : Int × List Int × Unit) =>
              sel (decide ((0 : Int) < e.fst)) (some ([], (10 : Int), ()))
                (some (ofBytes e.snd.fst, (0 : Int), ())))
            none)
          none)
        none)
      none)) := by kernel_rfl
noncomputable def G139 (k : Nat) (v : Int × List UInt8 × Unit) : Option (List Int × Int × Unit) := F139 k v
theorem G139_eq (k : Nat) (v : Int × List UInt8 × Unit) : G139 k v =
  ocall (G175 k (v.fst, ())) fun (r : (Int × Int × Int × Unit) × Bool × Unit) =>
  sel (!r.snd.fst) (some ([], (5 : Int), ()))
    (ocall (G117 k (v.fst, v.snd.fst, ())) fun (r_1 : Bool × Unit) =>
      sel (!r_1.fst) (some ([], (1 : Int), ()))
        (ocall (G176 k ((r.fst.fst, r.fst.snd.fst, r.fst.snd.snd.fst, ()), ()))
          fun (r : (Int × Int × Unit) × Unit ⊕ (Int × Unit) × Unit) =>
          esel r
            (fun (v_1 : (Int × Int × Unit) × Unit) =>
              ocall (G245 k ((v_1.fst.fst, v_1.fst.snd.fst, ()), ())) fun (r : Int × Unit) =>
                sel (decide ((0 : Int) < r.fst))
                  (ocall (G105 k (Go.IntKind.u64.wrap (Int.ofNat v.snd.fst.length), r.fst, ()))
                    fun (r : List UInt8 × Int × Unit) =>
                    sel (decide (r.fst.length + v.snd.fst.length ≤ (140737488355328 : Nat)))
                      (some (toBytes (r.fst ++ v.snd.fst), (0 : Int), ())) none)
                  (some (toBytes v.snd.fst, (0 : Int), ())))
            fun (e : (Int × Unit) × Unit) =>
            ocall (G247 k ((e.fst.fst, ()), ())) fun (r : Int × Unit) =>
              sel (decide ((0 : Int) < r.fst))
                (ocall (G105 k (Go.IntKind.u64.wrap (Int.ofNat v.snd.fst.length), r.fst, ()))
                  fun (r : List UInt8 × Int × Unit) =>
                  sel (decide (r.fst.length + v.snd.fst.length ≤ (140737488355328 : Nat)))
                    (some (toBytes (r.fst ++ v.snd.fst), (0 : Int), ())) none)
                (some (toBytes v.snd.fst, (0 : Int), ())))) := by kernel_rfl
noncomputable def G172_9 (k : Nat) (j : Nat) (v : Int × List Int × Int × Int × Unit) : Option
  (Int × Unit) := F172_9 k j v
theorem G172_9_eq (k : Nat) (j : Nat) (v : Int × List Int × Int × Int × Unit) : G172_9 k (j + (1 : Nat)) v =
  sel (decide (v.snd.snd.snd.fst < v.snd.snd.fst))
  (sel (decide ((0 : Int) ≤ v.snd.snd.snd.fst))
    (sel (decide (v.snd.snd.snd.fst < Int.ofNat v.snd.fst.length))
      (sel (decide (v.snd.snd.snd.fst.toNat < v.snd.fst.length))
        (G172_9 k j
          (Go.IntKind.u64.wrap
              (Go.IntKind.u64.wrap ((10 : Int) * v.fst) +
                Go.IntKind.u64.wrap
                  (Go.IntKind.u8.wrap (v.snd.fst.getD v.snd.snd.snd.fst.toNat (OfNat.ofNat (0 : Nat)) - (48 : Int)))),
            v.snd.fst, v.snd.snd.fst, Go.IntKind.i64.wrap (v.snd.snd.snd.fst + (1 : Int)), ()))
        none)
      none)
    none)
  (some (v.fst, ())) := by kernel_rfl
noncomputable def G172 (k : Nat) (v : List UInt8 × Unit) : Option (Int × Int × Unit) := F172 k v
theorem G172_eq (k : Nat) (v : List UInt8 × Unit) : G172 k v =
  sel (decide (v.fst = [])) (some ((0 : Int), (2 : Int), ()))
  (sel (decide ((19 : Int) < Int.ofNat v.fst.length)) (some ((0 : Int), (4 : Int), ()))
    (ocall (G169 k (v.fst, ())) fun (r : Bool × Unit) =>
      sel (!r.fst) (some ((0 : Int), (3 : Int), ()))
        (ocall (G172_9 k k ((0 : Int), toBytes v.fst, Int.ofNat (toBytes v.fst).length, (0 : Int), ()))
          fun (e : Int × Unit) => some (e.fst, (0 : Int), ())))) := by kernel_rfl
noncomputable def G195 (k : Nat) (v : (Int × Int × Int × Unit) × List Int × Unit) : Option
  (Int × Int × Unit) := F195 k v
theorem G195_eq (k : Nat) (v : (Int × Int × Int × Unit) × List Int × Unit) : G195 k v =
  ocall (G176 k ((v.fst.fst, v.fst.snd.fst, v.fst.snd.snd.fst, ()), ()))
  fun (r : (Int × Int × Unit) × Unit ⊕ (Int × Unit) × Unit) =>
  esel r
    (fun (v_1 : (Int × Int × Unit) × Unit) =>
      ocall (G245 k ((v_1.fst.fst, v_1.fst.snd.fst, ()), ())) fun (r : Int × Unit) =>
        sel (decide (r.fst = (0 : Int))) (some (v.fst.snd.snd.fst, (0 : Int), ()))
          (sel (decide (Int.ofNat v.snd.fst.length < r.fst)) (some ((0 : Int), (2 : Int), ()))
            (sel (decide (Int.ofNat (0 : Nat) ≤ r.fst))
              (sel (decide (r.fst ≤ Int.ofNat v.snd.fst.length))
                (sel (decide (Int.ofNat v.snd.fst.length ≤ Int.ofNat v.snd.fst.length))
                  (ocall
                    (G172 k
                      (ofBytes (List.drop (Int.ofNat (0 : Nat)).toNat (List.take r.fst.toNat v.snd.fst)), ()))
                    fun (r : Int × Int × Unit) =>
                    sel (!decide (r.snd.fst = (0 : Int)))
                      (sel (!decide (r.snd.fst = (0 : Int))) (some ((0 : Int), (3 : Int), ()))
                        (sel (decide (Go.IntKind.u64.wrap v.fst.snd.snd.fst < r.fst))
                          (some ((0 : Int), (4 : Int), ()))
                          (some (Go.IntKind.i64.wrap r.fst, (0 : Int), ()))))
                      (sel (decide (r.fst = (0 : Int))) (some ((0 : Int), (3 : Int), ()))
                        (sel (decide (Go.IntKind.u64.wrap v.fst.snd.snd.fst < r.fst))
                          (some ((0 : Int), (4 : Int), ()))
                          (some (Go.IntKind.i64.wrap r.fst, (0 : Int), ())))))
                  none)
                none)
              none)))
    fun (e : (Int × Unit) × Unit) =>
    ocall (G247 k ((e.fst.fst, ()), ())) fun (r : Int × Unit) =>
      sel (decide (r.fst = (0 : Int))) (some (v.fst.snd.snd.fst, (0 : Int), ()))
        (sel (decide (Int.ofNat v.snd.fst.length < r.fst)) (some ((0 : Int), (2 : Int), ()))
          (sel (decide (Int.ofNat (0 : Nat) ≤ r.fst))
            (sel (decide (r.fst ≤ Int.ofNat v.snd.fst.length))
              (sel (decide (Int.ofNat v.snd.fst.length ≤ Int.ofNat v.snd.fst.length))
                (ocall
                  (G172 k
                    (ofBytes (List.drop (Int.ofNat (0 : Nat)).toNat (List.take r.fst.toNat v.snd.fst)), ()))
                  fun (r : Int × Int × Unit) =>
                  sel (!decide (r.snd.fst = (0 : Int)))
                    (sel (!decide (r.snd.fst = (0 : Int))) (some ((0 : Int), (3 : Int), ()))
                      (sel (decide (Go.IntKind.u64.wrap v.fst.snd.snd.fst < r.fst))
                        (some ((0 : Int), (4 : Int), ()))
                        (some (Go.IntKind.i64.wrap r.fst, (0 : Int), ()))))
                    (sel (decide (r.fst = (0 : Int))) (some ((0 : Int), (3 : Int), ()))
                      (sel (decide (Go.IntKind.u64.wrap v.fst.snd.snd.fst < r.fst))
                        (some ((0 : Int), (4 : Int), ()))
                        (some (Go.IntKind.i64.wrap r.fst, (0 : Int), ())))))
                none)
              none)
            none)) := by kernel_rfl
noncomputable def G144 (k : Nat) (v : Int × List Int × Unit) : Option (List UInt8 × Int × Int × Unit) := F144 k v
theorem G144_eq (k : Nat) (v : Int × List Int × Unit) : G144 k v =
  ocall (G175 k (v.fst, ())) fun (r : (Int × Int × Int × Unit) × Bool × Unit) =>
  sel (!r.snd.fst) (some ([], (0 : Int), (5 : Int), ()))
    (ocall (G195 k ((r.fst.fst, r.fst.snd.fst, r.fst.snd.snd.fst, ()), v.snd.fst, ()))
      fun (r_1 : Int × Int × Unit) =>
      sel (!decide (r_1.snd.fst = (0 : Int))) (some ([], (0 : Int), r_1.snd.fst, ()))
        (ocall (G176 k ((r.fst.fst, r.fst.snd.fst, r.fst.snd.snd.fst, ()), ()))
          fun (r_2 : (Int × Int × Unit) × Unit ⊕ (Int × Unit) × Unit) =>
          esel r_2
            (fun (v_1 : (Int × Int × Unit) × Unit) =>
              ocall (G245 k ((v_1.fst.fst, v_1.fst.snd.fst, ()), ())) fun (r_3 : Int × Unit) =>
                sel (decide (Int.ofNat v.snd.fst.length < Go.IntKind.i64.wrap (r_3.fst + r_1.fst)))
                  (some ([], (0 : Int), (2 : Int), ()))
                  (sel (decide ((0 : Int) ≤ r_3.fst))
                    (sel (decide (r_3.fst ≤ Go.IntKind.i64.wrap (r_3.fst + r_1.fst)))
                      (sel (decide (Go.IntKind.i64.wrap (r_3.fst + r_1.fst) ≤ Int.ofNat v.snd.fst.length))
                        (sel (decide (Int.ofNat v.snd.fst.length ≤ Int.ofNat v.snd.fst.length))
                          (ocall
                            (G177 k
                              ((r.fst.fst, r.fst.snd.fst, r.fst.snd.snd.fst, ()),
                                ofBytes
                                  (List.drop r_3.fst.toNat
                                    (List.take (Go.IntKind.i64.wrap (r_3.fst + r_1.fst)).toNat v.snd.fst)),
                                ()))
                            fun (r : Bool × Unit) =>
                            sel (!r.fst) (some ([], (0 : Int), (3 : Int), ()))
                              (some
                                (ofBytes
                                    (List.drop r_3.fst.toNat
                                      (List.take (Go.IntKind.i64.wrap (r_3.fst + r_1.fst)).toNat v.snd.fst)),
                                  Go.IntKind.i64.wrap (r_3.fst + r_1.fst), (0 : Int), ())))
                          none)
                        none)
                      none)
                    none))
            fun (e : (Int × Unit) × Unit) =>
            ocall (G247 k ((e.fst.fst, ()), ())) fun (r_3 : Int × Unit) =>
              sel (decide (Int.ofNat v.snd.fst.length < Go.IntKind.i64.wrap (r_3.fst + r_1.fst)))
                (some ([], (0 : Int), (2 : Int), ()))
                (sel (decide ((0 : Int) ≤ r_3.fst))
                  (sel (decide (r_3.fst ≤ Go.IntKind.i64.wrap (r_3.fst + r_1.fst)))
                    (sel (decide (Go.IntKind.i64.wrap (r_3.fst + r_1.fst) ≤ Int.ofNat v.snd.fst.length))
                      (sel (decide (Int.ofNat v.snd.fst.length ≤ Int.ofNat v.snd.fst.length))
                        (ocall
                          (G177 k
                            ((r.fst.fst, r.fst.snd.fst, r.fst.snd.snd.fst, ()),
                              ofBytes
                                (List.drop r_3.fst.toNat
                                  (List.take (Go.IntKind.i64.wrap (r_3.fst + r_1.fst)).toNat v.snd.fst)),
                              ()))
                          fun (r : Bool × Unit) =>
                          sel (!r.fst) (some ([], (0 : Int), (3 : Int), ()))
                            (some
                              (ofBytes
                                  (List.drop r_3.fst.toNat
                                    (List.take (Go.IntKind.i64.wrap (r_3.fst + r_1.fst)).toNat v.snd.fst)),
                                Go.IntKind.i64.wrap (r_3.fst + r_1.fst), (0 : Int), ())))
                        none)
                      none)
                    none)
                  none))) := by kernel_rfl
noncomputable def G202 (k : Nat) (v : Unit) : Option (List Int × Unit) := F202 k v
theorem G202_eq (k : Nat) (v : Unit) : G202 k v =
  some
  ([(2 : Int), (3 : Int), (19 : Int), (3 : Int), (1 : Int), (6 : Int), (4 : Int), (1 : Int), (12 : Int), (7 : Int),
      (1 : Int), (10 : Int), (11 : Int), (1 : Int), (6 : Int), (12 : Int), (1 : Int), (6 : Int), (37 : Int), (2 : Int),
      (12 : Int), (38 : Int), (2 : Int), (6 : Int), (39 : Int), (2 : Int), (2 : Int), (41 : Int), (2 : Int), (8 : Int),
      (44 : Int), (4 : Int), (25 : Int), (48 : Int), (5 : Int), (999 : Int), (49 : Int), (1 : Int), (3 : Int),
      (90 : Int), (1 : Int), (42 : Int), (120 : Int), (5 : Int), (999 : Int)],
    ()) := by kernel_rfl
noncomputable def G164_3 (k : Nat) (j : Nat) (v : Int × List Int × Int × Int × Int × Int × Unit) : Option
  (Int × Int × Int × Unit ⊕ Bool × Int × Int × Int × Unit) := F164_3 k j v
theorem G164_3_eq (k : Nat) (j : Nat) (v : Int × List Int × Int × Int × Int × Int × Unit) : G164_3 k (j + (1 : Nat))
  v =
  sel (decide (v.snd.snd.fst < Int.ofNat v.snd.fst.length))
  (sel (decide ((0 : Int) ≤ v.snd.snd.fst))
    (sel (decide (v.snd.snd.fst < Int.ofNat v.snd.fst.length))
      (sel (decide (v.snd.snd.fst.toNat < v.snd.fst.length))
        (sel (decide (v.snd.fst.getD v.snd.snd.fst.toNat (OfNat.ofNat (0 : Nat)) = v.fst))
          (sel (decide ((0 : Int) ≤ v.snd.snd.fst))
            (sel (decide (v.snd.snd.fst < Int.ofNat v.snd.fst.length))
              (sel (decide (v.snd.snd.fst.toNat < v.snd.fst.length))
                (sel (decide ((0 : Int) ≤ Go.IntKind.i64.wrap (v.snd.snd.fst + (1 : Int))))
                  (sel (decide (Go.IntKind.i64.wrap (v.snd.snd.fst + (1 : Int)) < Int.ofNat v.snd.fst.length))
                    (sel (decide ((Go.IntKind.i64.wrap (v.snd.snd.fst + (1 : Int))).toNat < v.snd.fst.length))
                      (sel (decide ((0 : Int) ≤ Go.IntKind.i64.wrap (v.snd.snd.fst + (2 : Int))))
                        (sel (decide (Go.IntKind.i64.wrap (v.snd.snd.fst + (2 : Int)) < Int.ofNat v.snd.fst.length))
                          (sel (decide ((Go.IntKind.i64.wrap (v.snd.snd.fst + (2 : Int))).toNat < v.snd.fst.length))
                            (some
                              (Sum.inr
                                (true, v.snd.fst.getD v.snd.snd.fst.toNat (OfNat.ofNat (0 : Nat)),
                                  v.snd.fst.getD (Go.IntKind.i64.wrap (v.snd.snd.fst + (1 : Int))).toNat
                                    (OfNat.ofNat (0 : Nat)),
                                  v.snd.fst.getD (Go.IntKind.i64.wrap (v.snd.snd.fst + (2 : Int))).toNat
                                    (OfNat.ofNat (0 : Nat)),
                                  ())))
                            none)
                          none)
                        none)
                      none)
                    none)
                  none)
                none)
              none)
            none)
          (G164_3 k j
            (v.fst, v.snd.fst, Go.IntKind.i64.wrap (v.snd.snd.fst + (3 : Int)), v.snd.snd.snd.fst,
              v.snd.snd.snd.snd.fst, v.snd.snd.snd.snd.snd.fst, ())))
        none)
      none)
    none)
  (some (Sum.inl (v.snd.snd.snd.fst, v.snd.snd.snd.snd.fst, v.snd.snd.snd.snd.snd.fst, ()))) := by kernel_rfl
noncomputable def G164 (k : Nat) (v : Int × Unit) : Option ((Int × Int × Int × Unit) × Bool × Unit) := F164 k v
theorem G164_eq (k : Nat) (v : Int × Unit) : G164 k v =
  ocall (G202 k ()) fun (r : List Int × Unit) =>
  ocall (G164_3 k k (v.fst, r.fst, (0 : Int), (0 : Int), (0 : Int), (0 : Int), ()))
    fun (e : Int × Int × Int × Unit ⊕ Bool × Int × Int × Int × Unit) =>
    esel e
      (fun (v : Int × Int × Int × Unit) => some (((0 : Int), (0 : Int), (0 : Int), ()), false, ()))
      fun (e : Bool × Int × Int × Int × Unit) =>
      some ((e.snd.fst, e.snd.snd.fst, e.snd.snd.snd.fst, ()), e.fst, ()) := by kernel_rfl
noncomputable def G221 (k : Nat) (v : Int × Unit) : Option (Int × Unit) := F221 k v
theorem G221_eq (k : Nat) (v : Int × Unit) : G221 k v =
  sel (decide (v.fst < (3 : Int))) (some ((0 : Int), ()))
  (sel (decide (v.fst = (5 : Int))) (some ((3 : Int), ())) (some ((2 : Int), ()))) := by kernel_rfl
noncomputable def G171_2 (k : Nat) (j : Nat) (v : List UInt8 × Int × Unit) : Option
  (List UInt8 × Unit ⊕ Bool × Unit) := F171_2 k j v
theorem G171_2_eq (k : Nat) (j : Nat) (v : List UInt8 × Int × Unit) : G171_2 k (j + (1 : Nat)) v =
  sel (decide (v.snd.fst < Int.ofNat v.fst.length))
  (sel (decide ((0 : Int) ≤ v.snd.fst))
    (sel (decide (v.snd.fst < Int.ofNat v.fst.length))
      (sel (decide (Int.ofNat (v.fst.getD v.snd.fst.toNat (0 : UInt8)).toNat < (48 : Int)))
        (some (Sum.inr (false, ())))
        (sel (decide ((0 : Int) ≤ v.snd.fst))
          (sel (decide (v.snd.fst < Int.ofNat v.fst.length))
            (sel (decide ((57 : Int) < Int.ofNat (v.fst.getD v.snd.fst.toNat (0 : UInt8)).toNat))
              (some (Sum.inr (false, ())))
              (G171_2 k j (v.fst, Go.IntKind.i64.wrap (v.snd.fst + (1 : Int)), ())))
            none)
          none))
      none)
    none)
  (some (Sum.inl (v.fst, ()))) := by kernel_rfl
noncomputable def G171 (k : Nat) (v : List UInt8 × Unit) : Option (Bool × Unit) := F171 k v
theorem G171_eq (k : Nat) (v : List UInt8 × Unit) : G171 k v =
  ocall (G171_2 k k (v.fst, (0 : Int), ())) fun (e : List UInt8 × Unit ⊕ Bool × Unit) =>
  esel e (fun (v : List UInt8 × Unit) => some (decide ((0 : Int) < Int.ofNat v.fst.length), ()))
    fun (e : Bool × Unit) => some (e.fst, ()) := by kernel_rfl
noncomputable def G120_9 (k : Nat) (j : Nat) (v : List UInt8 × Int × Int × Unit) : Option
  (Int × Unit) := F120_9 k j v
theorem G120_9_eq (k : Nat) (j : Nat) (v : List UInt8 × Int × Int × Unit) : G120_9 k (j + (1 : Nat)) v =
  sel (decide (v.snd.snd.fst < Int.ofNat v.fst.length))
  (sel (decide ((0 : Int) ≤ v.snd.snd.fst))
    (sel (decide (v.snd.snd.fst < Int.ofNat v.fst.length))
      (G120_9 k j
        (v.fst,
          Go.IntKind.u64.wrap
            (Go.IntKind.u64.wrap
                (Go.IntKind.u64.wrap ((10 : Int) * v.snd.fst) +
                  Go.IntKind.u64.wrap (Int.ofNat (v.fst.getD v.snd.snd.fst.toNat (0 : UInt8)).toNat)) -
              (48 : Int)),
          Go.IntKind.i64.wrap (v.snd.snd.fst + (1 : Int)), ()))
      none)
    none)
  (some (v.snd.fst, ())) := by kernel_rfl
noncomputable def G120 (k : Nat) (v : List UInt8 × Unit) : Option (Int × Int × Unit) := F120 k v
theorem G120_eq (k : Nat) (v : List UInt8 × Unit) : G120 k v =
  sel (decide (Int.ofNat v.fst.length = (0 : Int))) (some ((0 : Int), (2 : Int), ()))
  (sel (decide ((19 : Int) < Int.ofNat v.fst.length)) (some ((0 : Int), (4 : Int), ()))
    (ocall (G171 k (v.fst, ())) fun (r : Bool × Unit) =>
      sel (!r.fst) (some ((0 : Int), (3 : Int), ()))
        (ocall (G120_9 k k (v.fst, (0 : Int), (0 : Int), ())) fun (e : Int × Unit) =>
          some (e.fst, (0 : Int), ())))) := by kernel_rfl
noncomputable def G165_2 (k : Nat) (j : Nat) (v : Int × List UInt8 × Int × Unit) : Option
  (Unit ⊕ Bool × Unit) := F165_2 k j v
theorem G165_2_eq (k : Nat) (j : Nat) (v : Int × List UInt8 × Int × Unit) : G165_2 k (j + (1 : Nat)) v =
  sel (decide (v.snd.snd.fst < Int.ofNat v.snd.fst.length))
  (sel (decide (v.fst = (1 : Int)))
    (sel (decide ((0 : Int) ≤ v.snd.snd.fst))
      (sel (decide (v.snd.snd.fst < Int.ofNat v.snd.fst.length))
        (sel (decide (Int.ofNat (v.snd.fst.getD v.snd.snd.fst.toNat (0 : UInt8)).toNat < (48 : Int)))
          (some (Sum.inr (false, ())))
          (sel (decide ((0 : Int) ≤ v.snd.snd.fst))
            (sel (decide (v.snd.snd.fst < Int.ofNat v.snd.fst.length))
              (sel (decide ((57 : Int) < Int.ofNat (v.snd.fst.getD v.snd.snd.fst.toNat (0 : UInt8)).toNat))
                (some (Sum.inr (false, ())))
                (G165_2 k j (v.fst, v.snd.fst, Go.IntKind.i64.wrap (v.snd.snd.fst + (1 : Int)), ())))
              none)
            none))
        none)
      none)
    (sel (decide (v.fst = (3 : Int)))
      (sel (decide ((0 : Int) ≤ v.snd.snd.fst))
        (sel (decide (v.snd.snd.fst < Int.ofNat v.snd.fst.length))
          (sel (decide (Int.ofNat (v.snd.fst.getD v.snd.snd.fst.toNat (0 : UInt8)).toNat < (48 : Int)))
            (some (Sum.inr (false, ())))
            (sel (decide ((0 : Int) ≤ v.snd.snd.fst))
              (sel (decide (v.snd.snd.fst < Int.ofNat v.snd.fst.length))
                (sel (decide ((57 : Int) < Int.ofNat (v.snd.fst.getD v.snd.snd.fst.toNat (0 : UInt8)).toNat))
                  (some (Sum.inr (false, ())))
                  (G165_2 k j (v.fst, v.snd.fst, Go.IntKind.i64.wrap (v.snd.snd.fst + (1 : Int)), ())))
                none)
              none))
          none)
        none)
      (sel (decide ((0 : Int) ≤ v.snd.snd.fst))
        (sel (decide (v.snd.snd.fst < Int.ofNat v.snd.fst.length))
          (sel (decide (Int.ofNat (v.snd.fst.getD v.snd.snd.fst.toNat (0 : UInt8)).toNat < (32 : Int)))
            (some (Sum.inr (false, ())))
            (sel (decide ((0 : Int) ≤ v.snd.snd.fst))
              (sel (decide (v.snd.snd.fst < Int.ofNat v.snd.fst.length))
                (sel (decide ((126 : Int) < Int.ofNat (v.snd.fst.getD v.snd.snd.fst.toNat (0 : UInt8)).toNat))
                  (some (Sum.inr (false, ())))
                  (G165_2 k j (v.fst, v.snd.fst, Go.IntKind.i64.wrap (v.snd.snd.fst + (1 : Int)), ())))
                none)
              none))
          none)
        none)))
  (some (Sum.inl ())) := by kernel_rfl
noncomputable def G165 (k : Nat) (v : Int × List UInt8 × Unit) : Option (Bool × Unit) := F165 k v
theorem G165_eq (k : Nat) (v : Int × List UInt8 × Unit) : G165 k v =
  ocall (G165_2 k k (v.fst, v.snd.fst, (0 : Int), ())) fun (e : Unit ⊕ Bool × Unit) =>
  esel e (fun (v : Unit) => some (true, ())) fun (e : Bool × Unit) =>
    some (e.fst, ()) := by kernel_rfl
noncomputable def G198 (k : Nat) (v : Int × List Int × Unit) : Option (List UInt8 × Int × Int × Unit) := F198 k v
theorem G198_eq (k : Nat) (v : Int × List Int × Unit) : G198 k v =
  ocall (G164 k (v.fst, ())) fun (r : (Int × Int × Int × Unit) × Bool × Unit) =>
  sel (!r.snd.fst) (some ([], (0 : Int), (5 : Int), ()))
    (ocall (G221 k (r.fst.snd.fst, ())) fun (r_1 : Int × Unit) =>
      sel (decide ((0 : Int) < r_1.fst))
        (sel (decide (Int.ofNat v.snd.fst.length < r_1.fst)) (some ([], (0 : Int), (2 : Int), ()))
          (sel (decide (Int.ofNat (0 : Nat) ≤ r_1.fst))
            (sel (decide (r_1.fst ≤ Int.ofNat v.snd.fst.length))
              (sel (decide (Int.ofNat v.snd.fst.length ≤ Int.ofNat v.snd.fst.length))
                (ocall
                  (G120 k
                    (ofBytes (List.drop (Int.ofNat (0 : Nat)).toNat (List.take r_1.fst.toNat v.snd.fst)), ()))
                  fun (r_2 : Int × Int × Unit) =>
                  sel (!decide (r_2.snd.fst = (0 : Int))) (some ([], (0 : Int), (3 : Int), ()))
                    (sel (decide (r_2.fst = (0 : Int))) (some ([], (0 : Int), (3 : Int), ()))
                      (sel (decide (r.fst.snd.snd.fst < Go.IntKind.i64.wrap r_2.fst))
                        (some ([], (0 : Int), (4 : Int), ()))
                        (sel
                          (decide
                            (Go.IntKind.i64.wrap (Int.ofNat v.snd.fst.length - r_1.fst) < Go.IntKind.i64.wrap r_2.fst))
                          (some ([], (0 : Int), (2 : Int), ()))
                          (sel (decide ((0 : Int) ≤ r_1.fst))
                            (sel (decide (r_1.fst ≤ Go.IntKind.i64.wrap (r_1.fst + Go.IntKind.i64.wrap r_2.fst)))
                              (sel
                                (decide
                                  (Go.IntKind.i64.wrap (r_1.fst + Go.IntKind.i64.wrap r_2.fst) ≤
                                    Int.ofNat v.snd.fst.length))
                                (sel (decide (Int.ofNat v.snd.fst.length ≤ Int.ofNat v.snd.fst.length))
                                  (ocall
                                    (G165 k
                                      (r.fst.snd.fst,
                                        ofBytes
                                          (List.drop r_1.fst.toNat
                                            (List.take
                                              (Go.IntKind.i64.wrap (r_1.fst + Go.IntKind.i64.wrap r_2.fst)).toNat
                                              v.snd.fst)),
                                        ()))
                                    fun (r : Bool × Unit) =>
                                    sel (!r.fst) (some ([], (0 : Int), (3 : Int), ()))
                                      (some
                                        (ofBytes
                                            (List.drop r_1.fst.toNat
                                              (List.take
                                                (Go.IntKind.i64.wrap (r_1.fst + Go.IntKind.i64.wrap r_2.fst)).toNat
                                                v.snd.fst)),
                                          Go.IntKind.i64.wrap (r_1.fst + Go.IntKind.i64.wrap r_2.fst), (0 : Int),
                                          ())))
                                  none)
                                none)
                              none)
                            none)))))
                none)
              none)
            none))
        (sel (decide (Go.IntKind.i64.wrap (Int.ofNat v.snd.fst.length - r_1.fst) < r.fst.snd.snd.fst))
          (some ([], (0 : Int), (2 : Int), ()))
          (sel (decide ((0 : Int) ≤ r_1.fst))
            (sel (decide (r_1.fst ≤ Go.IntKind.i64.wrap (r_1.fst + r.fst.snd.snd.fst)))
              (sel (decide (Go.IntKind.i64.wrap (r_1.fst + r.fst.snd.snd.fst) ≤ Int.ofNat v.snd.fst.length))
                (sel (decide (Int.ofNat v.snd.fst.length ≤ Int.ofNat v.snd.fst.length))
                  (ocall
                    (G165 k
                      (r.fst.snd.fst,
                        ofBytes
                          (List.drop r_1.fst.toNat
                            (List.take (Go.IntKind.i64.wrap (r_1.fst + r.fst.snd.snd.fst)).toNat v.snd.fst)),
                        ()))
                    fun (r_2 : Bool × Unit) =>
                    sel (!r_2.fst) (some ([], (0 : Int), (3 : Int), ()))
                      (some
                        (ofBytes
                            (List.drop r_1.fst.toNat
                              (List.take (Go.IntKind.i64.wrap (r_1.fst + r.fst.snd.snd.fst)).toNat v.snd.fst)),
                          Go.IntKind.i64.wrap (r_1.fst + r.fst.snd.snd.fst), (0 : Int), ())))
                  none)
                none)
              none)
            none))) := by kernel_rfl
noncomputable def G166 (k : Nat) (v : Int × Unit) : Option (Bool × Unit) := F166 k v
theorem G166_eq (k : Nat) (v : Int × Unit) : G166 k v =
  some (!decide (v.fst = v.fst), ()) := by kernel_rfl
noncomputable def G103 (k : Nat) (v : Int × Int × Unit) : Option (Int × Unit) := F103 k v
theorem G103_eq (k : Nat) (v : Int × Int × Unit) : G103 k v =
  ocall (G166 k (v.fst, ())) fun (r : Bool × Unit) =>
  ocall (G166 k (v.snd.fst, ())) fun (r_1 : Bool × Unit) =>
    sel r.fst (sel r_1.fst (some ((0 : Int), ())) (some ((-1 : Int), ())))
      (sel r_1.fst (some ((1 : Int), ()))
        (sel (decide (v.fst < v.snd.fst)) (some ((-1 : Int), ()))
          (sel (decide (v.snd.fst < v.fst)) (some ((1 : Int), ()))
            (some ((0 : Int), ()))))) := by kernel_rfl
noncomputable def G167 (k : Nat) (v : List UInt8 × Unit) : Option (Bool × Unit) := F167 k v
theorem G167_eq (k : Nat) (v : List UInt8 × Unit) : G167 k v =
  some (!decide (v.fst = v.fst), ()) := by kernel_rfl
noncomputable def G104 (k : Nat) (v : List UInt8 × List UInt8 × Unit) : Option (Int × Unit) := F104 k v
theorem G104_eq (k : Nat) (v : List UInt8 × List UInt8 × Unit) : G104 k v =
  ocall (G167 k (v.fst, ())) fun (r : Bool × Unit) =>
  ocall (G167 k (v.snd.fst, ())) fun (r_1 : Bool × Unit) =>
    sel r.fst (sel r_1.fst (some ((0 : Int), ())) (some ((-1 : Int), ())))
      (sel r_1.fst (some ((1 : Int), ()))
        (sel (Go.Op.bytesLess v.fst v.snd.fst) (some ((-1 : Int), ()))
          (sel (!(Go.Op.bytesLess v.fst v.snd.fst || decide (v.fst = v.snd.fst))) (some ((1 : Int), ()))
            (some ((0 : Int), ()))))) := by kernel_rfl
noncomputable def G102_3 (k : Nat) (j : Nat) (v : Int × List Int × Int × Int × Unit) : Option
  (Int × Unit ⊕ Int × Unit) := F102_3 k j v
theorem G102_3_eq (k : Nat) (j : Nat) (v : Int × List Int × Int × Int × Unit) : G102_3 k (j + (1 : Nat)) v =
  sel (decide (v.snd.snd.snd.fst < v.snd.snd.fst))
  (sel (decide ((0 : Int) ≤ v.snd.snd.snd.fst))
    (sel (decide (v.snd.snd.snd.fst < Int.ofNat v.snd.fst.length))
      (sel (!decide (v.snd.fst.getD v.snd.snd.snd.fst.toNat (OfNat.ofNat (0 : Nat)) = v.fst))
        (some (Sum.inr (v.snd.fst.getD v.snd.snd.snd.fst.toNat (OfNat.ofNat (0 : Nat)), ())))
        (G102_3 k j (v.fst, v.snd.fst, v.snd.snd.fst, Go.IntKind.i64.wrap (v.snd.snd.snd.fst + (1 : Int)), ())))
      none)
    none)
  (some (Sum.inl (v.fst, ()))) := by kernel_rfl
noncomputable def G102 (k : Nat) (v : List Int × Unit) : Option (Int × Unit) := F102 k v
theorem G102_eq (k : Nat) (v : List Int × Unit) : G102 k v =
  ocall (G102_3 k k ((0 : Int), v.fst, Int.ofNat v.fst.length, (0 : Int), ()))
  fun (e : Int × Unit ⊕ Int × Unit) =>
  esel e (fun (v : Int × Unit) => some (v.fst, ())) fun (e : Int × Unit) =>
    some (e.fst, ()) := by kernel_rfl
noncomputable def G29 (k : Nat) (v : (Int × List UInt8 × Unit) × (Int × List UInt8 × Unit) × Unit) : Option
  (Int × Unit) := F29 k v
theorem G29_eq (k : Nat) (v : (Int × List UInt8 × Unit) × (Int × List UInt8 × Unit) × Unit) : G29 k v =
  ocall (G103 k (v.fst.fst, v.snd.fst.fst, ())) fun (r : Int × Unit) =>
  ocall (G104 k (v.fst.snd.fst, v.snd.fst.snd.fst, ())) fun (r_1 : Int × Unit) =>
    ocall (G102 k ([r.fst, r_1.fst], ())) fun (r : Int × Unit) => some (r.fst, ()) := by kernel_rfl
noncomputable def G42 (k : Nat) (v : Int × Unit) : Option (Bool × Unit) := F42 k v
theorem G42_eq (k : Nat) (v : Int × Unit) : G42 k v =
  sel (decide (v.fst = (1 : Int)))
  (sel (decide (v.fst = (1 : Int))) (some (true, ())) (some (false, ())))
  (sel (decide (v.fst = (3 : Int)))
    (sel (decide (v.fst = (3 : Int))) (some (true, ())) (some (false, ())))
    (sel (decide (v.fst = (5 : Int)))
      (sel (decide (v.fst = (5 : Int))) (some (true, ())) (some (false, ())))
      (sel (decide (v.fst = (6 : Int))) (some (true, ())) (some (false, ()))))) := by kernel_rfl
noncomputable def G170 (k : Nat) (v : List UInt8 × Bool × Unit) : Option (Int × Unit) := F170 k v
theorem G170_eq (k : Nat) (v : List UInt8 × Bool × Unit) : G170 k v =
  sel (decide (v.fst.length ≤ (9223372036854775807 : Nat)))
  (some ((Sum.sumOf (Sum.backs (toBytes v.fst)) v.snd.fst).fst, ())) none := by kernel_rfl
noncomputable def G107 (k : Nat) (v : List UInt8 × Unit) : Option (Bool × Unit) := F107 k v
theorem G107_eq (k : Nat) (v : List UInt8 × Unit) : G107 k v =
  ocall (G169 k (v.fst, ())) fun (r : Bool × Unit) =>
  sel r.fst
    (ocall (G170 k (v.fst, false, ())) fun (r : Int × Unit) =>
      some (decide (r.fst.tmod (10 : Int) = (0 : Int)), ()))
    (some (false, ())) := by kernel_rfl
noncomputable def G108 (k : Nat) (v : Int × Unit) : Option (List UInt8 × Unit) := F108 k v
theorem G108_eq (k : Nat) (v : Int × Unit) : G108 k v =
  sel (decide (v.fst < (0 : Int))) (some ([], ()))
  (sel (decide ((8 : Int) ≤ v.fst)) (some ([], ()))
    (sel (decide ((0 : Int) ≤ v.fst))
      (sel (decide (v.fst < Int.ofNat (8 : Nat)))
        (some
          ([[], [(48 : UInt8), (49 : UInt8), (48 : UInt8), (48 : UInt8)],
                  [(48 : UInt8), (49 : UInt8), (49 : UInt8), (48 : UInt8)],
                  [(48 : UInt8), (52 : UInt8), (48 : UInt8), (48 : UInt8)],
                  [(48 : UInt8), (52 : UInt8), (49 : UInt8), (48 : UInt8)],
                  [(48 : UInt8), (52 : UInt8), (50 : UInt8), (48 : UInt8)],
                  [(48 : UInt8), (52 : UInt8), (50 : UInt8), (49 : UInt8)],
                  [(48 : UInt8), (52 : UInt8), (51 : UInt8), (48 : UInt8)]].getD
              v.fst.toNat [],
            ()))
        none)
      none)) := by kernel_rfl
noncomputable def G109 (k : Nat) (v : (Int × List UInt8 × Int × Int × List UInt8 × List UInt8 × Unit) × Unit) : Option
  (List (Int × List UInt8 × Unit) × Unit) := F109 k v
theorem G109_eq (k : Nat) (v : (Int × List UInt8 × Int × Int × List UInt8 × List UInt8 × Unit) × Unit) : G109 k v =
  ocall (G105 k (Go.IntKind.u64.wrap v.fst.snd.snd.snd.fst, (6 : Int), ()))
  fun (r : List UInt8 × Int × Unit) =>
  ocall (G42 k (v.fst.fst, ())) fun (r_1 : Bool × Unit) =>
    sel (!r_1.fst)
      (some
        ([((11 : Int), r.fst, ()), ((37 : Int), v.fst.snd.snd.snd.snd.fst, ()),
            ((39 : Int), v.fst.snd.snd.snd.snd.snd.fst, ())],
          ()))
      (ocall (G105 k (v.fst.snd.snd.fst, (12 : Int), ())) fun (r_2 : List UInt8 × Int × Unit) =>
        sel (decide ((5 : Int) ≤ v.fst.fst))
          (ocall (G108 k ((1 : Int), ())) fun (r_3 : List UInt8 × Unit) =>
            sel (decide (r_3.fst.length + r.fst.length ≤ (140737488355328 : Nat)))
              (sel (decide ((r_3.fst ++ r.fst).length + (32 : Nat) ≤ (140737488355328 : Nat)))
                (some
                  ([((2 : Int), v.fst.snd.fst, ()), ((4 : Int), r_2.fst, ()),
                      ((11 : Int), r.fst, ()), ((37 : Int), v.fst.snd.snd.snd.snd.fst, ()),
                      ((90 : Int),
                        r_3.fst ++ r.fst ++
                          [(48 : UInt8), (48 : UInt8), (48 : UInt8), (48 : UInt8), (48 : UInt8), (48 : UInt8),
                            (48 : UInt8), (48 : UInt8), (48 : UInt8), (48 : UInt8), (48 : UInt8), (48 : UInt8),
                            (48 : UInt8), (48 : UInt8), (48 : UInt8), (48 : UInt8), (48 : UInt8), (48 : UInt8),
                            (48 : UInt8), (48 : UInt8), (48 : UInt8), (48 : UInt8), (48 : UInt8), (48 : UInt8),
                            (48 : UInt8), (48 : UInt8), (48 : UInt8), (48 : UInt8), (48 : UInt8), (48 : UInt8),
                            (48 : UInt8), (48 : UInt8)],
                        ())],
                    ()))
                none)
              none)
          (some
            ([((2 : Int), v.fst.snd.fst, ()), ((4 : Int), r_2.fst, ()), ((11 : Int), r.fst, ()),
                ((37 : Int), v.fst.snd.snd.snd.snd.fst, ())],
              ()))) := by kernel_rfl
noncomputable def G121 (k : Nat) (v : List UInt8 × Unit) : Option (Bool × Unit) := F121 k v
theorem G121_eq (k : Nat) (v : List UInt8 × Unit) : G121 k v =
  sel (decide (v.fst = [(48 : UInt8), (49 : UInt8), (48 : UInt8), (48 : UInt8)]))
  (sel (decide (v.fst = [(48 : UInt8), (49 : UInt8), (48 : UInt8), (48 : UInt8)])) (some (true, ()))
    (some (false, ())))
  (sel (decide (v.fst = [(48 : UInt8), (49 : UInt8), (49 : UInt8), (48 : UInt8)]))
    (sel (decide (v.fst = [(48 : UInt8), (49 : UInt8), (49 : UInt8), (48 : UInt8)])) (some (true, ()))
      (some (false, ())))
    (sel (decide (v.fst = [(48 : UInt8), (52 : UInt8), (48 : UInt8), (48 : UInt8)]))
      (sel (decide (v.fst = [(48 : UInt8), (52 : UInt8), (48 : UInt8), (48 : UInt8)])) (some (true, ()))
        (some (false, ())))
      (sel (decide (v.fst = [(48 : UInt8), (52 : UInt8), (49 : UInt8), (48 : UInt8)]))
        (sel (decide (v.fst = [(48 : UInt8), (52 : UInt8), (49 : UInt8), (48 : UInt8)])) (some (true, ()))
          (some (false, ())))
        (sel (decide (v.fst = [(48 : UInt8), (52 : UInt8), (50 : UInt8), (48 : UInt8)]))
          (sel (decide (v.fst = [(48 : UInt8), (52 : UInt8), (50 : UInt8), (48 : UInt8)])) (some (true, ()))
            (some (false, ())))
          (sel (decide (v.fst = [(48 : UInt8), (52 : UInt8), (50 : UInt8), (49 : UInt8)]))
            (sel (decide (v.fst = [(48 : UInt8), (52 : UInt8), (50 : UInt8), (49 : UInt8)])) (some (true, ()))
              (some (false, ())))
            (sel (decide (v.fst = [(48 : UInt8), (52 : UInt8), (51 : UInt8), (48 : UInt8)])) (some (true, ()))
              (some (false, ())))))))) := by kernel_rfl
noncomputable def G44_3 (k : Nat) (j : Nat) (v : Int × List (Int × List UInt8 × Unit) × Int × Int × List UInt8 × List (Int × List UInt8 × Unit) × Unit) : Option
  (List UInt8 × List (Int × List UInt8 × Unit) × Unit ⊕ Bool × Unit) := F44_3 k j v
theorem G44_3_eq (k : Nat) (j : Nat) (v : Int × List (Int × List UInt8 × Unit) × Int × Int × List UInt8 × List (Int × List UInt8 × Unit) × Unit) : G44_3
  k (j + (1 : Nat)) v =
  sel (decide (v.snd.snd.snd.fst < v.snd.snd.fst))
  (sel (decide ((0 : Int) ≤ v.snd.snd.snd.fst))
    (sel (decide (v.snd.snd.snd.fst < Int.ofNat v.snd.fst.length))
      (sel (decide ((v.snd.fst.getD v.snd.snd.snd.fst.toNat (OfNat.ofNat (0 : Nat), [], ())).fst ≤ v.fst))
        (some (Sum.inr (false, ())))
        (ocall
          (G117 k
            ((v.snd.fst.getD v.snd.snd.snd.fst.toNat (OfNat.ofNat (0 : Nat), [], ())).fst,
              (v.snd.fst.getD v.snd.snd.snd.fst.toNat (OfNat.ofNat (0 : Nat), [], ())).snd.fst, ()))
          fun (r : Bool × Unit) =>
          sel (!r.fst) (some (Sum.inr (false, ())))
            (G44_3 k j
              ((v.snd.fst.getD v.snd.snd.snd.fst.toNat (OfNat.ofNat (0 : Nat), [], ())).fst, v.snd.fst,
                v.snd.snd.fst, Go.IntKind.i64.wrap (v.snd.snd.snd.fst + (1 : Int)), v.snd.snd.snd.snd.fst,
                v.snd.snd.snd.snd.snd.fst, ()))))
      none)
    none)
  (some (Sum.inl (v.snd.snd.snd.snd.fst, v.snd.snd.snd.snd.snd.fst, ()))) := by kernel_rfl
noncomputable def G44 (k : Nat) (v : (List UInt8 × List (Int × List UInt8 × Unit) × Unit) × Unit) : Option
  (Bool × Unit) := F44 k v
theorem G44_eq (k : Nat) (v : (List UInt8 × List (Int × List UInt8 × Unit) × Unit) × Unit) : G44 k v =
  ocall
  (G44_3 k k
    ((0 : Int), v.fst.snd.fst, Int.ofNat v.fst.snd.fst.length, (0 : Int), v.fst.fst, v.fst.snd.fst, ()))
  fun (e : List UInt8 × List (Int × List UInt8 × Unit) × Unit ⊕ Bool × Unit) =>
  esel e
    (fun (v : List UInt8 × List (Int × List UInt8 × Unit) × Unit) =>
      ocall (G121 k (v.fst, ())) fun (r : Bool × Unit) =>
        sel r.fst (some (decide ((0 : Int) < Int.ofNat v.snd.fst.length), ())) (some (false, ())))
    fun (e : Bool × Unit) => some (e.fst, ()) := by kernel_rfl
noncomputable def G33 (k : Nat) (v : (Int × List UInt8 × Int × Int × List UInt8 × List UInt8 × Unit) × Unit) : Option
  (Bool × Unit) := F33 k v
theorem G33_eq (k : Nat) (v : (Int × List UInt8 × Int × Int × List UInt8 × List UInt8 × Unit) × Unit) : G33 k v =
  ocall (G42 k (v.fst.fst, ())) fun (r : Bool × Unit) =>
  sel r.fst
    (sel (!decide (v.fst.snd.snd.snd.snd.snd.fst = [])) (some (false, ()))
      (ocall (G107 k (v.fst.snd.fst, ())) fun (r : Bool × Unit) =>
        sel (!r.fst) (some (false, ()))
          (ocall (G108 k (v.fst.fst, ())) fun (r : List UInt8 × Unit) =>
            ocall
              (G109 k
                ((v.fst.fst, v.fst.snd.fst, v.fst.snd.snd.fst, v.fst.snd.snd.snd.fst, v.fst.snd.snd.snd.snd.fst,
                    v.fst.snd.snd.snd.snd.snd.fst, ()),
                  ()))
              fun (r_1 : List (Int × List UInt8 × Unit) × Unit) =>
              ocall (G44 k ((r.fst, r_1.fst, ()), ())) fun (r : Bool × Unit) =>
                some (r.fst, ()))))
    (sel (!decide (v.fst.snd.fst = [])) (some (false, ()))
      (sel (!decide (v.fst.snd.snd.fst = (0 : Int))) (some (false, ()))
        (ocall (G108 k (v.fst.fst, ())) fun (r : List UInt8 × Unit) =>
          ocall
            (G109 k
              ((v.fst.fst, v.fst.snd.fst, v.fst.snd.snd.fst, v.fst.snd.snd.snd.fst, v.fst.snd.snd.snd.snd.fst,
                  v.fst.snd.snd.snd.snd.snd.fst, ()),
                ()))
            fun (r_1 : List (Int × List UInt8 × Unit) × Unit) =>
            ocall (G44 k ((r.fst, r_1.fst, ()), ())) fun (r : Bool × Unit) =>
              some (r.fst, ())))) := by kernel_rfl
noncomputable def G27 (k : Nat) (v : (Int × List UInt8 × Unit) × Unit) : Option (Bool × Unit) := F27 k v
theorem G27_eq (k : Nat) (v : (Int × List UInt8 × Unit) × Unit) : G27 k v =
  ocall
  (G33 k (((7 : Int), [], (0 : Int), v.fst.fst, v.fst.snd.fst, [(48 : UInt8), (48 : UInt8)], ()), ()))
  fun (r : Bool × Unit) => some (r.fst, ()) := by kernel_rfl
noncomputable def G31_6 (k : Nat) (j : Nat) (v : Int × Int × List Int × Int × Int × Unit) : Option
  (Int × Int × Unit) := F31_6 k j v
theorem G31_6_eq (k : Nat) (j : Nat) (v : Int × Int × List Int × Int × Int × Unit) : G31_6 k (j + (1 : Nat)) v =
  sel (decide (v.snd.snd.snd.snd.fst < v.snd.snd.snd.fst))
  (sel (decide ((0 : Int) ≤ v.snd.snd.snd.snd.fst))
    (sel (decide (v.snd.snd.snd.snd.fst < Int.ofNat v.snd.snd.fst.length))
      (sel (decide (v.snd.snd.snd.snd.fst.toNat < v.snd.snd.fst.length))
        (G31_6 k j
          (v.fst,
            Go.IntKind.u32.wrap
              (bits Go.BinOp.xor Go.IntKind.u32 v.snd.fst
                  (Go.IntKind.u32.wrap (v.snd.snd.fst.getD v.snd.snd.snd.snd.fst.toNat (OfNat.ofNat (0 : Nat)))) *
                (16777619 : Int)),
            v.snd.snd.fst, v.snd.snd.snd.fst, Go.IntKind.i64.wrap (v.snd.snd.snd.snd.fst + (1 : Int)), ()))
        none)
      none)
    none)
  (some (v.fst, v.snd.fst, ())) := by kernel_rfl
noncomputable def G31 (k : Nat) (v : (Int × List UInt8 × Unit) × Int × Unit) : Option (Int × Unit) := F31 k v
theorem G31_eq (k : Nat) (v : (Int × List UInt8 × Unit) × Int × Unit) : G31 k v =
  ocall (G27 k ((v.fst.fst, v.fst.snd.fst, ()), ())) fun (r : Bool × Unit) =>
  sel (!r.fst) (some ((-1 : Int), ()))
    (sel (decide (v.snd.fst < (1 : Int))) (some ((-1 : Int), ()))
      (sel (decide ((16 : Int) < v.snd.fst)) (some ((-1 : Int), ()))
        (ocall (G105 k (Go.IntKind.u64.wrap v.fst.fst, (6 : Int), ())) fun (r : List UInt8 × Int × Unit) =>
          sel (decide (r.fst.length + v.fst.snd.fst.length ≤ (140737488355328 : Nat)))
            (ocall
              (G31_6 k k
                (v.snd.fst, (2166136261 : Int), toBytes (r.fst ++ v.fst.snd.fst),
                  Int.ofNat (toBytes (r.fst ++ v.fst.snd.fst)).length, (0 : Int), ()))
              fun (e : Int × Int × Unit) =>
              sel (!decide (Go.IntKind.u32.wrap e.fst = (0 : Int)))
                (some (Go.IntKind.i64.wrap (e.snd.fst.tmod (Go.IntKind.u32.wrap e.fst)), ())) none)
            none))) := by kernel_rfl
noncomputable def G26 (k : Nat) (v : (Int × List UInt8 × Int × Int × List UInt8 × List UInt8 × Unit) × Unit) : Option
  ((Int × List UInt8 × Unit) × Unit) := F26 k v
theorem G26_eq (k : Nat) (v : (Int × List UInt8 × Int × Int × List UInt8 × List UInt8 × Unit) × Unit) : G26 k v =
  some ((v.fst.snd.snd.snd.fst, v.fst.snd.snd.snd.snd.fst, ()), ()) := by kernel_rfl
noncomputable def G23 (k : Nat) (v : Unit) : Option (Bool × Unit) := F23 k v
theorem G23_eq (k : Nat) (v : Unit) : G23 k v =
  ocall
  (G29 k
    (((1 : Int),
        [(82 : UInt8), (82 : UInt8), (78 : UInt8), (48 : UInt8), (48 : UInt8), (48 : UInt8), (48 : UInt8), (48 : UInt8),
          (48 : UInt8), (48 : UInt8), (48 : UInt8), (50 : UInt8)],
        ()),
      ((2 : Int),
        [(82 : UInt8), (82 : UInt8), (78 : UInt8), (48 : UInt8), (48 : UInt8), (48 : UInt8), (48 : UInt8), (48 : UInt8),
          (48 : UInt8), (48 : UInt8), (48 : UInt8), (49 : UInt8)],
        ()),
      ()))
  fun (r : Int × Unit) =>
  sel (decide (r.fst = (-1 : Int)))
    (ocall
      (G29 k
        (((2 : Int),
            [(82 : UInt8), (82 : UInt8), (78 : UInt8), (48 : UInt8), (48 : UInt8), (48 : UInt8), (48 : UInt8),
              (48 : UInt8), (48 : UInt8), (48 : UInt8), (48 : UInt8), (49 : UInt8)],
            ()),
          ((1 : Int),
            [(82 : UInt8), (82 : UInt8), (78 : UInt8), (48 : UInt8), (48 : UInt8), (48 : UInt8), (48 : UInt8),
              (48 : UInt8), (48 : UInt8), (48 : UInt8), (48 : UInt8), (50 : UInt8)],
            ()),
          ()))
      fun (r : Int × Unit) =>
      sel (decide (r.fst = (1 : Int)))
        (ocall
          (G27 k
            (((1 : Int),
                [(82 : UInt8), (82 : UInt8), (78 : UInt8), (48 : UInt8), (48 : UInt8), (48 : UInt8), (48 : UInt8),
                  (48 : UInt8), (48 : UInt8), (48 : UInt8), (48 : UInt8), (50 : UInt8)],
                ()),
              ()))
          fun (r : Bool × Unit) =>
          sel r.fst
            (ocall (G27 k (((0 : Int), [], ()), ())) fun (r : Bool × Unit) =>
              sel (!r.fst)
                (ocall
                  (G31 k
                    (((1 : Int),
                        [(82 : UInt8), (82 : UInt8), (78 : UInt8), (48 : UInt8), (48 : UInt8), (48 : UInt8),
                          (48 : UInt8), (48 : UInt8), (48 : UInt8), (48 : UInt8), (48 : UInt8), (50 : UInt8)],
                        ()),
                      (1 : Int), ()))
                  fun (r : Int × Unit) =>
                  sel (decide (r.fst = (0 : Int)))
                    (ocall
                      (G31 k
                        (((1 : Int),
                            [(82 : UInt8), (82 : UInt8), (78 : UInt8), (48 : UInt8), (48 : UInt8), (48 : UInt8),
                              (48 : UInt8), (48 : UInt8), (48 : UInt8), (48 : UInt8), (48 : UInt8), (50 : UInt8)],
                            ()),
                          (0 : Int), ()))
                      fun (r : Int × Unit) =>
                      sel (decide (r.fst = (-1 : Int)))
                        (ocall
                          (G26 k (((7 : Int), [], (0 : Int), (1 : Int), [(120 : UInt8)], [], ()), ()))
                          fun (r : (Int × List UInt8 × Unit) × Unit) =>
                          some
                            (sameI r.fst.fst (OfNat.ofNat (1 : Nat)) && (sameS r.fst.snd.fst [(120 : UInt8)] && true),
                              ()))
                        (some (false, ())))
                    (some (false, ())))
                (some (false, ())))
            (some (false, ())))
        (some (false, ())))
    (some (false, ())) := by kernel_rfl
noncomputable def G24 (k : Nat) (v : (Int × List UInt8 × Int × Int × List UInt8 × List UInt8 × Unit) × Unit) : Option
  (Bool × Unit) := F24 k v
theorem G24_eq (k : Nat) (v : (Int × List UInt8 × Int × Int × List UInt8 × List UInt8 × Unit) × Unit) : G24 k v =
  sel (decide (Int.ofNat v.fst.snd.fst.length ≤ (300 : Int)))
  (sel (decide (Int.ofNat v.fst.snd.snd.snd.snd.fst.length ≤ (300 : Int)))
    (some (decide (Int.ofNat v.fst.snd.snd.snd.snd.snd.fst.length ≤ (300 : Int)), ()))
    (some (false, ())))
  (some (false, ())) := by kernel_rfl
noncomputable def G25 (k : Nat) (v : (Int × List UInt8 × Unit) × Unit) : Option (Bool × Unit) := F25 k v
theorem G25_eq (k : Nat) (v : (Int × List UInt8 × Unit) × Unit) : G25 k v =
  some (decide (Int.ofNat v.fst.snd.fst.length ≤ (300 : Int)), ()) := by kernel_rfl
noncomputable def G101 (k : Nat) (v : Int × List UInt8 × Unit) : Option (Bool × Unit) := F101 k v
theorem G101_eq (k : Nat) (v : Int × List UInt8 × Unit) : G101 k v =
  ocall (G164 k (v.fst, ())) fun (r : (Int × Int × Int × Unit) × Bool × Unit) =>
  sel (!r.snd.fst) (some (false, ()))
    (sel (decide (Int.ofNat v.snd.fst.length = (0 : Int))) (some (false, ()))
      (sel (decide (r.fst.snd.snd.fst < Int.ofNat v.snd.fst.length)) (some (false, ()))
        (sel (decide (r.fst.snd.fst < (3 : Int)))
          (sel (decide (Int.ofNat v.snd.fst.length < r.fst.snd.snd.fst)) (some (false, ()))
            (ocall (G165 k (r.fst.snd.fst, v.snd.fst, ())) fun (r : Bool × Unit) => some (r.fst, ())))
          (ocall (G165 k (r.fst.snd.fst, v.snd.fst, ())) fun (r : Bool × Unit) =>
            some (r.fst, ()))))) := by kernel_rfl
noncomputable def G28 (k : Nat) (v : (Int × List UInt8 × Unit) × Unit) : Option (Bool × Unit) := F28 k v
theorem G28_eq (k : Nat) (v : (Int × List UInt8 × Unit) × Unit) : G28 k v =
  sel (decide (v.fst.fst ≤ (999999 : Int)))
  (ocall (G101 k ((37 : Int), v.fst.snd.fst, ())) fun (r : Bool × Unit) => some (r.fst, ()))
  (some (false, ())) := by kernel_rfl
noncomputable def G30 (k : Nat) (v : (Int × List UInt8 × Unit) × (Int × List UInt8 × Unit) × Unit) : Option
  (Int × Unit) := F30 k v
theorem G30_eq (k : Nat) (v : (Int × List UInt8 × Unit) × (Int × List UInt8 × Unit) × Unit) : G30 k v =
  sel (sameI v.fst.fst v.snd.fst.fst && (sameS v.fst.snd.fst v.snd.fst.snd.fst && true)) (some ((0 : Int), ()))
  (sel (decide (v.fst.fst < v.snd.fst.fst)) (some ((-1 : Int), ()))
    (sel (decide (v.fst.fst = v.snd.fst.fst))
      (sel (Go.Op.bytesLess v.fst.snd.fst v.snd.fst.snd.fst) (some ((-1 : Int), ()))
        (some ((1 : Int), ())))
      (some ((1 : Int), ())))) := by kernel_rfl
noncomputable def G168_5 (k : Nat) (j : Nat) (v : Int × Int × List UInt8 × Int × Unit) : Option
  (Int × List UInt8 × Unit) := F168_5 k j v
theorem G168_5_eq (k : Nat) (j : Nat) (v : Int × Int × List UInt8 × Int × Unit) : G168_5 k (j + (1 : Nat)) v =
  sel (decide (v.snd.snd.snd.fst < v.snd.fst))
  (sel
    (decide
      ((ofBytes [Go.IntKind.u8.wrap (Go.IntKind.u64.wrap ((48 : Int) + v.fst.tmod (10 : Int)))]).length +
          v.snd.snd.fst.length ≤
        (140737488355328 : Nat)))
    (G168_5 k j
      (Go.IntKind.u64.wrap (v.fst.tdiv (10 : Int)), v.snd.fst,
        ofBytes [Go.IntKind.u8.wrap (Go.IntKind.u64.wrap ((48 : Int) + v.fst.tmod (10 : Int)))] ++ v.snd.snd.fst,
        Go.IntKind.i64.wrap (v.snd.snd.snd.fst + (1 : Int)), ()))
    none)
  (some (v.fst, v.snd.snd.fst, ())) := by kernel_rfl
noncomputable def G168 (k : Nat) (v : Int × Int × Unit) : Option (List UInt8 × Int × Unit) := F168 k v
theorem G168_eq (k : Nat) (v : Int × Int × Unit) : G168 k v =
  sel (decide (v.snd.fst < (1 : Int))) (some ([], (1 : Int), ()))
  (sel (decide ((19 : Int) < v.snd.fst)) (some ([], (1 : Int), ()))
    (ocall (G168_5 k k (v.fst, v.snd.fst, [], (0 : Int), ())) fun (e : Int × List UInt8 × Unit) =>
      sel (!decide (e.fst = (0 : Int))) (some ([], (10 : Int), ()))
        (some (e.snd.fst, (0 : Int), ())))) := by kernel_rfl
noncomputable def G106 (k : Nat) (v : Int × Int × Unit) : Option (List UInt8 × Unit) := F106 k v
theorem G106_eq (k : Nat) (v : Int × Int × Unit) : G106 k v =
  ocall (G168 k (v.fst, v.snd.fst, ())) fun (r : List UInt8 × Int × Unit) =>
  some (r.fst, ()) := by kernel_rfl
noncomputable def G32_6 (k : Nat) (j : Nat) (v : Int × List UInt8 × Int × Int × Unit) : Option
  (Int × Int × Unit) := F32_6 k j v
theorem G32_6_eq (k : Nat) (j : Nat) (v : Int × List UInt8 × Int × Int × Unit) : G32_6 k (j + (1 : Nat)) v =
  sel (decide (v.snd.snd.snd.fst < Int.ofNat v.snd.fst.length))
  (sel (decide ((0 : Int) ≤ v.snd.snd.snd.fst))
    (sel (decide (v.snd.snd.snd.fst < Int.ofNat v.snd.fst.length))
      (G32_6 k j
        (v.fst, v.snd.fst,
          (Go.IntKind.u64.wrap
                (bits Go.BinOp.xor Go.IntKind.u64 v.snd.snd.fst
                    (Go.IntKind.u64.wrap (Int.ofNat (v.snd.fst.getD v.snd.snd.snd.fst.toNat (0 : UInt8)).toNat)) *
                  (16777619 : Int))).tmod
            (4294967296 : Int),
          Go.IntKind.i64.wrap (v.snd.snd.snd.fst + (1 : Int)), ()))
      none)
    none)
  (some (v.fst, v.snd.snd.fst, ())) := by kernel_rfl
noncomputable def G32 (k : Nat) (v : (Int × List UInt8 × Unit) × Int × Unit) : Option (Int × Unit) := F32 k v
theorem G32_eq (k : Nat) (v : (Int × List UInt8 × Unit) × Int × Unit) : G32 k v =
  ocall (G28 k ((v.fst.fst, v.fst.snd.fst, ()), ())) fun (r : Bool × Unit) =>
  sel (!r.fst) (some ((-1 : Int), ()))
    (sel (decide (v.snd.fst < (1 : Int))) (some ((-1 : Int), ()))
      (sel (decide ((16 : Int) < v.snd.fst)) (some ((-1 : Int), ()))
        (ocall (G106 k (Go.IntKind.u64.wrap v.fst.fst, (6 : Int), ())) fun (r : List UInt8 × Unit) =>
          sel (decide (r.fst.length + v.fst.snd.fst.length ≤ (140737488355328 : Nat)))
            (ocall (G32_6 k k (v.snd.fst, r.fst ++ v.fst.snd.fst, (2166136261 : Int), (0 : Int), ()))
              fun (e : Int × Int × Unit) =>
              sel (!decide (Go.IntKind.u64.wrap e.fst = (0 : Int)))
                (some (Go.IntKind.i64.wrap (e.snd.fst.tmod (Go.IntKind.u64.wrap e.fst)), ())) none)
            none))) := by kernel_rfl
noncomputable def G3 (k : Nat) (v : (Int × List UInt8 × Int × Int × List UInt8 × List UInt8 × Unit) ×
  (Int × List UInt8 × Unit) × (Int × List UInt8 × Unit) × Int × Unit) : Option (Bool × Unit) := F3 k v
theorem G3_eq (k : Nat) (v : (Int × List UInt8 × Int × Int × List UInt8 × List UInt8 × Unit) ×
  (Int × List UInt8 × Unit) × (Int × List UInt8 × Unit) × Int × Unit) : G3 k v =
  ocall (G23 k ()) fun (r : Bool × Unit) =>
  sel (!r.fst) (some (false, ()))
    (ocall
      (G24 k
        ((v.fst.fst, v.fst.snd.fst, v.fst.snd.snd.fst, v.fst.snd.snd.snd.fst, v.fst.snd.snd.snd.snd.fst,
            v.fst.snd.snd.snd.snd.snd.fst, ()),
          ()))
      fun (r : Bool × Unit) =>
      sel (!r.fst) (some (true, ()))
        (ocall (G25 k ((v.snd.fst.fst, v.snd.fst.snd.fst, ()), ())) fun (r : Bool × Unit) =>
          sel (!r.fst) (some (true, ()))
            (ocall (G25 k ((v.snd.snd.fst.fst, v.snd.snd.fst.snd.fst, ()), ()))
              fun (r : Bool × Unit) =>
              sel (!r.fst) (some (true, ()))
                (ocall
                  (G26 k
                    ((v.fst.fst, v.fst.snd.fst, v.fst.snd.snd.fst, v.fst.snd.snd.snd.fst, v.fst.snd.snd.snd.snd.fst,
                        v.fst.snd.snd.snd.snd.snd.fst, ()),
                      ()))
                  fun (r : (Int × List UInt8 × Unit) × Unit) =>
                  sel (sameI r.fst.fst v.fst.snd.snd.snd.fst && (sameS r.fst.snd.fst v.fst.snd.snd.snd.snd.fst && true))
                    (ocall (G27 k ((v.snd.fst.fst, v.snd.fst.snd.fst, ()), ()))
                      fun (r : Bool × Unit) =>
                      ocall (G28 k ((v.snd.fst.fst, v.snd.fst.snd.fst, ()), ()))
                        fun (r_1 : Bool × Unit) =>
                        sel (r.fst == r_1.fst)
                          (ocall
                            (G29 k
                              ((v.snd.fst.fst, v.snd.fst.snd.fst, ()),
                                (v.snd.snd.fst.fst, v.snd.snd.fst.snd.fst, ()), ()))
                            fun (r : Int × Unit) =>
                            ocall
                              (G30 k
                                ((v.snd.fst.fst, v.snd.fst.snd.fst, ()),
                                  (v.snd.snd.fst.fst, v.snd.snd.fst.snd.fst, ()), ()))
                              fun (r_2 : Int × Unit) =>
                              sel (decide (r.fst = r_2.fst))
                                (ocall
                                  (G31 k
                                    ((v.snd.fst.fst, v.snd.fst.snd.fst, ()), v.snd.snd.snd.fst, ()))
                                  fun (r : Int × Unit) =>
                                  ocall
                                    (G32 k
                                      ((v.snd.fst.fst, v.snd.fst.snd.fst, ()), v.snd.snd.snd.fst, ()))
                                    fun (r_3 : Int × Unit) => some (decide (r.fst = r_3.fst), ()))
                                (some (false, ())))
                          (some (false, ())))
                    (some (false, ())))))) := by kernel_rfl
noncomputable def G4 (k : Nat) (v : (Int × List UInt8 × Unit) × (Int × List UInt8 × Unit) × (Int × List UInt8 × Unit) × Unit) : Option
  (Bool × Unit) := F4 k v
theorem G4_eq (k : Nat) (v : (Int × List UInt8 × Unit) × (Int × List UInt8 × Unit) × (Int × List UInt8 × Unit) × Unit) : G4
  k v =
  ocall (G23 k ()) fun (r : Bool × Unit) =>
  sel (!r.fst) (some (false, ()))
    (ocall (G25 k ((v.fst.fst, v.fst.snd.fst, ()), ())) fun (r : Bool × Unit) =>
      sel (!r.fst) (some (true, ()))
        (ocall (G25 k ((v.snd.fst.fst, v.snd.fst.snd.fst, ()), ())) fun (r : Bool × Unit) =>
          sel (!r.fst) (some (true, ()))
            (ocall (G25 k ((v.snd.snd.fst.fst, v.snd.snd.fst.snd.fst, ()), ()))
              fun (r : Bool × Unit) =>
              sel (!r.fst) (some (true, ()))
                (ocall
                  (G29 k
                    ((v.fst.fst, v.fst.snd.fst, ()), (v.snd.fst.fst, v.snd.fst.snd.fst, ()),
                      ()))
                  fun (r : Int × Unit) =>
                  ocall
                    (G29 k
                      ((v.snd.fst.fst, v.snd.fst.snd.fst, ()),
                        (v.snd.snd.fst.fst, v.snd.snd.fst.snd.fst, ()), ()))
                    fun (r_1 : Int × Unit) =>
                    ocall
                      (G29 k
                        ((v.fst.fst, v.fst.snd.fst, ()), (v.snd.snd.fst.fst, v.snd.snd.fst.snd.fst, ()),
                          ()))
                      fun (r_2 : Int × Unit) =>
                      ocall
                        (G29 k
                          ((v.snd.fst.fst, v.snd.fst.snd.fst, ()), (v.fst.fst, v.fst.snd.fst, ()),
                            ()))
                        fun (r_3 : Int × Unit) =>
                        sel (decide (r.fst = Go.IntKind.i64.wrap ((0 : Int) - r_3.fst)))
                          (sel
                            (decide (r.fst = (0 : Int)) ==
                              (sameI v.fst.fst v.snd.fst.fst && (sameS v.fst.snd.fst v.snd.fst.snd.fst && true)))
                            (sel (decide ((0 : Int) < r.fst))
                              (sel (decide ((0 : Int) ≤ r.fst)) (some (true, ()))
                                (sel (decide ((0 : Int) ≤ r_1.fst)) (some (true, ()))
                                  (some (decide (r_2.fst < (0 : Int)), ()))))
                              (sel (decide ((0 : Int) < r_1.fst))
                                (sel (decide ((0 : Int) ≤ r.fst)) (some (true, ()))
                                  (sel (decide ((0 : Int) ≤ r_1.fst)) (some (true, ()))
                                    (some (decide (r_2.fst < (0 : Int)), ()))))
                                (sel (decide (r_2.fst ≤ (0 : Int)))
                                  (sel (decide ((0 : Int) ≤ r.fst)) (some (true, ()))
                                    (sel (decide ((0 : Int) ≤ r_1.fst)) (some (true, ()))
                                      (some (decide (r_2.fst < (0 : Int)), ()))))
                                  (some (false, ())))))
                            (some (false, ())))
                          (some (false, ())))))) := by kernel_rfl
noncomputable def G5 (k : Nat) (v : (Int × List UInt8 × Int × Int × List UInt8 × List UInt8 × Unit) × Int × Int × Unit) : Option
  (Bool × Unit) := F5 k v
theorem G5_eq (k : Nat) (v : (Int × List UInt8 × Int × Int × List UInt8 × List UInt8 × Unit) × Int × Int × Unit) : G5
  k v =
  ocall (G23 k ()) fun (r : Bool × Unit) =>
  sel (!r.fst) (some (false, ()))
    (ocall
      (G24 k
        ((v.fst.fst, v.fst.snd.fst, v.fst.snd.snd.fst, v.fst.snd.snd.snd.fst, v.fst.snd.snd.snd.snd.fst,
            v.fst.snd.snd.snd.snd.snd.fst, ()),
          ()))
      fun (r : Bool × Unit) =>
      sel (!r.fst) (some (true, ()))
        (ocall
          (G33 k
            ((v.fst.fst, v.fst.snd.fst, v.fst.snd.snd.fst, v.fst.snd.snd.snd.fst, v.fst.snd.snd.snd.snd.fst,
                v.fst.snd.snd.snd.snd.snd.fst, ()),
              ()))
          fun (r : Bool × Unit) =>
          sel (!r.fst) (some (true, ()))
            (ocall
              (G26 k
                ((v.fst.fst, v.fst.snd.fst, v.fst.snd.snd.fst, v.fst.snd.snd.snd.fst, v.fst.snd.snd.snd.snd.fst,
                    v.fst.snd.snd.snd.snd.snd.fst, ()),
                  ()))
              fun (r : (Int × List UInt8 × Unit) × Unit) =>
              ocall
                (G31 k
                  ((r.fst.fst, r.fst.snd.fst, ()),
                    Go.IntKind.i64.wrap ((Go.IntKind.i64.wrap v.snd.fst).tmod (16 : Int) + (1 : Int)), ()))
                fun (r : Int × Unit) =>
                ocall
                  (G26 k
                    ((v.fst.fst, v.fst.snd.fst, v.fst.snd.snd.fst, v.fst.snd.snd.snd.fst, v.fst.snd.snd.snd.snd.fst,
                        v.fst.snd.snd.snd.snd.snd.fst, ()),
                      ()))
                  fun (r_1 : (Int × List UInt8 × Unit) × Unit) =>
                  ocall (G27 k ((r_1.fst.fst, r_1.fst.snd.fst, ()), ())) fun (r_2 : Bool × Unit) =>
                    sel r_2.fst
                      (sel (decide ((0 : Int) ≤ r.fst))
                        (sel
                          (decide
                            (r.fst < Go.IntKind.i64.wrap ((Go.IntKind.i64.wrap v.snd.fst).tmod (16 : Int) + (1 : Int))))
                          (ocall
                            (G26 k
                              ((Go.IntKind.i64.wrap v.snd.snd.fst, v.fst.snd.fst, v.fst.snd.snd.fst,
                                  v.fst.snd.snd.snd.fst, v.fst.snd.snd.snd.snd.fst, v.fst.snd.snd.snd.snd.snd.fst,
                                  ()),
                                ()))
                            fun (r_3 : (Int × List UInt8 × Unit) × Unit) =>
                            ocall
                              (G31 k
                                ((r_3.fst.fst, r_3.fst.snd.fst, ()),
                                  Go.IntKind.i64.wrap ((Go.IntKind.i64.wrap v.snd.fst).tmod (16 : Int) + (1 : Int)),
                                  ()))
                              fun (r_4 : Int × Unit) =>
                              sel (decide (r_4.fst = r.fst))
                                (ocall
                                  (G26 k
                                    ((v.fst.fst, v.fst.snd.fst, v.fst.snd.snd.fst, v.fst.snd.snd.snd.fst,
                                        v.fst.snd.snd.snd.snd.fst, v.fst.snd.snd.snd.snd.snd.fst, ()),
                                      ()))
                                  fun (r : (Int × List UInt8 × Unit) × Unit) =>
                                  ocall
                                    (G31 k
                                      ((r.fst.fst, r.fst.snd.fst, ()),
                                        Go.IntKind.i64.wrap
                                          ((16 : Int) +
                                            Go.IntKind.i64.wrap
                                              ((Go.IntKind.i64.wrap v.snd.fst).tmod (16 : Int) + (1 : Int))),
                                        ()))
                                    fun (r : Int × Unit) => some (decide (r.fst = (-1 : Int)), ()))
                                (some (false, ())))
                          (some (false, ())))
                        (some (false, ())))
                      (some (false, ()))))) := by kernel_rfl
end Go.Proofs.YtjgnpmdbkgeakaaDoor.G
