/- THEORY, part I: each operation of the abstract machine is what the machine does (numbers, moves, loads, stores). No condition. -/
import Derived.Test.YtjgnpmdbkgeakaaDoorThH
set_option linter.unusedVariables false
set_option linter.unusedSimpArgs false
namespace Go.Proofs.YtjgnpmdbkgeakaaDoor.Th
open Go Go.RowKit

/-- the operation goes through, to the writes ws -/
def Goes (P : Program) (B : Bd) (N : Nat) (o : Oper) (s : S) (w : World) (a : Act) (ws : List Wr) : Prop :=
  ∀ (K : Act → World → Prop) (Q : Exit → Act → World → Prop), (∀ g' a' w', Rel B g' (s.puts ws) w' a' N → BelowB B w w' → K a' w') → o.wp P a w K Q

section
variable {P : Program} {TI : TEnv} {C : FuncId → List AV → AV → Prop} {Rd : Rs → Prop} {B : Bd} {N : Nat} {g g' : Gh} {s : S} {w w' : World} {a : Act} {o : Oper} {ws : List Wr}

theorem goes_value {u : Value} (hr : (execOp a.eval o).run P w = .ok (.value u) w') (h : Rel B g' (s.puts ws) w' (a.put o.dst u) N) (hb : BelowB B w w') : Goes P B N o s w a ws := by
  intro K Q hK
  unfold Oper.wp
  rw [hr]
  exact hK g' _ _ h hb

theorem goes_skip (hr : (execOp a.eval o).run P w = .ok .skip w') (h : Rel B g' (s.puts ws) w' (a.put o.dst undef) N) (hb : BelowB B w w') : Goes P B N o s w a ws := by
  intro K Q hK
  unfold Oper.wp
  rw [hr]
  exact hK g' _ _ h hb

/-- the world stands, and the slot gets its value -/
theorem goes_pure (h : Rel B g s w a N) (hd : ∀ t, o.dst = some t → t < N) {v : AV} {u : Value} (hv : VR w g v u) (hr : (execOp a.eval o).run P w = .ok (.value u) w)
    (he : (retv o.dst v).Ev C Rd s ws) : Goes P B N o s w a ws := by
  have : ws = wrd o.dst v := he
  subst this
  exact goes_value hr (h.wrd hv hd) (BelowB.refl _ _)

theorem goes_move (h : Rel B g s w a N) (hd : ∀ t, o.dst = some t → t < N) {x : Operand} (ho : o.op = .move x ∨ o.op = .assign x) (he : (pg TI o).Ev C Rd s ws) : Goes P B N o s w a ws := by
  rcases ho with ho | ho
  all_goals
    unfold pg at he; rw [ho] at he
    obtain ⟨v, hv, he⟩ := rdv_ev h he
    exact goes_pure h hd hv (by simp [execOp, ho]) he

theorem VR_bool {b : Bool} {u : Value} (h : VR w g (.bool b) u) : u = .bool b := h
theorem VR_int {k : IntKind} {n : Int} {u : Value} (h : VR w g (.int k n) u) : u = .int k n := h
theorem VR_str {l : List UInt8} {u : Value} (h : VR w g (.str l) u) : u = strV l := h

theorem goes_pick (h : Rel B g s w a N) (hd : ∀ t, o.dst = some t → t < N) {c x y : Operand} (ho : o.op = .pick c x y)
    (he0 : (rdv c fun c => rdv x fun a => rdv y fun b => pgPick o.dst c a b).Ev C Rd s ws) : Goes P B N o s w a ws := by
  obtain ⟨v, hv, he1⟩ := rdv_ev h he0
  obtain ⟨v1, hv1, he2⟩ := rdv_ev h he1
  obtain ⟨v2, hv2, he⟩ := rdv_ev h he2
  clear he0 he1 he2
  have key : ∀ x' : Bool, v = .bool x' → (if x' then (retv o.dst v1).Ev C Rd s ws else (retv o.dst v2).Ev C Rd s ws) → Goes P B N o s w a ws := by
    rintro x' rfl hh
    have e := VR_bool hv
    cases x' with
    | true => exact goes_pure h hd (u := a.eval x) hv1 (by simp [execOp, ho, e, asBool]) (by simpa using hh)
    | false => exact goes_pure h hd (u := a.eval y) hv2 (by simp [execOp, ho, e, asBool]) (by simpa using hh)
  unfold pgPick at he
  split at he
  · exact key _ rfl (by split <;> rename_i e <;> simp [e] at he ⊢ <;> exact he)
  · exact key _ rfl he
  · exact he.elim

/-! ### numbers -/
theorem goes_int (h : Rel B g s w a N) (hd : ∀ t, o.dst = some t → t < N) {k : IntKind} {n : Int} (hr : (execOp a.eval o).run P w = .ok (.value (.int k n)) w)
    (he : (retv o.dst (.int k n)).Ev C Rd s ws) : Goes P B N o s w a ws := goes_pure h hd (v := .int k n) (u := .int k n) (show _ = _ from rfl) hr he
theorem goes_bool (h : Rel B g s w a N) (hd : ∀ t, o.dst = some t → t < N) {b : Bool} (hr : (execOp a.eval o).run P w = .ok (.value (.bool b)) w)
    (he : (retv o.dst (.bool b)).Ev C Rd s ws) : Goes P B N o s w a ws := goes_pure h hd (v := .bool b) (u := .bool b) (show _ = _ from rfl) hr he
theorem goes_str (h : Rel B g s w a N) (hd : ∀ t, o.dst = some t → t < N) {l : List UInt8} (hr : (execOp a.eval o).run P w = .ok (.value (strV l)) w)
    (he : (retv o.dst (.str l)).Ev C Rd s ws) : Goes P B N o s w a ws := goes_pure h hd (v := .str l) (u := strV l) (show _ = _ from rfl) hr he

theorem goes_binInt (h : Rel B g s w a N) (hd : ∀ t, o.dst = some t → t < N) {op : BinOp} {xt yt : TypeId} {x y : Operand} (ho : o.op = .binOp op xt x y yt) {j j' : IntKind} {m n : Int}
    (hx : a.eval x = .int j m) (hy : a.eval y = .int j' n) (he : (binv op (.int j m) (.int j' n) fun v => retv o.dst v).Ev C Rd s ws) : Goes P B N o s w a ws := by
  have hg : ∀ (op : BinOp), (eqGuard op xt x y (.int j m) (.int j' n)).run P w = .ok () w := by
    intro op; unfold eqGuard; cases op <;> rfl
  have hex : ∀ v, (binOp op xt (.int j m) (.int j' n)).run P w = .ok v w → (execOp a.eval o).run P w = .ok (.value v) w := by
    intro v hv
    simp only [execOp, ho, hx, hy, Sem.run_bind, hg, Result.andThen_ok, hv, Sem.run_pure]
  unfold binv at he
  simp only [] at he
  split at he
  · obtain ⟨hb, he⟩ := he
    have : ¬ n < 0 := by simpa using hb
    exact goes_int h hd (hex _ (by simp only [binOp, Op.shift, this, if_false, Sem.run_pure])) he
  · obtain ⟨hb, he⟩ := he
    have : ¬ n < 0 := by simpa using hb
    exact goes_int h hd (hex _ (by simp only [binOp, Op.shift, this, if_false, Sem.run_pure])) he
  · rename_i n1 n2
    split at he
    · rename_i ejj; subst ejj
      split at he
      · exact goes_int h hd (hex _ (by simp [binOp, Op.intArith])) he
      · exact goes_int h hd (hex _ (by simp [binOp, Op.intArith])) he
      · exact goes_int h hd (hex _ (by simp [binOp, Op.intArith])) he
      · obtain ⟨hb, he⟩ := he
        have : ¬ n = 0 := by simpa using hb
        exact goes_int h hd (hex _ (by simp [binOp, Op.intDiv, this])) he
      · obtain ⟨hb, he⟩ := he
        have : ¬ n = 0 := by simpa using hb
        exact goes_int h hd (hex _ (by simp [binOp, Op.intDiv, this])) he
      · exact goes_int h hd (hex _ (by simp [binOp, Op.intBits, bits])) he
      · exact goes_int h hd (hex _ (by simp [binOp, Op.intBits, bits])) he
      · exact goes_int h hd (hex _ (by simp [binOp, Op.intBits, bits])) he
      · exact goes_int h hd (hex _ (by simp [binOp, Op.intBits, bits])) he
      · refine goes_bool h hd (hex _ ?_) he
        have : (m == n) = decide (m = n) := rfl
        simp [binOp, Op.intCmp, this]
      · refine goes_bool h hd (hex _ ?_) he
        have : (m != n) = !decide (m = n) := rfl
        simp [binOp, Op.intCmp, this]
      · exact goes_bool h hd (hex _ (by simp [binOp, Op.intCmp])) he
      · exact goes_bool h hd (hex _ (by simp [binOp, Op.intCmp])) he
      · exact goes_bool h hd (hex _ (by simp [binOp, Op.intCmp])) he
      · exact goes_bool h hd (hex _ (by simp [binOp, Op.intCmp])) he
      · exact he.elim
    · exact he.elim

theorem goes_binStr (h : Rel B g s w a N) (hd : ∀ t, o.dst = some t → t < N) {op : BinOp} {xt yt : TypeId} {x y : Operand} (ho : o.op = .binOp op xt x y yt) {m n : List UInt8}
    (hx : a.eval x = strV m) (hy : a.eval y = strV n) (he : (binv op (.str m) (.str n) fun v => retv o.dst v).Ev C Rd s ws) : Goes P B N o s w a ws := by
  have hg : ∀ (op : BinOp), (eqGuard op xt x y (strV m) (strV n)).run P w = .ok () w := by
    intro op; unfold eqGuard; cases op <;> rfl
  have hex : (execOp a.eval o).run P w = ((Op.stringOp op ⟨m.toArray⟩ ⟨n.toArray⟩).run P w).andThen fun v w' => .ok (.value v) w' := by
    have : binOp op xt (strV m) (strV n) = Op.stringOp op ⟨m.toArray⟩ ⟨n.toArray⟩ := by cases op <;> rfl
    simp [execOp, ho, hx, hy, hg, this]
  have hbe : (m == n) = decide (m = n) := by by_cases e : m = n <;> simp [e]
  unfold binv at he
  simp only [] at he
  split at he
  · obtain ⟨hb, he⟩ := he
    refine goes_str h hd ?_ he
    have hsz : ¬ (IntKind.i64.max < (((⟨m.toArray⟩ : ByteArray).size + (⟨n.toArray⟩ : ByteArray).size : Nat) : Int)) := by
      have : m.length + n.length ≤ 140737488355328 := by simpa using hb
      have e1 : (⟨m.toArray⟩ : ByteArray).size = m.length := by simp [ByteArray.size]
      have e2 : (⟨n.toArray⟩ : ByteArray).size = n.length := by simp [ByteArray.size]
      rw [e1, e2]
      have : IntKind.i64.max = 9223372036854775807 := by decide
      omega
    rw [hex]
    unfold Op.stringOp
    simp only [gt_iff_lt, hsz, if_false, Sem.run_pure, Result.andThen_ok, strV]
    congr 3
  · exact goes_bool h hd (by rw [hex]; simp [Op.stringOp, hbe]) he
  · exact goes_bool h hd (by rw [hex]; simp [Op.stringOp, hbe]) he
  · exact goes_bool h hd (by rw [hex]; simp [Op.stringOp, hbe]) he
  · exact goes_bool h hd (by rw [hex]; simp [Op.stringOp, hbe]) he
  · exact goes_bool h hd (by rw [hex]; simp [Op.stringOp, hbe]) he
  · exact goes_bool h hd (by rw [hex]; simp [Op.stringOp, hbe]) he
  · exact he.elim

theorem goes_binBool (h : Rel B g s w a N) (hd : ∀ t, o.dst = some t → t < N) {op : BinOp} {xt yt : TypeId} {x y : Operand} (ho : o.op = .binOp op xt x y yt) {m n : Bool} (ht : P.underlying xt = some .bool)
    (hx : a.eval x = .bool m) (hy : a.eval y = .bool n) (he : (binv op (.bool m) (.bool n) fun v => retv o.dst v).Ev C Rd s ws) : Goes P B N o s w a ws := by
  have hg : ∀ (op : BinOp), (eqGuard op xt x y (.bool m) (.bool n)).run P w = .ok () w := by
    intro op; unfold eqGuard; cases op <;> rfl
  have heq : (Op.equal xt (.bool m) (.bool n)).run P w = .ok (m == n) w := by
    have : ∀ d : Nat, (Op.equalIn (d + 1) xt (.bool m) (.bool n)).run P w = .ok (m == n) w := by
      intro d; simp only [Op.equalIn, Sem.run_bind, run_underlying ht, Result.andThen_ok, Sem.run_pure]
    exact this 9999
  unfold binv at he
  simp only [] at he
  split at he
  · exact goes_bool h hd (by simp [execOp, ho, hx, hy, hg, binOp, heq]) he
  · exact goes_bool h hd (by simp [execOp, ho, hx, hy, hg, binOp, heq]) he
  · exact he.elim

theorem goes_un (h : Rel B g s w a N) (hd : ∀ t, o.dst = some t → t < N) {op : UnOp} {xt : TypeId} {x : Operand} (ho : o.op = .unOp op xt x)
    (he0 : (rdv x fun x => unv op x fun v => retv o.dst v).Ev C Rd s ws) : Goes P B N o s w a ws := by
  obtain ⟨v, hv, he⟩ := rdv_ev h he0
  clear he0
  unfold unv at he
  split at he
  · have e := VR_int hv
    exact goes_int h hd (by simp [execOp, ho, e, Op.unary, Op.intArith]) he
  · have e := VR_int hv
    exact goes_int h hd (by simp [execOp, ho, e, Op.unary, Op.intBits, bits]) he
  · have e := VR_bool hv
    exact goes_bool h hd (by simp [execOp, ho, e, Op.unary]) he
  · exact he.elim

end
end Go.Proofs.YtjgnpmdbkgeakaaDoor.Th
