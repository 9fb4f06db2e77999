/- An abstract executor for the machine: part 3 of its soundness, for every program and table. -/
import Derived.Test.YtdhfgopecekdjaaGreatDoorAb02
import Derived.Laws.StructEq
import Derived.ChangeKeysEq
import Derived.Laws.Slices
import Derived.Laws.Strings2
import Derived.Laws.Strings3
namespace Go.Ab
noncomputable section
open Go Go.RowKit

section
variable {C : Cx} {fn : Nat} {o : Oper} {σ : St} {e : Eff} {a : Act} {w : World}

theorem sound_move {x : Operand} (hop : o.op = .move x ∨ o.op = .assign x) (hR : Rel C.w0 C.N C.as σ a w) (hd : ∀ t, o.dst = some t → t < C.N)
    {v : AV} (hv : ev C.T o.type σ.fr x = some v) (he : e = { v }) : Outc C σ o e a w := by
  subst he
  refine Outc.value (v := a.eval x) hR hd rfl ?_ (fun φ hg hf => ev_slot hf hv)
  rcases hop with hop | hop <;> simp [execOp, hop]

theorem sound_pick {c x y : Operand} (hop : o.op = .pick c x y) (hR : Rel C.w0 C.N C.as σ a w) (hd : ∀ t, o.dst = some t → t < C.N)
    {b : Bool} (hb : ev C.T 0 σ.fr c = some (.dat .bool b)) {v : AV} (hv : ev C.T o.type σ.fr (if b then x else y) = some v) (he : e = { v }) : Outc C σ o e a w := by
  subst he
  refine Outc.value (v := a.eval (if b then x else y)) hR hd rfl ?_ (fun φ hg hf => ev_slot hf hv)
  obtain ⟨⟨φ, hg, hf, _⟩, _⟩ := hR
  have h1 := (ev_slot hf hb).bool
  cases b <;> simp [execOp, hop, h1, Go.asBool]

theorem sound_extract {x : Operand} {i : Nat} (hop : o.op = .extract x i) (hR : Rel C.w0 C.N C.as σ a w) (hd : ∀ t, o.dst = some t → t < C.N)
    {vs v : AV} (hx : ev C.T 0 σ.fr x = some (.tup vs)) (hv : nthAV vs i = some v) (he : e = { v }) : Outc C σ o e a w := by
  subst he
  have key : ∀ (E : Env) (vs : AV) (i : Nat) (l : List Value) (v : AV), Rep E vs true l → nthAV vs i = some v → ∃ u, l[i]? = some u ∧ Slot E v u := by
    intro E vs
    induction vs with
    | pr p q ihp ihq =>
      intro i l v hr hn
      obtain ⟨u, r, rfl, h1, h2⟩ := hr
      cases i with
      | zero =>
        simp only [nthAV, Option.some.injEq] at hn
        subst hn
        refine ⟨u, by simp, ?_⟩
        rcases h1 with ⟨ha, cs, rfl, h⟩ | ⟨ha, h⟩
        · exact Slot.ofAgg h ha
        · exact Slot.ofCell h ha
      | succ i =>
        obtain ⟨u', h3, h4⟩ := ihq i r v h2 hn
        exact ⟨u', by simpa using h3, h4⟩
    | _ => intro i l v hr hn; cases i <;> simp [nthAV] at hn
  have hex : ∃ l u, a.eval x = .tuple l ∧ l[i]? = some u := by
    obtain ⟨⟨φ, hg, hf, _⟩, _⟩ := hR
    obtain ⟨l, hl, hr⟩ := ev_slot hf hx
    obtain ⟨u, h1, _⟩ := key _ _ _ _ _ hr hv
    exact ⟨l.toArray, u, hl, by simpa using h1⟩
  obtain ⟨l, u, hl, hu⟩ := hex
  refine Outc.value (v := u) hR hd rfl (by simp [execOp, hop, Instr.extract, hl, hu]) (fun φ hg hf => ?_)
  obtain ⟨l', hl', hr⟩ := ev_slot hf hx
  obtain ⟨u', h1, h2⟩ := key _ _ _ _ _ hr hv
  rw [hl] at hl'
  cases hl'
  have : some u = some u' := by rw [← h1, ← hu]; simp
  cases this
  exact h2

theorem sound_nilCheck {x : Operand} (hop : o.op = .nilCheck x) (hR : Rel C.w0 C.N C.as σ a w) (hd : ∀ t, o.dst = some t → t < C.N)
    {v : AV} (hx : ev C.T 0 σ.fr x = some v) (hk : (∃ id i off p, v = .ptr id i off p) ∨ (∃ t y, v = .pim t y) ∨ (∃ f c, v = .fn f c))
    (he : e = { v }) : Outc C σ o e a w := by
  subst he
  refine Outc.value (v := a.eval x) hR hd rfl ?_ (fun φ hg hf => ev_slot hf hx)
  obtain ⟨⟨φ, hg, hf, _⟩, _⟩ := hR
  have h1 := ev_slot hf hx
  rcases hk with ⟨id, i, off, p, rfl⟩ | ⟨t, y, rfl⟩ | ⟨f, c, rfl⟩
  · obtain ⟨ob', ho', h2⟩ := h1.cell rfl (by simp) (by simp)
    have : ∃ ad : Addr, a.eval x = .pointer (some ad) := by
      cases ob'
      · obtain ⟨_, b, _, h2⟩ := h2; exact ⟨_, by simpa using h2⟩
      · obtain ⟨_, b, _, _, _, h2⟩ := h2; exact ⟨_, by simpa using h2⟩
      case vrow => obtain ⟨_, b, _, _, _, h2⟩ := h2; exact ⟨_, by simpa using h2⟩
      all_goals (obtain ⟨ad, h2⟩ := h2; exact ⟨ad, by simpa using h2⟩)
    obtain ⟨ad, h2⟩ := this
    simp [execOp, hop, h2]
  · obtain ⟨b, of, c, h2, _⟩ := h1.cell rfl (by simp) (by simp)
    simp only [List.cons.injEq, and_true] at h2
    simp [execOp, hop, h2]
  · obtain ⟨vs, h2, _⟩ := h1.cell rfl (by simp) (by simp)
    simp only [List.cons.injEq, and_true] at h2
    simp [execOp, hop, h2]

/-! #### whole numbers, bools, strings -/
theorem wrap_in {k : IntKind} {n : Int} (h : InR k n) : k.wrap n = n := by
  obtain ⟨h1, h2⟩ := h
  unfold IntKind.wrap
  cases k <;> simp only [iLo, iHi] at h1 h2 <;> simp [IntKind.bits, IntKind.signed] <;> omega

theorem run_eqGuard {op : BinOp} {t : TypeId} {x y : Operand} {u v : Value} (h : (∀ q, u ≠ .agg q) ∧ (u ≠ .nilIface)) (P : Program) (w : World) : (eqGuard op t x y u v).run P w = .ok () w := by
  unfold eqGuard
  cases op <;> simp
  all_goals (cases u <;> simp_all)

theorem sound_int {op : BinOp} {t t' : TypeId} {x y : Operand} (hop : o.op = .binOp op t x y t') (hR : Rel C.w0 C.N C.as σ a w) (hd : ∀ t, o.dst = some t → t < C.N)
    {k : IntKind} {m n : Int} (hx : ev C.T t σ.fr x = some (.dat (.int k) m)) (hy : ev C.T t' σ.fr y = some (.dat (.int k) n)) (hs : op ≠ .shl ∧ op ≠ .shr) (he : intOp op k m n = some e) (hc : ∀ q ∈ e.conds, q.holds) : Outc C σ o e a w := by
  have hxy : a.eval x = .int k m ∧ a.eval y = .int k n := by
    obtain ⟨⟨φ, hg, hf, _⟩, _⟩ := hR
    exact ⟨(ev_slot hf hx).int, (ev_slot hf hy).int⟩
  have hrun : ∀ v, (binOp op t (.int k m) (.int k n)).run C.P w = .ok v w → (execOp a.eval o).run C.P w = .ok (.value v) w := by
    intro v hv
    simp [execOp, hop, hxy.1, hxy.2, run_eqGuard (u := .int k m) ⟨by simp, by simp⟩, hv]
  have mk : ∀ v, (binOp op t (.int k m) (.int k n)).run C.P w = .ok v w → e.upd = [] → (∀ E, Slot E e.v v) → Outc C σ o e a w :=
    fun v hv hu hsl => Outc.value (v := v) hR hd hu (hrun v hv) (fun _ _ _ => hsl _)
  cases op <;> simp only [intOp, Option.some.injEq, reduceCtorEq] at he <;> (try (simp at hs; done))
  case add => subst he; exact mk (.int k (m + n)) (by simp [binOp, Op.intArith, wrap_in (hc (.inR k (m + n)) (by simp))]) rfl (fun E => Slot.mkInt _ _)
  case sub => subst he; exact mk (.int k (m - n)) (by simp [binOp, Op.intArith, wrap_in (hc (.inR k (m - n)) (by simp))]) rfl (fun E => Slot.mkInt _ _)
  case mul => subst he; exact mk (.int k (m * n)) (by simp [binOp, Op.intArith, wrap_in (hc (.inR k (m * n)) (by simp))]) rfl (fun E => Slot.mkInt _ _)
  case quo => subst he; exact mk (.int k (iquo k m n)) (by simp [binOp, Op.intDiv, iquo, show n ≠ 0 from hc (.ne0 n) (by simp)]) rfl (fun E => Slot.mkInt _ _)
  case rem => subst he; exact mk (.int k (irem m n)) (by simp [binOp, Op.intDiv, irem, show n ≠ 0 from hc (.ne0 n) (by simp)]) rfl (fun E => Slot.mkInt _ _)
  case and => subst he; exact mk (.int k (iand k m n)) (by simp [binOp, Op.intBits, iand]) rfl (fun E => Slot.mkInt _ _)
  case or => subst he; exact mk (.int k (ior k m n)) (by simp [binOp, Op.intBits, ior]) rfl (fun E => Slot.mkInt _ _)
  case xor => subst he; exact mk (.int k (ixor k m n)) (by simp [binOp, Op.intBits, ixor]) rfl (fun E => Slot.mkInt _ _)
  case andNot => subst he; exact mk (.int k (iandNot k m n)) (by simp [binOp, Op.intBits, iandNot]) rfl (fun E => Slot.mkInt _ _)
  case eql => subst he; exact mk (.bool (decide (m = n))) (by simp [binOp, Op.intCmp]; rfl) rfl (fun E => Slot.mkBool _)
  case neq => subst he; exact mk (.bool (!decide (m = n))) (by simp [binOp, Op.intCmp]; rfl) rfl (fun E => Slot.mkBool _)
  case lss => subst he; exact mk (.bool (decide (m < n))) (by simp [binOp, Op.intCmp]) rfl (fun E => Slot.mkBool _)
  case leq => subst he; exact mk (.bool (decide (m ≤ n))) (by simp [binOp, Op.intCmp]) rfl (fun E => Slot.mkBool _)
  case gtr => subst he; exact mk (.bool (decide (m > n))) (by simp [binOp, Op.intCmp]) rfl (fun E => Slot.mkBool _)
  case geq => subst he; exact mk (.bool (decide (m ≥ n))) (by simp [binOp, Op.intCmp]) rfl (fun E => Slot.mkBool _)

theorem sound_shift {op : BinOp} {t t' : TypeId} {x y : Operand} (hop : o.op = .binOp op t x y t') (hR : Rel C.w0 C.N C.as σ a w) (hd : ∀ t, o.dst = some t → t < C.N)
    {k j : IntKind} {m n : Int} (hx : ev C.T t σ.fr x = some (.dat (.int k) m)) (hy : ev C.T t' σ.fr y = some (.dat (.int j) n))
    (he : (op = .shl ∧ e = { v := .dat (.int k) (ishl k m n), conds := [.nonNeg n] }) ∨ (op = .shr ∧ e = { v := .dat (.int k) (ishr k m n), conds := [.nonNeg n] })) (hc : ∀ q ∈ e.conds, q.holds) : Outc C σ o e a w := by
  have hxy : a.eval x = .int k m ∧ a.eval y = .int j n := by
    obtain ⟨⟨φ, hg, hf, _⟩, _⟩ := hR
    exact ⟨(ev_slot hf hx).int, (ev_slot hf hy).int⟩
  rcases he with ⟨rfl, rfl⟩ | ⟨rfl, rfl⟩
  all_goals
    have h0 : ¬ n < 0 := by have : NonNeg n := hc (.nonNeg n) (by simp); unfold NonNeg at this; omega
  · exact Outc.value (v := .int k (ishl k m n)) hR hd rfl (by simp [execOp, hop, hxy.1, hxy.2, run_eqGuard (u := .int k m) ⟨by simp, by simp⟩, binOp, Op.shift, h0, ishl]) (fun _ _ _ => Slot.mkInt _ _)
  · exact Outc.value (v := .int k (ishr k m n)) hR hd rfl (by simp [execOp, hop, hxy.1, hxy.2, run_eqGuard (u := .int k m) ⟨by simp, by simp⟩, binOp, Op.shift, h0, ishr]) (fun _ _ _ => Slot.mkInt _ _)
end
end
end Go.Ab

namespace Go.Ab
noncomputable section
open Go Go.RowKit

section
variable {C : Cx} {o : Oper} {σ : St} {e : Eff} {a : Act} {w : World}

theorem sound_not {t : TypeId} {x : Operand} (hop : o.op = .unOp .not t x) (hR : Rel C.w0 C.N C.as σ a w) (hd : ∀ t, o.dst = some t → t < C.N)
    {b : Bool} (hx : ev C.T 0 σ.fr x = some (.dat .bool b)) (he : e = { v := .dat .bool (Bool.not b) }) : Outc C σ o e a w := by
  subst he
  have h1 : a.eval x = .bool b := by obtain ⟨⟨φ, hg, hf, _⟩, _⟩ := hR; exact (ev_slot hf hx).bool
  exact Outc.value (v := .bool (!b)) hR hd rfl (by simp [execOp, hop, h1, Op.unary]) (fun _ _ _ => Slot.mkBool _)
theorem sound_neg {t : TypeId} {x : Operand} (hop : o.op = .unOp .neg t x) (hR : Rel C.w0 C.N C.as σ a w) (hd : ∀ t, o.dst = some t → t < C.N)
    {k : IntKind} {n : Int} (hx : ev C.T 0 σ.fr x = some (.dat (.int k) n)) (he : e = { v := .dat (.int k) (Int.neg n), conds := [.inR k (Int.neg n)] }) (hc : ∀ q ∈ e.conds, q.holds) : Outc C σ o e a w := by
  subst he
  have h1 : a.eval x = .int k n := by obtain ⟨⟨φ, hg, hf, _⟩, _⟩ := hR; exact (ev_slot hf hx).int
  have h2 : k.wrap (0 - n) = Int.neg n := by
    have h := wrap_in (hc (.inR k (Int.neg n)) (by simp))
    have e : 0 - n = Int.neg n := by show 0 - n = -n; omega
    rw [e]; exact h
  have h3 : k.wrap (-n) = Int.neg n := by rw [← h2]; congr 1; omega
  exact Outc.value (v := .int k (Int.neg n)) hR hd rfl (by simp [execOp, hop, h1, Op.unary, Op.intArith, h3]) (fun _ _ _ => Slot.mkInt _ _)

theorem sound_str {op : BinOp} {t t' : TypeId} {x y : Operand} (hop : o.op = .binOp op t x y t') (hR : Rel C.w0 C.N C.as σ a w) (hd : ∀ t, o.dst = some t → t < C.N)
    {m n : ByteArray} (hx : ev C.T t σ.fr x = some (.dat .str m)) (hy : ev C.T t' σ.fr y = some (.dat .str n)) (he : binEff op (.dat .str m) (.dat .str n) = some e) (hc : ∀ q ∈ e.conds, q.holds) : Outc C σ o e a w := by
  have hxy : a.eval x = .string m ∧ a.eval y = .string n := by
    obtain ⟨⟨φ, hg, hf, _⟩, _⟩ := hR
    exact ⟨(ev_slot hf hx).str, (ev_slot hf hy).str⟩
  have hrun : ∀ v, (binOp op t (.string m) (.string n)).run C.P w = .ok v w → (execOp a.eval o).run C.P w = .ok (.value v) w := by
    intro v hv
    simp [execOp, hop, hxy.1, hxy.2, run_eqGuard (u := .string m) ⟨by simp, by simp⟩, hv]
  have mk : ∀ v, (binOp op t (.string m) (.string n)).run C.P w = .ok v w → e.upd = [] → (∀ E, Slot E e.v v) → Outc C σ o e a w :=
    fun v hv hu hsl => Outc.value (v := v) hR hd hu (hrun v hv) (fun _ _ _ => hsl _)
  cases op <;> simp only [binEff, Option.some.injEq, reduceCtorEq] at he
  case add =>
    subst he
    have hs : SmallLen (m.size + n.size) := hc (.small (ByteArray.size m + ByteArray.size n)) (by simp)
    unfold SmallLen at hs
    exact mk (.string (m ++ n)) (by
      have h1 : IntKind.i64.max = 9223372036854775807 := by decide
      have : ¬ (((m.size + n.size : Nat) : Int) > IntKind.i64.max) := by rw [h1]; omega
      simp only [binOp, Op.stringOp, this, if_false]; rfl) rfl (fun E => Slot.mkStr _ (by rw [show ByteArray.size (appS m n) = m.size + n.size from ByteArray.size_append]; exact hs))
  case eql => subst he; exact mk (.bool (eqS m n)) (by simp only [binOp, Op.stringOp, eqS, beq_toListBytes]; rfl) rfl (fun E => Slot.mkBool _)
  case neq => subst he; exact mk (.bool (!eqS m n)) (by simp only [binOp, Op.stringOp, eqS, beq_toListBytes]; rfl) rfl (fun E => Slot.mkBool _)

theorem run_equal_bool {t : TypeId} (h : C.P.underlying t = some .bool) (x y : Bool) : (Op.equal t (.bool x) (.bool y)).run C.P w = .ok (x == y) w := by
  exact run_equalIn_bool' w 9999 t x y h
theorem run_equalIn_fnil (d : Nat) {t : TypeId} {p r : Array TypeId} {v : Bool} (h : C.P.underlying t = some (.func p r v)) (w : World) : (Op.equalIn (d + 1) t .nilFunc .nilFunc).run C.P w = .ok true w := by
  simp [Op.equalIn, run_underlying h]
theorem run_equalIn_fsome (d : Nat) {t : TypeId} {p r : Array TypeId} {v : Bool} (h : C.P.underlying t = some (.func p r v)) (f : Fn) (x y : Array Value) (w : World) : (Op.equalIn (d + 1) t (.func f x y) .nilFunc).run C.P w = .ok false w := by
  simp [Op.equalIn, run_underlying h]
theorem sound_bool {op : BinOp} {t t' : TypeId} {x y : Operand} (hop : o.op = .binOp op t x y t') (hR : Rel C.w0 C.N C.as σ a w) (hd : ∀ t, o.dst = some t → t < C.N)
    (ht : C.P.underlying t = some .bool) {m n : Bool} (hx : ev C.T t σ.fr x = some (.dat .bool m)) (hy : ev C.T t' σ.fr y = some (.dat .bool n)) (he : binEff op (.dat .bool m) (.dat .bool n) = some e) : Outc C σ o e a w := by
  have hxy : a.eval x = .bool m ∧ a.eval y = .bool n := by
    obtain ⟨⟨φ, hg, hf, _⟩, _⟩ := hR
    exact ⟨(ev_slot hf hx).bool, (ev_slot hf hy).bool⟩
  have hrun : ∀ v, (binOp op t (.bool m) (.bool n)).run C.P w = .ok v w → (execOp a.eval o).run C.P w = .ok (.value v) w := by
    intro v hv
    simp [execOp, hop, hxy.1, hxy.2, run_eqGuard (u := .bool m) ⟨by simp, by simp⟩, hv]
  have mk : ∀ v, (binOp op t (.bool m) (.bool n)).run C.P w = .ok v w → e.upd = [] → (∀ E, Slot E e.v v) → Outc C σ o e a w :=
    fun v hv hu hsl => Outc.value (v := v) hR hd hu (hrun v hv) (fun _ _ _ => hsl _)
  cases op <;> simp only [binEff, Option.some.injEq, reduceCtorEq] at he
  case eql => subst he; exact mk (.bool (eqB m n)) (by simp [binOp, run_equal_bool ht, eqB]) rfl (fun E => Slot.mkBool _)
  case neq => subst he; exact mk (.bool (!eqB m n)) (by simp [binOp, run_equal_bool ht, eqB]) rfl (fun E => Slot.mkBool _)

theorem sound_fnil {op : BinOp} {t t' : TypeId} {x y : Operand} (hop : o.op = .binOp op t x y t') (hR : Rel C.w0 C.N C.as σ a w) (hd : ∀ t, o.dst = some t → t < C.N)
    (ht : ∃ p r v, C.P.underlying t = some (.func p r v)) {u : AV} (hu : u = .nilfn ∨ ∃ f c, u = .fn f c) (hx : ev C.T t σ.fr x = some u) (hy : ev C.T t' σ.fr y = some .nilfn) (he : binEff op u .nilfn = some e) : Outc C σ o e a w := by
  obtain ⟨p, r, vr, ht⟩ := ht
  have hxy : (u = .nilfn ∧ a.eval x = .nilFunc ∨ ∃ f c, u = .fn f c ∧ ∃ vs, a.eval x = .func (.func f) #[] vs) ∧ a.eval y = .nilFunc := by
    obtain ⟨⟨φ, hg, hf, _⟩, _⟩ := hR
    have h2 := (ev_slot hf hy).cell rfl (by simp) (by simp)
    refine ⟨?_, by simpa [Rep] using h2⟩
    rcases hu with rfl | ⟨f, c, rfl⟩
    · exact .inl ⟨rfl, by simpa [Rep] using (ev_slot hf hx).cell rfl (by simp) (by simp)⟩
    · obtain ⟨vs, h1, _⟩ := (ev_slot hf hx).cell rfl (by simp) (by simp)
      exact .inr ⟨f, c, rfl, vs.toArray, by simpa using h1⟩
  obtain ⟨h1, h2⟩ := hxy
  have mk : ∀ b : Bool, (execOp a.eval o).run C.P w = .ok (.value (.bool b)) w → e = { v := .dat .bool b } → Outc C σ o e a w := by
    intro b hr he
    subst he
    exact Outc.value (v := .bool b) hR hd rfl hr (fun _ _ _ => Slot.mkBool _)
  rcases h1 with ⟨rfl, h1⟩ | ⟨f, c, rfl, vs, h1⟩
  · have hq : (Op.equal t .nilFunc .nilFunc).run C.P w = .ok true w := run_equalIn_fnil 9999 ht w
    cases op <;> simp only [binEff, Option.some.injEq, reduceCtorEq] at he
    · exact mk true (by simp [execOp, hop, h1, h2, run_eqGuard (u := .nilFunc) ⟨by simp, by simp⟩, binOp, hq]) he.symm
    · exact mk false (by simp [execOp, hop, h1, h2, run_eqGuard (u := .nilFunc) ⟨by simp, by simp⟩, binOp, hq]) he.symm
  · have hq : (Op.equal t (.func (.func f) #[] vs) .nilFunc).run C.P w = .ok false w := run_equalIn_fsome 9999 ht _ _ _ w
    cases op <;> simp only [binEff, Option.some.injEq, reduceCtorEq] at he
    · exact mk false (by simp [execOp, hop, h1, h2, run_eqGuard (u := .func (.func f) #[] vs) ⟨by simp, by simp⟩, binOp, hq]) he.symm
    · exact mk true (by simp [execOp, hop, h1, h2, run_eqGuard (u := .func (.func f) #[] vs) ⟨by simp, by simp⟩, binOp, hq]) he.symm

end

/-! #### equality of structs and arrays of flat data -/
theorem VR.slot {E : Env} {t : Ty} {x : t.V} {v : Value} (h : VR E.I E.w t x v) : Slot E (.dat t x) v := by
  rcases h with ⟨h1, cs, rfl, h2⟩ | ⟨h1, h2⟩
  · exact Slot.ofAgg h2 h1
  · exact Slot.ofCell h2 h1
theorem VR.of_slot {E : Env} {t : Ty} {x : t.V} {v : Value} (h : Slot E (.dat t x) v) : VR E.I E.w t x v := h
theorem VR.cells {I : Nat → Prop} {w : World} {t : Ty} {x : t.V} {v : Value} (h : VR I w t x v) : RepC I w t x v.cells.toList :=
  Slot.cells (E := ⟨w, I, fun _ => undef, []⟩) (a := .dat t x) h (by simp) (by simp)

section
variable {P : Program} {T : Tbl}
theorem run_part {t : TypeId} {ti : TI} (h : TIOk P t ti) {I : Nat → Prop} {w : World} {y : Ty} (hs : ti.size = y.size) (ha : ti.agg = y.agg) {x : y.V} {cs : Array Value} {off : Nat} {c r : List Value}
    (hc : cs.toList.drop off = c ++ r) (hr : RepC I w y x c) : ∃ v, (part t cs off).run P w = .ok v w ∧ VR I w y x v := by
  have hl := hr.len
  cases hy : y.agg with
  | true =>
    refine ⟨.agg (cs.extract off (off + ti.size)), by simp [part, h.isAgg w, ha, hy, h.sizeOf w], .inl ⟨hy, c, ?_, hr⟩⟩
    congr 1
    apply Array.ext'
    rw [Array.toList_extract, List.extract_eq_take_drop, hc, hs, ← hl, Nat.add_sub_cancel_left, List.take_left]
  | false =>
    have h1 : y.size = 1 := by cases y <;> first | rfl | cases hy
    obtain ⟨v, rfl⟩ : ∃ v, c = [v] := by
      match c, hl with
      | [v], _ => exact ⟨v, rfl⟩
      | [], hl => simp at hl; omega
      | _ :: _ :: _, hl => simp at hl; omega
    refine ⟨v, ?_, .inr ⟨hy, hr⟩⟩
    have hv : cs[off]? = some v := by
      have : (cs.toList.drop off)[0]? = some v := by rw [hc]; rfl
      rw [List.getElem?_drop] at this
      simpa using this
    simp [part, h.isAgg w, ha, hy, hv]

theorem eq_flat (hT : TblOk P T) (I : Nat → Prop) (w : World) : ∀ d : Nat,
    (∀ t y, chkTy T d t y = true → ∀ k, d ≤ k → ∀ (x z : y.V) (vx vz : Value), VR I w y x vx → VR I w y z vz → (Op.equalIn k t vx vz).run P w = .ok (y.veq x z) w) ∧
    (∀ fs off y, chkFs T d fs off y = true → ∀ k, d ≤ k → ∀ (fields : List Field), fields.map (fun f => (f.type, f.offset)) = fs → (∀ f ∈ fields, f.name ≠ "_") →
      ∀ (xs zs : Array Value) (x z : y.V) (c1 c2 : List Value), xs.toList.drop off = c1 → zs.toList.drop off = c2 → RepC I w y x c1 → RepC I w y z c2 → (Op.eqFields k xs zs fields).run P w = .ok (y.veq x z) w) ∧
    (∀ n i e y, chkArr T d n i e y = true → ∀ k s, d ≤ k → (∀ ti, T e = some ti → ti.size = s) →
      ∀ (xs zs : Array Value) (x z : y.V) (c1 c2 : List Value), xs.toList.drop (i * s) = c1 → zs.toList.drop (i * s) = c2 → RepC I w y x c1 → RepC I w y z c2 → (Op.eqItems k e s xs zs (List.range' i n)).run P w = .ok (y.veq x z) w) := by
  intro d
  induction d with
  | zero => exact ⟨fun _ _ h => by simp [chkTy] at h, fun _ _ _ h => by simp [chkFs] at h, fun _ _ _ _ h => by simp [chkArr] at h⟩
  | succ d ih =>
    obtain ⟨ih1, ih2, ih3⟩ := ih
    refine ⟨?_, ?_, ?_⟩
    · intro t y hk k hdk x z vx vz hx hz
      obtain ⟨k, rfl⟩ : ∃ m, k = m + 1 := ⟨k - 1, by omega⟩
      simp only [chkTy] at hk
      cases ht : T t with
      | none => rw [ht] at hk; cases hk
      | some ti =>
        rw [ht] at hk
        simp only [Bool.and_eq_true, beq_iff_eq] at hk
        obtain ⟨⟨hs, ha⟩, hk⟩ := hk
        have hok := hT t ti ht
        obtain ⟨de, hu, htd, _⟩ := hok.desc
        split at hk
        · rename_i k1 k2 hd1
          obtain rfl := ikEq_eq hk
          rw [hd1] at htd
          cases de <;> simp only [tdOk] at htd
          obtain rfl := htd
          obtain rfl : vx = .int k1 x := by rcases hx with ⟨h, _⟩ | ⟨_, h⟩; cases h; simpa [RepC] using h
          obtain rfl : vz = .int k1 z := by rcases hz with ⟨h, _⟩ | ⟨_, h⟩; cases h; simpa [RepC] using h
          rw [run_equalIn_int w k t k1 k1 x z hu]
          show Result.ok ((show Int from x) == (show Int from z)) w = Result.ok (eqI x z) w
          rw [beq_eqI]
        · rename_i hd1
          rw [hd1] at htd
          cases de <;> simp only [tdOk] at htd
          obtain rfl : vx = .bool x := by rcases hx with ⟨h, _⟩ | ⟨_, h⟩; cases h; simpa [RepC] using h
          obtain rfl : vz = .bool z := by rcases hz with ⟨h, _⟩ | ⟨_, h⟩; cases h; simpa [RepC] using h
          rw [run_equalIn_bool' w k t x z hu]
          rfl
        · rename_i hd1
          rw [hd1] at htd
          cases de <;> simp only [tdOk] at htd
          obtain rfl : vx = .string x := by rcases hx with ⟨h, _⟩ | ⟨_, h⟩; cases h; simpa using h.1
          obtain rfl : vz = .string z := by rcases hz with ⟨h, _⟩ | ⟨_, h⟩; cases h; simpa using h.1
          rw [run_equalIn_string w k t x z hu]
          exact congrArg (fun b => Result.ok b w) (beq_toListBytes x z).symm
        · rename_i y _ _ fs hd1
          rw [hd1] at htd
          cases de <;> simp only [tdOk] at htd
          rename_i fields _
          obtain ⟨hfs, hnm⟩ := htd
          have hagg : y.agg = true := by rw [← ha]; have := hok.desc; obtain ⟨d', hd', _, h⟩ := this; rw [hu] at hd'; cases hd'; exact h.symm
          rcases hx with ⟨_, cx, rfl, hx⟩ | ⟨h, _⟩
          · rcases hz with ⟨_, cz, rfl, hz⟩ | ⟨h, _⟩
            · have hfo : P.fieldsOf t = fields := by simp [Program.fieldsOf, hu]
              rw [run_equalIn_struct w k t _ _ (by rw [hfo]; exact hu) (hok.plain (by rw [ha]; exact hagg)).1, hfo]
              exact ih2 fs 0 y hk k (by omega) fields.toList hfs.symm hnm _ _ x z cx cz (by simp) (by simp) hx hz
            · rw [hagg] at h; cases h
          · rw [hagg] at h; cases h
        · rename_i y _ _ n e hd1
          rw [hd1] at htd
          cases de <;> simp only [tdOk] at htd
          obtain ⟨rfl, rfl⟩ := htd
          have hagg : y.agg = true := by rw [← ha]; have := hok.desc; obtain ⟨d', hd', _, h⟩ := this; rw [hu] at hd'; cases hd'; exact h.symm
          rcases hx with ⟨_, cx, rfl, hx⟩ | ⟨h, _⟩
          · rcases hz with ⟨_, cz, rfl, hz⟩ | ⟨h, _⟩
            · split at hk
              · rename_i te hte
                have hoke := hT e te hte
                obtain ⟨ie, hie, hsz, _⟩ := hoke.info
                rw [run_equalIn_array w k _ _ hu hie, List.range_eq_range']
                refine ih3 n 0 e y hk k _ (by omega) (fun ti' h' => ?_) _ _ x z cx cz (by simp) (by simp) hx hz
                rw [hte] at h'; cases h'
                simp [Program.cellsOf, hie, hsz]
              · cases hk
            · rw [hagg] at h; cases h
          · rw [hagg] at h; cases h
        · cases hk
    · intro fs off y hk k hdk fields hf hnm xs zs x z c1 c2 h1 h2 hx hz
      cases fs with
      | nil =>
        cases y <;> simp only [chkFs] at hk <;> first | cases hk | skip
        cases fields with
        | nil => simp [Op.eqFields]; rfl
        | cons f r => simp at hf
      | cons p fs =>
        obtain ⟨ft, fo⟩ := p
        cases y <;> simp only [chkFs] at hk <;> first | cases hk | skip
        rename_i ya yb
        simp only [Bool.and_eq_true, beq_iff_eq] at hk
        obtain ⟨⟨rfl, hka⟩, hkb⟩ := hk
        cases fields with
        | nil => simp at hf
        | cons f r =>
          simp only [List.map_cons, List.cons.injEq, Prod.mk.injEq] at hf
          obtain ⟨⟨rfl, rfl⟩, hf⟩ := hf
          obtain ⟨ca, cb, e1, hxa, hxb⟩ := hx
          obtain ⟨da, db, e2, hza, hzb⟩ := hz
          cases d with
          | zero => simp [chkTy] at hka
          | succ d =>
          have hti : ∃ ti, T f.type = some ti ∧ ti.size = ya.size ∧ ti.agg = ya.agg := by
            simp only [chkTy] at hka
            cases ht : T f.type with
            | none => rw [ht] at hka; cases hka
            | some ti =>
              rw [ht] at hka
              simp only [Bool.and_eq_true, beq_iff_eq] at hka
              exact ⟨ti, rfl, hka.1.1, hka.1.2⟩
          obtain ⟨ti, ht, hs, ha⟩ := hti
          obtain ⟨u1, p1, v1⟩ := run_part (hT _ _ ht) hs ha (h1.trans e1) hxa
          obtain ⟨u2, p2, v2⟩ := run_part (hT _ _ ht) hs ha (h2.trans e2) hza
          have q := ih1 f.type ya hka k (by omega) x.1 z.1 u1 u2 v1 v2
          have hn : f.name ≠ "_" := hnm f (by simp)
          have t1 : xs.toList.drop (f.offset + ya.size) = cb := by
            rw [← List.drop_drop, h1, e1, ← hxa.len, List.drop_left]
          have t2 : zs.toList.drop (f.offset + ya.size) = db := by
            rw [← List.drop_drop, h2, e2, ← hza.len, List.drop_left]
          have q2 := ih2 fs (f.offset + ya.size) yb hkb k (by omega) r hf (fun g hg => hnm g (by simp [hg])) xs zs x.2 z.2 cb db t1 t2 hxb hzb
          simp only [Op.eqFields, hn, ne_eq, not_false_eq_true, if_true, Sem.run_bind, p1, p2, q, Result.andThen_ok]
          show _ = Result.ok (ya.veq x.1 z.1 && yb.veq x.2 z.2) w
          cases ya.veq x.1 z.1
          · simp
          · simpa using q2
    · intro n i e y hk k s hdk hse xs zs x z c1 c2 h1 h2 hx hz
      cases n with
      | zero =>
        cases y <;> simp only [chkArr] at hk <;> first | cases hk | skip
        simp [Op.eqItems]; rfl
      | succ n =>
        cases y <;> simp only [chkArr] at hk <;> first | cases hk | skip
        rename_i ya yb
        simp only [Bool.and_eq_true] at hk
        obtain ⟨hka, hkb⟩ := hk
        obtain ⟨ca, cb, e1, hxa, hxb⟩ := hx
        obtain ⟨da, db, e2, hza, hzb⟩ := hz
        cases d with
        | zero => simp [chkTy] at hka
        | succ d =>
        have hti : ∃ ti, T e = some ti ∧ ti.size = ya.size ∧ ti.agg = ya.agg := by
          simp only [chkTy] at hka
          cases ht : T e with
          | none => rw [ht] at hka; cases hka
          | some ti =>
            rw [ht] at hka
            simp only [Bool.and_eq_true, beq_iff_eq] at hka
            exact ⟨ti, rfl, hka.1.1, hka.1.2⟩
        obtain ⟨ti, ht, hs, ha⟩ := hti
        have hsz := hse ti ht
        obtain ⟨u1, p1, v1⟩ := run_part (hT _ _ ht) hs ha (h1.trans e1) hxa
        obtain ⟨u2, p2, v2⟩ := run_part (hT _ _ ht) hs ha (h2.trans e2) hza
        have q := ih1 e ya hka k (by omega) x.1 z.1 u1 u2 v1 v2
        have t1 : xs.toList.drop ((i + 1) * s) = cb := by
          rw [Nat.succ_mul, ← List.drop_drop, h1, e1, show s = ca.length by rw [hxa.len, ← hs, hsz], List.drop_left]
        have t2 : zs.toList.drop ((i + 1) * s) = db := by
          rw [Nat.succ_mul, ← List.drop_drop, h2, e2, show s = da.length by rw [hza.len, ← hs, hsz], List.drop_left]
        have q2 := ih3 n (i + 1) e yb hkb k s (by omega) hse xs zs x.2 z.2 cb db t1 t2 hxb hzb
        rw [List.range'_succ]
        simp only [Op.eqItems, Sem.run_bind, p1, p2, q, Result.andThen_ok]
        show _ = Result.ok (ya.veq x.1 z.1 && yb.veq x.2 z.2) w
        cases ya.veq x.1 z.1
        · simp
        · simpa using q2
end
end
end Go.Ab

namespace Go.Ab
noncomputable section
open Go Go.RowKit

section
variable {C : Cx} {o : Oper} {σ : St} {e : Eff} {a : Act} {w : World}

/-! #### paths -/
theorem datGet_rep {I : Nat → Prop} {w : World} : ∀ {t : Ty} {x : t.V} {p : List Nat} {u : AV} {off : Nat} {cs : List Value}, datGet t x p = some u → tyOff t p = some off → RepC I w t x cs →
    ∃ (ty : Ty) (y : ty.V) (c pre post : List Value), u = .dat ty y ∧ cs = pre ++ c ++ post ∧ pre.length = off ∧ RepC I w ty y c := by
  intro t
  induction t with
  | pair s r ihs ihr =>
    intro x p u off cs hg ho hr
    cases p with
    | nil =>
      simp only [datGet, tyOff, Option.some.injEq] at hg ho
      subst hg; subst ho
      exact ⟨_, _, cs, [], [], rfl, by simp, rfl, hr⟩
    | cons n p =>
      obtain ⟨c, d, rfl, h1, h2⟩ := hr
      cases n with
      | zero =>
        simp only [datGet, tyOff] at hg ho
        obtain ⟨ty, y, c', pre, post, hu, rfl, hl, hr⟩ := ihs hg ho h1
        exact ⟨ty, y, c', pre, post ++ d, hu, by simp [List.append_assoc], hl, hr⟩
      | succ n =>
        simp only [datGet, tyOff, Option.map_eq_some_iff] at hg ho
        obtain ⟨o', ho', rfl⟩ := ho
        obtain ⟨ty, y, c', pre, post, hu, rfl, hl, hr⟩ := ihr hg ho' h2
        exact ⟨ty, y, c', c ++ pre, post, hu, by simp [List.append_assoc], by rw [List.length_append, h1.len, hl], hr⟩
  | _ =>
    intro x p u off cs hg ho hr
    cases p with
    | nil =>
      simp only [datGet, tyOff, Option.some.injEq] at hg ho
      subst hg; subst ho
      exact ⟨_, _, cs, [], [], rfl, by simp, rfl, hr⟩
    | cons n p => cases n <;> simp [tyOff] at ho

theorem avGet_rep {E : Env} : ∀ {v : AV} {p : List Nat} {u : AV} {off : Nat} {cs : List Value}, avGet v p = some u → avOff v p = some off → Rep E v false cs →
    ∃ (c pre post : List Value), cs = pre ++ c ++ post ∧ pre.length = off ∧ Rep E u false c := by
  intro v
  have nilCase : ∀ {v : AV} {u : AV} {off : Nat} {cs : List Value}, avGet v [] = some u → avOff v [] = some off → Rep E v false cs → ∃ (c pre post : List Value), cs = pre ++ c ++ post ∧ pre.length = off ∧ Rep E u false c := by
    intro v u off cs hg ho hr
    have h1 : u = v := by cases v <;> simp [avGet] at hg <;> exact hg.symm
    have h2 : off = 0 := by cases v <;> simp [avOff] at ho <;> exact ho.symm
    subst h1; subst h2
    exact ⟨cs, [], [], by simp, rfl, hr⟩
  induction v with
  | pr s r ihs ihr =>
    intro p u off cs hg ho hr
    cases p with
    | nil => exact nilCase hg ho hr
    | cons n p =>
      obtain ⟨c, d, rfl, h1, h2⟩ := hr
      cases n with
      | zero =>
        simp only [avGet, avOff] at hg ho
        obtain ⟨c', pre, post, rfl, hl, hr⟩ := ihs hg ho h1
        exact ⟨c', pre, post ++ d, by simp [List.append_assoc], hl, hr⟩
      | succ n =>
        simp only [avGet, avOff, Option.map_eq_some_iff] at hg ho
        obtain ⟨o', ho', rfl⟩ := ho
        obtain ⟨c', pre, post, rfl, hl, hr⟩ := ihr hg ho' h2
        exact ⟨c', c ++ pre, post, by simp [List.append_assoc], by rw [List.length_append, h1.len, hl], hr⟩
  | dat t x =>
    intro p u off cs hg ho hr
    cases p with
    | nil => exact nilCase hg ho hr
    | cons n p =>
      simp only [avGet, avOff] at hg ho
      obtain ⟨ty, y, c, pre, post, rfl, h1, h2, h3⟩ := datGet_rep hg ho hr
      exact ⟨c, pre, post, h1, h2, h3⟩
  | _ =>
    intro p u off cs hg ho hr
    cases p with
    | nil => exact nilCase hg ho hr
    | cons n p => simp [avGet] at hg

section parts
theorem RepL.take {α : Type} {R : α → List Value → Prop} {k : Nat} (hk : ∀ x c, R x c → c.length = k) : ∀ {xs : List α} {cs : List Value} (n : Nat), RepL R xs cs → RepL R (xs.take n) (cs.take (n * k))
  | [], _, n, e => by rw [show _ = [] from e]; simp [RepL]
  | x :: xs, _, 0, h => by simp [RepL]
  | x :: xs, _, n + 1, ⟨c, r, e, h1, h2⟩ => by
    refine ⟨c, r.take (n * k), ?_, h1, RepL.take hk n h2⟩
    rw [e, Nat.succ_mul, List.take_append, List.take_of_length_le (by rw [hk _ _ h1]; omega), hk _ _ h1, Nat.add_sub_cancel]
theorem RepL.drop {α : Type} {R : α → List Value → Prop} {k : Nat} (hk : ∀ x c, R x c → c.length = k) : ∀ {xs : List α} {cs : List Value} (n : Nat), RepL R xs cs → RepL R (xs.drop n) (cs.drop (n * k))
  | [], _, n, e => by rw [show _ = [] from e]; simp [RepL]
  | x :: xs, _, 0, h => by simpa using h
  | x :: xs, _, n + 1, ⟨c, r, e, h1, h2⟩ => by
    have := RepL.drop hk n h2
    have h3 : c.drop (n * k + k) = [] := List.drop_of_length_le (by rw [hk _ _ h1]; omega)
    rw [e, Nat.succ_mul, List.drop_append, h3, hk _ _ h1, Nat.add_sub_cancel]
    simpa using this

theorem repc_sub {I : Nat → Prop} {w : World} {t : Ty} {xs : List t.V} {ad : Option Addr} {n cap : Nat} (h : RepC I w (.lst t) xs [.slice ad n cap]) {l hi : Nat} (h1 : l ≤ hi) (h2 : hi ≤ n) {ad2 : Option Addr} (had : cap ≠ l → ad2 = ad.map (·.add (l * t.size))) :
    RepC I w (.lst t) ((xs.take hi).drop l) [.slice ad2 (hi - l) (cap - l)] := by
  obtain ⟨a', n', cap', cells, he, hl, hn, hc, hr, hm⟩ := h
  simp only [List.cons.injEq, Value.slice.injEq, and_true] at he
  obtain ⟨rfl, rfl, rfl⟩ := he
  refine ⟨_, hi - l, cap - l, (cells.take (hi * t.size)).drop (l * t.size), rfl, ?_, by omega, by omega, RepL.drop (fun _ _ h => RepC.len h) _ (RepL.take (fun _ _ h => RepC.len h) _ hr), ?_⟩
  · show ((xs.take hi).drop l).length = _
    have : xs.length = n := hl
    simp only [List.length_drop, List.length_take]; omega
  · by_cases hcl : cap = l
    · left
      have : xs.length = n := hl
      apply List.eq_nil_of_length_eq_zero
      simp only [List.length_drop, List.length_take]; omega
    · rcases hm with hm | ⟨b, o, rfl, hb, hcell⟩
      · left
        have : xs = [] := hm
        subst this
        show ((([] : List t.V).take hi).drop l) = []
        simp
      · refine .inr ⟨b, o + l * t.size, ?_, hb, fun j v hj => ?_⟩
        · rw [had hcl]; simp only [Option.map_some, add_at]
        · rw [List.getElem?_drop, List.getElem?_take] at hj
          split at hj
          · have := hcell _ _ hj
            rwa [← Nat.add_assoc] at this
          · cases hj

end parts

/-- A row, seen as data. -/
theorem row_rep {E : Env} {base : Nat → Prop} {id : Nat} {el : TypeId} {t : Ty} {xs : List t.V} (h : ObjRep E base id (.row el t xs)) {I' : Nat → Prop} (hI : ∀ b, E.I b → I' b) (hb : ∀ b, blk (E.φ id) = some b → I' b) :
    RepC I' E.w (.lst t) xs [E.φ id] ∧ xs.length ≤ 9223372036854775807 := by
  obtain ⟨cells, h1, h2, h3⟩ := h
  rcases h3 with ⟨h4, ad, h3⟩ | ⟨g, cap, cur, h3, h4, h5, h6, h7, h8, h9⟩
  · have hx : xs = [] := List.eq_nil_of_length_eq_zero h4
    subst hx
    exact ⟨⟨ad, 0, 0, [], by rw [h3], rfl, by simp, by simp, rfl, .inl rfl⟩, by simp⟩
  · refine ⟨⟨some ⟨g, 0, none⟩, xs.length, cap + 1, cells, by rw [h3], rfl, h6, h7, RepL.imp (fun _ _ => RepC.mono hI (fun _ _ => rfl)) h1, .inr ⟨g, 0, rfl, hb g (by rw [h3]; rfl), fun j v hj => ?_⟩⟩, by simp only [maxLen] at h7; omega⟩
    have := World.ownsRow.cells (w := E.w) ⟨h2, .inr ⟨g, cap + 1, cur, h3, Nat.zero_le _, h5, h6, h7, h8, h9⟩⟩ (g := g) (by rw [h3]; rfl) j v hj
    rwa [add_at] at this

/-! #### data out of memory -/
theorem toDat_rep {E : Env} {base : Nat → Prop} (hobj : ∀ id ob, look id E.objs = some ob → ObjRep E base id ob) {I' : Nat → Prop} (hI : ∀ b, E.I b → I' b) :
    ∀ {t : Ty} {v : AV} {x : t.V} {cs : List Value}, toDat E.objs t v = some x → Rep E v false cs → (∀ id ∈ slIds v, ∀ e s xs, look id E.objs = some (.row e s xs) → ∀ b, blk (E.φ id) = some b → I' b) → RepC I' E.w t x cs := by
  have mono : ∀ {t : Ty} {x : t.V} {cs : List Value}, RepC E.I E.w t x cs → RepC I' E.w t x cs := fun h => RepC.mono hI (fun _ _ => rfl) h
  have dat : ∀ {t t' : Ty} {y : t'.V} {x : t.V} {cs : List Value}, (if h : t'.eq t = true then some (Ty.cst h y) else none) = some x → RepC E.I E.w t' y cs → RepC I' E.w t x cs := by
    intro t t' y x cs h hr
    split at h
    · rename_i he
      simp only [Option.some.injEq] at h
      subst h
      exact (Rep_cst he y cs).2 (mono hr)
    · cases h
  intro t
  induction t with
  | pair s r ihs ihr =>
    intro v x cs h hr hs
    cases v <;> try (simp only [toDat] at h; try (cases h; done))
    · exact dat h hr
    · obtain ⟨c, d, rfl, h1, h2⟩ := hr
      split at h
      · rename_i y z hy hz
        cases h
        exact ⟨c, d, rfl, ihs hy h1 (fun id hid => hs id (by simp [slIds, hid])), ihr hz h2 (fun id hid => hs id (by simp [slIds, hid]))⟩
      · cases h
  | unit =>
    intro v x cs h hr hs
    cases v <;> try (simp only [toDat] at h; try (cases h; done))
    · exact dat h hr
    · exact hr
  | lst s ih =>
    intro v x cs h hr hs
    cases v <;> try (simp only [toDat] at h; try (cases h; done))
    · exact dat h hr
    · split at h
      · cases h
        exact ⟨none, 0, 0, [], hr, rfl, by simp, by simp, rfl, .inl rfl⟩
      · cases h
    · rename_i id
      obtain ⟨ob, hob, ⟨a1, n1, c1, hcs⟩, hk⟩ := hr
      rw [hob] at h
      cases ob with
      | row e t' xs =>
        simp only at h hk
        split at h
        · rename_i he
          simp only [Option.some.injEq] at h
          subst h
          refine (Rep_cst (a := .lst t') (b := .lst s) he xs cs).2 ?_
          rw [hk]
          exact (row_rep (hobj id _ hob) hI (fun b hb => hs id (by simp [slIds]) _ _ _ hob b hb)).1
        · cases h
      | frz t' xs =>
        simp only at h hk
        split at h
        · rename_i he
          simp only [Option.some.injEq] at h
          subst h
          refine (Rep_cst (a := .lst t') (b := .lst s) he xs cs).2 ?_
          rw [hk]
          exact mono (t := .lst t') (hobj id _ hob)
        · cases h
      | _ => cases h
    · rename_i id lo hi
      obtain ⟨ob, hob, ⟨a1, n1, c1, hcs⟩, hk⟩ := hr
      rw [hob] at h
      cases ob with
      | row e t' xs =>
        simp only at h hk
        split at h
        · rename_i he
          simp only [Option.some.injEq] at h
          subst h
          obtain ⟨h1, h2, ad, n, cap, ad', h3, h4, h5⟩ := hk
          refine (Rep_cst (a := .lst t') (b := .lst s) he _ cs).2 ?_
          have hrr := (row_rep (hobj id _ hob) hI (fun b hb => hs id (by simp [slIds]) _ _ _ hob b hb)).1
          rw [h3] at hrr
          rw [h4]
          have hn : xs.length = n := by
            obtain ⟨a', n', cap', cells, he', hl, _⟩ := hrr
            simp only [List.cons.injEq, Value.slice.injEq, and_true] at he'
            obtain ⟨_, rfl, _⟩ := he'
            exact hl
          exact repc_sub hrr h1 (by omega) h5
        · cases h
      | _ => cases h
  | _ =>
    intro v x cs h hr hs
    cases v <;> try (simp only [toDat] at h; try (cases h; done))
    exact dat h hr

/-! #### len -/
theorem MapRep.length {I : Nat → Prop} {w : World} {k v : Ty} : ∀ {m : List (k.V × v.V)} {es : List MapEntry}, MapRep I w k v m es → m.length = es.length
  | [], _, h => by rw [show _ = [] from h]; rfl
  | _ :: _, _, ⟨e, r, he, _, _, h⟩ => by rw [he]; simp [h.length]
theorem sound_len {x : Operand} {t : TypeId} (hop : o.op = .call { callee := .builtin .len, args := #[x], argTypes := #[t] }) (hR : Rel C.w0 C.N C.as σ a w) (hd : ∀ t, o.dst = some t → t < C.N)
    {v : AV} (hx : ev C.T t σ.fr x = some v) (he : lenEff σ.objs v = some e)
    (hk : ∃ d, C.P.underlying t = some d ∧ ((∃ s, v = .dat .str s) → d = .string) ∧ ((∃ ty ys, v = .dat (.lst ty) ys) → ∃ q, d = .slice q) ∧ ((∃ ty, v = .nil ty) → ∃ q, d = .slice q) ∧ ((∃ id, v = .sl id) → ∃ q, d = .slice q) ∧ ((∃ id, v = .map id) → ∃ k q, d = .map k q) ∧ ((∃ id lo hi, v = .sub id lo hi) → ∃ q, d = .slice q)) :
    Outc C σ o e a w ∧ ∀ q ∈ e.facts, q := by
  obtain ⟨d, hu, k1, k2, k3, k4, k5, k6⟩ := hk
  have hrun : ∀ n : Nat, (Builtin.len_ #[t] o.type #[a.eval x]).run C.P w = .ok (goInt n) w → (execOp a.eval o).run C.P w = .ok (.value (.int .i64 n)) w := by
    intro n hn
    simp [execOp, hop, resolve, invoke, builtin, hn, goInt]
  have hsl : ∀ (b : Option Addr) (n c : Nat) (q : TypeId), d = .slice q → a.eval x = .slice b n c → (execOp a.eval o).run C.P w = .ok (.value (.int .i64 n)) w := by
    intro b n c q hq hv
    refine hrun n ?_
    subst hq
    rw [hv]
    simp [Builtin.len_, run_underlying hu]
  have fin : ∀ n : Nat, (execOp a.eval o).run C.P w = .ok (.value (.int .i64 n)) w → SmallLen n → (∃ fs rd, e = { v := .dat (.int .i64) ((n : Nat) : Int), facts := fs, rd := rd } ∧ ∀ q ∈ fs, q = SmallLen n) → Outc C σ o e a w ∧ ∀ q ∈ e.facts, q := by
    rintro n hr hs ⟨fs, rd, rfl, hfs⟩
    exact ⟨Outc.value (v := .int .i64 n) hR hd rfl hr (fun _ _ _ => Slot.mkInt _ _), fun q hq => by rw [hfs q hq]; exact hs⟩
  have hR' := hR
  obtain ⟨⟨φ, hg, hf, _⟩, _⟩ := hR'
  have hv := ev_slot hf hx
  cases v with
  | dat ty y =>
    cases ty with
    | str =>
      simp only [lenEff, Option.some.injEq] at he
      have h1 := hv.str
      obtain rfl := k1 ⟨y, rfl⟩
      refine fin (ByteArray.size y) (hrun _ ?_) ?_ ⟨_, _, he.symm, by simp⟩
      · rw [h1]; simp [Builtin.len_, run_underlying hu]
      · exact hv.str'.2
    | lst ty =>
      simp only [lenEff, Option.some.injEq] at he
      obtain ⟨b, n, cap, cells, h1, h2, h3, h4, _⟩ := hv.cell rfl (by simp) (by simp)
      obtain ⟨q, hq⟩ := k2 ⟨ty, y, rfl⟩
      refine fin (List.length (α := ty.V) y) ?_ ?_ ⟨_, _, he.symm, by simp⟩
      · rw [h2]; exact hsl b n cap q hq (by simpa using h1)
      · unfold SmallLen; rw [h2]; omega
    | _ => simp [lenEff] at he
  | nil ty =>
    simp only [lenEff, Option.some.injEq] at he
    have h1 := hv.cell rfl (by simp) (by simp)
    obtain ⟨q, hq⟩ := k3 ⟨ty, rfl⟩
    replace h1 : [a.eval x] = [.slice none 0 0] := h1
    exact fin 0 (hsl none 0 0 q hq (by simpa using h1)) (by simp [SmallLen]) ⟨_, _, he.symm, by simp⟩
  | sl id =>
    obtain ⟨q, hq⟩ := k4 ⟨id, rfl⟩
    obtain ⟨ob, hob, _, h1⟩ := hv.cell rfl (by simp) (by simp)
    replace hob : look id σ.objs = some ob := hob
    simp only [lenEff, hob] at he
    cases ob with
    | row et ty xs =>
      simp only [Option.some.injEq] at he
      obtain ⟨cells, h2, h3, h4⟩ := hg.obj _ _ hob
      simp only [List.cons.injEq, and_true] at h1
      rcases h4 with ⟨h5, ad, h4⟩ | ⟨g, cap, cur, h4, h5, h6, h7, h8, _⟩
      · exact fin xs.length (by rw [h5]; exact hsl _ 0 _ q hq (h1.trans h4)) (by rw [h5]; simp [SmallLen]) ⟨_, _, he.symm, by simp⟩
      · exact fin xs.length (hsl _ _ _ q hq (h1.trans h4)) (by unfold SmallLen; simp only [maxLen] at h8; omega) ⟨_, _, he.symm, by simp⟩
    | frz ty xs =>
      simp only [Option.some.injEq] at he
      obtain ⟨b, n, cap, cells, h2, h3, h4, h5, _⟩ := hg.obj _ _ hob
      simp only [List.cons.injEq, and_true] at h1 h2
      exact fin (List.length (α := ty.V) xs) (by rw [h3]; exact hsl _ _ _ q hq (h1.trans h2)) (by unfold SmallLen; rw [h3]; omega) ⟨_, _, he.symm, by simp⟩
    | vrow et sz xs =>
      simp only [Option.some.injEq] at he
      obtain ⟨cells, h2, h3, h4⟩ := hg.obj _ _ hob
      simp only [List.cons.injEq, and_true] at h1
      rcases h4 with ⟨h5, ad, h4⟩ | ⟨g, cap, cur, h4, h5, h6, h7, h8, _⟩
      · exact fin xs.length (by rw [h5]; exact hsl _ 0 _ q hq (h1.trans h4)) (by rw [h5]; simp [SmallLen]) ⟨_, _, he.symm, by simp⟩
      · exact fin xs.length (hsl _ _ _ q hq (h1.trans h4)) (by unfold SmallLen; simp only [maxLen] at h8; omega) ⟨_, _, he.symm, by simp⟩
    | _ => simp at he
  | sub id lo hi =>
    obtain ⟨q, hq⟩ := k6 ⟨id, lo, hi, rfl⟩
    obtain ⟨ob, hob, _, h1⟩ := hv.cell rfl (by simp) (by simp)
    replace hob : look id σ.objs = some ob := hob
    simp only [lenEff, hob] at he
    cases ob with
    | row et ty xs =>
      simp only [Option.some.injEq] at he
      obtain ⟨h2, h3, ad, n, cap, ad', h4, h5, _⟩ := h1
      simp only [List.cons.injEq, and_true] at h5
      have hsm := (row_rep (hg.obj _ _ hob) (fun _ h => Or.inl h) (I' := fun b => imm C.w0 w φ σ.objs b ∨ True) (fun b _ => .inr trivial)).2
      exact fin (hi - lo) (hsl _ _ _ q hq h5) (by unfold SmallLen; omega) ⟨_, _, he.symm, by simp⟩
    | vrow et sz xs =>
      simp only [Option.some.injEq] at he
      obtain ⟨h2, h3, ad, n, cap, ad', h4, h5, _⟩ := h1
      simp only [List.cons.injEq, and_true] at h5
      obtain ⟨cells, _, _, h6⟩ := hg.obj _ _ hob
      have hsm : xs.length ≤ 9223372036854775807 := by
        rcases h6 with ⟨h6, _⟩ | ⟨_, _, _, _, _, _, h7, h8, _⟩
        · omega
        · simp only [maxLen] at h8; omega
      exact fin (hi - lo) (hsl _ _ _ q hq h5) (by unfold SmallLen; omega) ⟨_, _, he.symm, by simp⟩
    | _ => cases he
  | map id =>
    obtain ⟨kt, q, hq⟩ := k5 ⟨id, rfl⟩
    obtain ⟨ob, hob, _, h1⟩ := hv.cell rfl (by simp) (by simp)
    replace hob : look id σ.objs = some ob := hob
    simp only [lenEff, hob] at he
    cases ob with
    | map k v m =>
      simp only [Option.some.injEq] at he
      obtain ⟨b, es, clock, h2, h3, h4, _, h5⟩ := hg.obj _ _ hob
      simp only [List.cons.injEq, and_true] at h1
      have hl := h5.length
      subst he
      refine ⟨Outc.value (v := .int .i64 m.length) hR hd rfl (hrun _ ?_) (fun _ _ _ => Slot.mkInt _ _), by simp⟩
      rw [h1.trans h2]
      subst hq
      have h4' : w.heap[b]? = some (.map es clock) := h4
      simp [Builtin.len_, run_underlying hu, getObj, Sem.run, h4', hl]
    | vmap k m =>
      simp only [Option.some.injEq] at he
      obtain ⟨b, es, clock, h2, h3, h4, _, h5⟩ := hg.obj _ _ hob
      simp only [List.cons.injEq, and_true] at h1
      have hl := h5.length
      subst he
      refine ⟨Outc.value (v := .int .i64 m.length) hR hd rfl (hrun _ ?_) (fun _ _ _ => Slot.mkInt _ _), by simp⟩
      rw [h1.trans h2]
      subst hq
      have h4' : w.heap[b]? = some (.map es clock) := h4
      simp [Builtin.len_, run_underlying hu, getObj, Sem.run, h4', hl]
    | _ => simp at he
  | _ => simp [lenEff] at he
end
end
end Go.Ab

namespace Go.Ab
noncomputable section
open Go Go.RowKit

section
variable {C : Cx} {o : Oper} {σ : St} {e : Eff} {a : Act} {w : World}

theorem run_loadVar_at {P : Program} {t : TypeId} {ti : TI} (h : TIOk P t ti) {b o : Nat} {c : List Value} {w : World} (hl : c.length = ti.size) (hc : ∀ j v, c[j]? = some v → w.cell? ⟨b, o + j, none⟩ = some v) :
    ∃ v, (loadVar t ⟨b, o, none⟩).run P w = .ok v w ∧ ((ti.agg = true ∧ v = .agg c.toArray) ∨ (ti.agg = false ∧ (ti.size = 1 → c = [v]))) ∨ (ti.agg = false ∧ ti.size ≠ 1) := by
  cases ha : ti.agg with
  | true =>
    refine ⟨.agg c.toArray, .inl ⟨?_, .inl ⟨rfl, rfl⟩⟩⟩
    have := run_loadCells_list (P := P) w ⟨b, o, none⟩ c (fun j v hj => by rw [add_at]; exact hc j v hj)
    rw [hl] at this
    simp [loadVar, h.isAgg w, ha, h.sizeOf w, this]
  | false =>
    by_cases h1 : ti.size = 1
    · match c, (by rw [hl, h1] : c.length = 1) with
      | [v], _ =>
        refine ⟨v, .inl ⟨?_, .inr ⟨rfl, fun _ => rfl⟩⟩⟩
        have := hc 0 v rfl
        simp [loadVar, h.isAgg w, ha, show w.cell? ⟨b, o, none⟩ = some v from this]
    · exact ⟨undef, .inr ⟨rfl, h1⟩⟩

theorem AV.size_cell {u : AV} (h : u.agg = false) : u.size = 1 := by
  cases u with
  | dat t x => cases t <;> first | rfl | cases h
  | pr a b => cases h
  | un => cases h
  | _ => rfl

theorem Rep.notTup {E : Env} {u : AV} {c : List Value} (h : Rep E u false c) : ∀ x, u ≠ .tup x := by rintro x rfl; exact h

/-- What lies at an address, read as a value of the type. -/
theorem load_slot {P : Program} {t : TypeId} {ti : TI} (h : TIOk P t ti) {E : Env} {u : AV} {b o : Nat} {c : List Value} (hs : ti.size = u.size) (ha : ti.agg = u.agg) (hr : Rep E u false c)
    (hc : ∀ j v, c[j]? = some v → E.w.cell? ⟨b, o + j, none⟩ = some v) : ∃ v, (loadVar t ⟨b, o, none⟩).run P E.w = .ok v E.w ∧ Slot E u v := by
  rcases run_loadVar_at h (b := b) (o := o) (w := E.w) (by rw [hr.len, hs]) hc with ⟨v, ⟨h1, h2⟩ | ⟨h1, h2⟩⟩
  · refine ⟨v, h1, ?_⟩
    rcases h2 with ⟨h2, rfl⟩ | ⟨h2, h3⟩
    · exact Slot.ofAgg hr (by rw [← ha]; exact h2)
    · have := h3 (by rw [hs]; exact AV.size_cell (by rw [← ha]; exact h2))
      subst this
      exact Slot.ofCell hr (by rw [← ha]; exact h2)
  · exact absurd (hs.trans (AV.size_cell (by rw [← ha]; exact h1))) h2

theorem mid_at {cs pre c post : List Value} (h : cs = pre ++ c ++ post) {j : Nat} {v : Value} (hj : c[j]? = some v) : cs[pre.length + j]? = some v := by
  subst h
  rw [List.append_assoc, List.getElem?_append_right (by omega), Nat.add_sub_cancel_left, List.getElem?_append_left (by
    have := (List.getElem?_eq_some_iff.1 hj).1; exact this)]
  exact hj

theorem cell_heap {w : World} {b : Nat} {cells : Array Value} {ty : TypeId} {fr : Nat × Nat} (h : w.heap[b]? = some (.cells cells ty fr)) (j : Nat) : w.cell? ⟨b, j, none⟩ = cells[j]? := by
  simp [World.cell?, h]

theorem load_key {x : Operand} {t : TypeId} (hT : TblOk C.P C.T) {p : AV} (hx : ev C.T 0 σ.fr x = some p) (he : loadEff C.T σ.objs t p = some e) {φ : Nat → Value}
    (hg : Good C.w0 ⟨w, imm C.w0 w φ σ.objs, φ, σ.objs⟩) (hf : FrOk ⟨w, imm C.w0 w φ σ.objs, φ, σ.objs⟩ σ.fr a) :
    e.upd = [] ∧ ∃ ad v, a.eval x = .pointer (some ad) ∧ (loadVar t ad).run C.P w = .ok v w ∧ Slot ⟨w, imm C.w0 w φ σ.objs, φ, σ.objs⟩ e.v v := by
  have hv := ev_slot hf hx
  cases p with
  | pim u y =>
    simp only [loadEff] at he
    split at he
    · rename_i ti hti
      split at he
      · rename_i hsz
        simp only [Option.some.injEq] at he
        subst he
        obtain ⟨b, of, c, h1, hb, hr, hc⟩ := hv.cell rfl (by simp) (by simp)
        obtain ⟨v, h2, h3⟩ := load_slot (E := ⟨w, imm C.w0 w φ σ.objs, φ, σ.objs⟩) (u := .dat u y) (hT t ti hti) hsz.1 hsz.2 hr hc
        exact ⟨rfl, _, v, by simpa using h1, h2, h3⟩
      · cases he
    · cases he
  | ptr id i off q =>
    simp only [loadEff] at he
    split at he
    · rename_i ti hti
      obtain ⟨ob, hob, hp⟩ := hv.cell rfl (by simp) (by simp)
      replace hob : look id σ.objs = some ob := hob
      rw [hob] at he
      cases ob with
      | box bv =>
        simp only at he hp
        split at he
        · rename_i u o' hgt hof
          split at he
          · rename_i hk
            simp only [Option.some.injEq] at he
            subst he
            obtain ⟨hi0, b, hφ, hptr⟩ := hp
            obtain ⟨b', cells, ty, hφ', _, hheap, hrep⟩ := hg.obj _ _ hob
            have hbb : b' = b := by
              have := hφ'.symm.trans hφ
              simpa using this
            subst hbb
            obtain ⟨c, pre, post, hcs, hl, hr⟩ := avGet_rep hgt hof hrep
            obtain ⟨rfl, ho2, hsz, hag⟩ := hk
            obtain ⟨v, h2, h3⟩ := load_slot (E := ⟨w, imm C.w0 w φ σ.objs, φ, σ.objs⟩) (b := b') (o := off) (hT t ti hti) hsz hag hr (fun j v hj => by
              have hh : w.cell? ⟨b', off + j, none⟩ = cells[off + j]? := cell_heap hheap _
              show w.cell? _ = _
              rw [hh]
              have := mid_at hcs hj
              rw [hl, ho2] at this
              simpa using this)
            exact ⟨rfl, _, v, by simpa using hptr, h2, h3⟩
          · cases he
        · cases he
      | row et u xs =>
        simp only at he hp
        split at he
        · rename_i y o' hgt hof
          split at he
          · rename_i hk
            simp only [Option.some.injEq] at he
            subst he
            obtain ⟨hi, b, n, cap, hφ, hptr⟩ := hp
            obtain ⟨cells, hrl, hlen, hown⟩ := hg.obj _ _ hob
            obtain ⟨pre, c, post, hcs, hpl, hrc⟩ := RepL.get (k := u.size) (fun _ _ h => RepC.len h) i (xs.getD i u.dflt) hrl (by
              rw [List.getD_eq_getElem?_getD, List.getElem?_eq_getElem hi]; rfl)
            obtain ⟨ty2, y2, c2, pre2, post2, hy, hcs2, hl2, hr2⟩ := datGet_rep hgt hof hrc
            subst hy
            obtain ⟨ho2, hsz, hag⟩ := hk
            have hcells : ∀ j v, cells[j]? = some v → w.cell? ⟨b, j, none⟩ = some v := by
              intro j v hj
              have hown' : w.ownsRow 0 et u.size (φ id) xs.length cells := by
                refine ⟨hlen, ?_⟩
                rcases hown with ⟨h4, ad, h3⟩ | ⟨g, cap', cur, h3, _, h4⟩
                · rw [h4] at hi; exact absurd hi (Nat.not_lt_zero _)
                · exact .inr ⟨g, cap' + 1, cur, h3, Nat.zero_le _, h4⟩
              have := World.ownsRow.cells (w := w) hown' (g := b) (by show Value.ownBlock (φ id) = some b; rw [hφ]; rfl) j v hj
              rwa [add_at, Nat.zero_add] at this
            obtain ⟨v, h2, h3⟩ := load_slot (E := ⟨w, imm C.w0 w φ σ.objs, φ, σ.objs⟩) (u := .dat ty2 y2) (b := b) (o := i * u.size + off) (hT t ti hti) hsz hag hr2 (fun j v hj => by
              have h5 := mid_at hcs2 hj
              have h6 := mid_at hcs h5
              rw [hpl, hl2, ho2] at h6
              rw [show i * u.size + off + j = i * u.size + (off + j) from by omega]
              exact hcells _ _ h6)
            exact ⟨rfl, _, v, by simpa using hptr, h2, h3⟩
          · cases he
        · cases he
      | vrow et sz xs =>
        simp only at he hp
        split at he
        · rename_i y o' hgt hof
          split at he
          · rename_i hk
            simp only [Option.some.injEq] at he
            subst he
            obtain ⟨hi, b, n, cap, hφ, hptr⟩ := hp
            obtain ⟨cells, hrl, hlen, hown⟩ := hg.obj _ _ hob
            obtain ⟨pre, c, post, hcs, hpl, hrc, _⟩ := RepL.get (k := sz) (fun _ _ h => h.1.len.trans h.2) i (xs.getD i .any) hrl (by
              rw [List.getD_eq_getElem?_getD, List.getElem?_eq_getElem hi]; rfl)
            obtain ⟨c2, pre2, post2, hcs2, hl2, hr2⟩ := avGet_rep hgt hof hrc
            obtain ⟨ho2, hsz, hag⟩ := hk
            have hcells : ∀ j v, cells[j]? = some v → w.cell? ⟨b, j, none⟩ = some v := by
              intro j v hj
              have hown' : w.ownsRow 0 et sz (φ id) xs.length cells := by
                refine ⟨hlen, ?_⟩
                rcases hown with ⟨h4, ad, h3⟩ | ⟨g, cap', cur, h3, _, h4⟩
                · rw [h4] at hi; exact absurd hi (Nat.not_lt_zero _)
                · exact .inr ⟨g, cap' + 1, cur, h3, Nat.zero_le _, h4⟩
              have := World.ownsRow.cells (w := w) hown' (g := b) (by show Value.ownBlock (φ id) = some b; rw [hφ]; rfl) j v hj
              rwa [add_at, Nat.zero_add] at this
            obtain ⟨v, h2, h3⟩ := load_slot (E := ⟨w, imm C.w0 w φ σ.objs, φ, σ.objs⟩) (b := b) (o := i * sz + off) (hT t ti hti) hsz hag hr2 (fun j v hj => by
              have h5 := mid_at hcs2 hj
              have h6 := mid_at hcs h5
              rw [hpl, hl2, ho2] at h6
              rw [show i * sz + off + j = i * sz + (off + j) from by omega]
              exact hcells _ _ h6)
            exact ⟨rfl, _, v, by simpa using hptr, h2, h3⟩
          · cases he
        · cases he
      | _ => simp at he
    · cases he
  | _ => simp [loadEff] at he
theorem sound_load {x : Operand} {t : TypeId} (hop : o.op = .load t x) (hT : TblOk C.P C.T) (hR : Rel C.w0 C.N C.as σ a w) (hd : ∀ t, o.dst = some t → t < C.N)
    {p : AV} (hx : ev C.T 0 σ.fr x = some p) (he : loadEff C.T σ.objs t p = some e) : Outc C σ o e a w := by
  have hR' := hR
  obtain ⟨⟨φ, hg, hf, hh⟩, hN⟩ := hR'
  obtain ⟨hu, ad, v, h1, h2, hv⟩ := load_key hT hx he hg hf
  refine ⟨_, v, w, ?_, .inl rfl, by rw [hu]; exact Rel.next hg hf hh hN hd (EnvLe.refl _) hg hv⟩
  simp [execOp, hop, Instr.loadAt, Instr.sureAddr, h1, h2]

/-! #### parts of structs -/
theorem field_off {P : Program} {T : Tbl} (hT : TblOk P T) {s : TypeId} {ti : TI} (h : T s = some ti) {fs : List (TypeId × Nat)} (hd : ti.d = .struct fs) :
    ∃ fields : Array Field, P.underlying s = some (.struct fields) ∧ fs = fields.toList.map (fun f => (f.type, f.offset)) := by
  obtain ⟨d, hu, htd, _⟩ := (hT s ti h).desc
  rw [hd] at htd
  cases d <;> simp only [tdOk] at htd
  exact ⟨_, hu, htd.1⟩

theorem run_fieldAt {P : Program} {T : Tbl} (hT : TblOk P T) {s : TypeId} {fields : Array Field} (hu : P.underlying s = some (.struct fields)) {f : Nat} {ft : TypeId} {fo : Nat}
    (hf : (fields.toList.map (fun f => (f.type, f.offset)))[f]? = some (ft, fo)) {tf : TI} (hft : T ft = some tf) (hz : tf.size ≠ 0) {b o : Nat} (w : World) :
    (Instr.fieldAt s (.pointer (some ⟨b, o, none⟩)) f).run P w = .ok (.pointer (some ⟨b, o + fo, none⟩)) w := by
  rw [List.getElem?_map] at hf
  cases hq : fields.toList[f]? with
  | none => rw [hq] at hf; cases hf
  | some fl =>
    rw [hq] at hf
    simp only [Option.map_some, Option.some.injEq, Prod.mk.injEq] at hf
    obtain ⟨rfl, rfl⟩ := hf
    have hq' : fields[f]? = some fl := by simpa using hq
    simp [Instr.fieldAt, run_underlying hu, hq', Instr.sureAddr, fieldPlace, (hT _ _ hft).sizeOf w, hz, add_at]
end
end
end Go.Ab
