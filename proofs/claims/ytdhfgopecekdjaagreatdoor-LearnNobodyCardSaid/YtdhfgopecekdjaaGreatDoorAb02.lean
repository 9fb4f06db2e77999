/- An abstract executor for the machine: part 2 of its soundness, for every program and table. -/
import Derived.Test.YtdhfgopecekdjaaGreatDoorAb01
import Derived.Laws.Slices
import Derived.Below
namespace Go.Ab
noncomputable section
open Go

theorem add_at (b o i : Nat) : (⟨b, o, none⟩ : Addr).add i = ⟨b, o + i, none⟩ := by
  unfold Addr.add
  split
  · rename_i h; subst h; rfl
  · rfl

/-! ### Lists of what is represented -/
def RepL {α : Type} (R : α → List Value → Prop) : List α → List Value → Prop
  | [], cs => cs = []
  | x :: xs, cs => ∃ c r, cs = c ++ r ∧ R x c ∧ RepL R xs r

section
variable {α : Type} {R R' : α → List Value → Prop} {k : Nat}
theorem RepL.imp (h : ∀ x c, R x c → R' x c) : ∀ {xs cs}, RepL R xs cs → RepL R' xs cs
  | [], _, e => e
  | _ :: _, _, ⟨c, r, e, h1, h2⟩ => ⟨c, r, e, h _ _ h1, RepL.imp h h2⟩
theorem RepL.len (hk : ∀ x c, R x c → c.length = k) : ∀ {xs cs}, RepL R xs cs → cs.length = xs.length * k
  | [], _, e => by rw [show _ = [] from e]; simp
  | x :: xs, _, ⟨c, r, e, h1, h2⟩ => by
    rw [e, List.length_append, hk _ _ h1, RepL.len hk h2, List.length_cons, Nat.succ_mul, Nat.add_comm]
theorem RepL.append : ∀ {xs ys cs ds}, RepL R xs cs → RepL R ys ds → RepL R (xs ++ ys) (cs ++ ds)
  | [], _, _, _, e, h => by rw [show _ = [] from e]; exact h
  | _ :: _, _, _, _, ⟨c, r, e, h1, h2⟩, h => ⟨c, r ++ _, by rw [e, List.append_assoc], h1, RepL.append h2 h⟩
theorem RepL.get (hk : ∀ x c, R x c → c.length = k) : ∀ {xs cs} (i : Nat) (x : α), RepL R xs cs → xs[i]? = some x →
    ∃ pre c post, cs = pre ++ c ++ post ∧ pre.length = i * k ∧ R x c
  | [], _, _, _, _, e => by simp at e
  | y :: ys, _, 0, x, ⟨c, r, e, h1, _⟩, hx => by
    have : y = x := by simpa using hx
    subst this
    exact ⟨[], c, r, by simpa using e, by simp, h1⟩
  | y :: ys, _, i + 1, x, ⟨c, r, e, h1, h2⟩, hx => by
    obtain ⟨pre, d, post, e', hl, hr⟩ := RepL.get hk i x h2 (by simpa using hx)
    refine ⟨c ++ pre, d, post, by rw [e, e']; simp [List.append_assoc], ?_, hr⟩
    rw [List.length_append, hk _ _ h1, hl, Nat.succ_mul, Nat.add_comm]
theorem RepL.set (hk : ∀ x c, R x c → c.length = k) : ∀ {xs cs} (i : Nat) (y : α) (d : List Value), RepL R xs cs → i < xs.length → R y d →
    RepL R (xs.set i y) (cs.take (i * k) ++ d ++ cs.drop (i * k + k))
  | [], _, _, _, _, _, h, _ => by simp at h
  | x :: xs, _, 0, y, d, ⟨c, r, e, h1, h2⟩, _, hd => by
    refine ⟨d, r, ?_, hd, h2⟩
    rw [e]
    have hc := hk _ _ h1
    simp [hc]
  | x :: xs, _, i + 1, y, d, ⟨c, r, e, h1, h2⟩, hi, hd => by
    have ih := RepL.set hk i y d h2 (by simpa using hi) hd
    refine ⟨c, _, ?_, h1, ih⟩
    have hc := hk _ _ h1
    rw [e, Nat.succ_mul, List.take_append, List.drop_append]
    rw [List.take_of_length_le (by omega), List.drop_of_length_le (by omega)]
    rw [show i * k + k - c.length = i * k from by omega, show i * k + k + k - c.length = i * k + k from by omega]
    simp [List.append_assoc]
end

/-! ### Data in memory -/
def RepC (I : Nat → Prop) (w : World) : (t : Ty) → t.V → List Value → Prop
  | .int k, n, cs => cs = [.int k n]
  | .bool, b, cs => cs = [.bool b]
  | .str, s, cs => cs = [.string s] ∧ SmallLen (ByteArray.size s)
  | .unit, _, cs => cs = []
  | .pair a b, x, cs => ∃ c d, cs = c ++ d ∧ RepC I w a x.1 c ∧ RepC I w b x.2 d
  | .lst t, xs, cs => ∃ a n cap cells, cs = [.slice a n cap] ∧ List.length (α := t.V) xs = n ∧ n ≤ cap ∧ cap ≤ 9223372036854775807 ∧ RepL (RepC I w t) xs cells ∧
      ((xs : List t.V) = [] ∨ ∃ b o, a = some ⟨b, o, none⟩ ∧ I b ∧ ∀ j v, cells[j]? = some v → w.cell? ⟨b, o + j, none⟩ = some v)

theorem RepC.len {I : Nat → Prop} {w : World} : ∀ {t : Ty} {x : t.V} {cs : List Value}, RepC I w t x cs → cs.length = t.size := by
  intro t
  induction t with
  | int k => intro x cs h; rw [show cs = _ from h]; rfl
  | bool => intro x cs h; rw [show cs = _ from h]; rfl
  | str => intro x cs h; rw [show cs = _ from h.1]; rfl
  | unit => intro x cs h; rw [show cs = _ from h]; rfl
  | lst t _ => intro x cs h; obtain ⟨a, n, cap, cells, e, _⟩ := h; rw [e]; rfl
  | pair a b iha ihb => intro x cs h; obtain ⟨c, d, e, h1, h2⟩ := h; rw [e, List.length_append, iha h1, ihb h2]; rfl

theorem RepC.one {I : Nat → Prop} {w : World} : ∀ {t : Ty} {x : t.V} {cs : List Value}, RepC I w t x cs → ∀ v ∈ cs, v.oneCell' = true := by
  intro t
  induction t with
  | int k => intro x cs h v hv; rw [show cs = _ from h] at hv; simp at hv; subst hv; rfl
  | bool => intro x cs h v hv; rw [show cs = _ from h] at hv; simp at hv; subst hv; rfl
  | str => intro x cs h v hv; rw [show cs = _ from h.1] at hv; simp at hv; subst hv; rfl
  | unit => intro x cs h v hv; rw [show cs = _ from h] at hv; simp at hv
  | lst t _ => intro x cs h v hv; obtain ⟨a, n, cap, cells, e, _⟩ := h; rw [e] at hv; simp at hv; subst hv; rfl
  | pair a b iha ihb =>
    intro x cs h v hv; obtain ⟨c, d, e, h1, h2⟩ := h; rw [e] at hv
    rcases List.mem_append.1 hv with h | h
    · exact iha h1 v h
    · exact ihb h2 v h

theorem RepC.mono {I I' : Nat → Prop} {w w' : World} (hI : ∀ b, I b → I' b) (hw : ∀ b, I b → w'.heap[b]? = w.heap[b]?) :
    ∀ {t : Ty} {x : t.V} {cs : List Value}, RepC I w t x cs → RepC I' w' t x cs := by
  intro t
  induction t with
  | int k => intro x cs h; exact h
  | bool => intro x cs h; exact h
  | str => intro x cs h; exact h
  | unit => intro x cs h; exact h
  | pair a b iha ihb => intro x cs h; obtain ⟨c, d, e, h1, h2⟩ := h; exact ⟨c, d, e, iha h1, ihb h2⟩
  | lst t ih =>
    intro x cs h
    obtain ⟨a, n, cap, cells, e, hl, hn, hc, hr, hm⟩ := h
    refine ⟨a, n, cap, cells, e, hl, hn, hc, RepL.imp (fun _ _ => ih) hr, ?_⟩
    rcases hm with hm | ⟨b, o, ha, hb, hcell⟩
    · exact .inl hm
    · refine .inr ⟨b, o, ha, hI _ hb, fun j v hj => ?_⟩
      rw [World.cell?_of_block (w := w) (a := ⟨b, o + j, none⟩) (hw b hb)]
      exact hcell j v hj

theorem Rep_cst {I : Nat → Prop} {w : World} {a b : Ty} (h : a.eq b = true) (x : a.V) (cs : List Value) : RepC I w b (Ty.cst h x) cs ↔ RepC I w a x cs := by
  obtain rfl := Ty.eq_eq h
  rfl

/-! ### Abstract values in memory -/
structure Env where
  w : World
  I : Nat → Prop
  φ : Nat → Value
  objs : Objs

def blk : Value → Option Nat
  | .slice (some a) _ (_ + 1) => some a.block
  | .pointer (some a) => some a.block
  | .map r => r
  | _ => none

def AObj.live : AObj → Bool
  | .box _ => true | .row _ _ _ => true | .map _ _ _ => true | .vmap _ _ => true | .vrow _ _ _ => true | .lp _ _ => true | .mark => true | _ => false

/-- Where a pointer into an object leads. -/
def PtrOk (E : Env) (id i off : Nat) (cs : List Value) : Prop :=
  ∃ o, look id E.objs = some o ∧ match o with
    | .box _ => i = 0 ∧ ∃ b, E.φ id = .pointer (some ⟨b, 0, none⟩) ∧ cs = [.pointer (some ⟨b, off, none⟩)]
    | .row _ t xs => i < xs.length ∧ ∃ b n cap, E.φ id = .slice (some ⟨b, 0, none⟩) n cap ∧ cs = [.pointer (some ⟨b, i * t.size + off, none⟩)]
    | .vrow _ sz xs => i < xs.length ∧ ∃ b n cap, E.φ id = .slice (some ⟨b, 0, none⟩) n cap ∧ cs = [.pointer (some ⟨b, i * sz + off, none⟩)]
    | _ => ∃ a : Addr, cs = [.pointer (some a)]
def SlOk (E : Env) (id : Nat) (cs : List Value) : Prop :=
  ∃ o, look id E.objs = some o ∧ (∃ a n c, cs = [.slice a n c]) ∧ match o with
    | .row _ _ _ => cs = [E.φ id]
    | .frz _ _ => cs = [E.φ id]
    | .vrow _ _ _ => cs = [E.φ id]
    | .dead => True
    | _ => False
/-- A part of a row. -/
def PartOk (E : Env) (id lo hi : Nat) (cs : List Value) : Prop :=
  ∃ o, look id E.objs = some o ∧ (∃ a n c, cs = [.slice a n c]) ∧ match o with
    | .row _ t xs => lo ≤ hi ∧ hi ≤ xs.length ∧ ∃ ad n cap ad', E.φ id = .slice ad n cap ∧ cs = [.slice (some ad') (hi - lo) (cap - lo)] ∧ (cap ≠ lo → some ad' = ad.map (·.add (lo * t.size)))
    | .vrow _ sz xs => lo ≤ hi ∧ hi ≤ xs.length ∧ ∃ ad n cap ad', E.φ id = .slice ad n cap ∧ cs = [.slice (some ad') (hi - lo) (cap - lo)] ∧ (cap ≠ lo → some ad' = ad.map (·.add (lo * sz)))
    | _ => True
def MapOk (E : Env) (id : Nat) (cs : List Value) : Prop :=
  ∃ o, look id E.objs = some o ∧ (∃ b, cs = [.map b]) ∧ match o with
    | .map _ _ _ => cs = [E.φ id]
    | .vmap _ _ => cs = [E.φ id]
    | _ => False

def LpOk (E : Env) (id : Nat) (cs : List Value) : Prop :=
  ∃ o, look id E.objs = some o ∧ ∃ b, cs = [.func (.yield b) #[] #[]] ∧ match o with
    | .lp _ _ => E.φ id = .map (some b)
    | .dead => True
    | _ => False

def Rep (E : Env) : AV → Bool → List Value → Prop
  | .dat t x, false, cs => RepC E.I E.w t x cs
  | .pr a b, false, cs => ∃ c d, cs = c ++ d ∧ Rep E a false c ∧ Rep E b false d
  | .un, false, cs => cs = []
  | .pr a b, true, vs => ∃ v r, vs = v :: r ∧ ((a.agg = true ∧ ∃ cs, v = .agg cs.toArray ∧ Rep E a false cs) ∨ (a.agg = false ∧ Rep E a false [v])) ∧ Rep E b true r
  | .un, true, vs => vs = []
  | .nil _, false, cs => cs = [.slice none 0 0]
  | .sl id, false, cs => SlOk E id cs
  | .sub id lo hi, false, cs => PartOk E id lo hi cs
  | .ptr id i off _, false, cs => PtrOk E id i off cs
  | .pim t x, false, cs => ∃ b o c, cs = [.pointer (some ⟨b, o, none⟩)] ∧ E.I b ∧ RepC E.I E.w t x c ∧ ∀ j v, c[j]? = some v → E.w.cell? ⟨b, o + j, none⟩ = some v
  | .map id, false, cs => MapOk E id cs
  | .fn f caps, false, cs => ∃ vs, cs = [.func (.func f) #[] vs.toArray] ∧ Rep E caps true vs
  | .nilfn, false, cs => cs = [.nilFunc]
  | .nilp, false, cs => cs = [.pointer none]
  | .nilm, false, cs => cs = [.map none]
  | .yld id, false, cs => LpOk E id cs
  | .any, false, cs => ∃ v : Value, cs = [v] ∧ v.oneCell' = true
  | .any, true, _ => True
  | _, _, _ => False

/-- What a temporary holds. -/
def Slot (E : Env) (a : AV) (v : Value) : Prop :=
  match a with
  | .tup vs => ∃ l : List Value, v = .tuple l.toArray ∧ Rep E vs true l
  | .any => True
  | a => (a.agg = true ∧ ∃ cs : List Value, v = .agg cs.toArray ∧ Rep E a false cs) ∨ (a.agg = false ∧ Rep E a false [v])

theorem Rep.len {E : Env} : ∀ {a : AV} {cs : List Value}, Rep E a false cs → cs.length = a.size := by
  intro a
  induction a with
  | dat t x => intro cs h; exact RepC.len h
  | pr a b iha ihb => intro cs h; obtain ⟨c, d, e, h1, h2⟩ := h; rw [e, List.length_append, iha h1, ihb h2]; rfl
  | un => intro cs h; rw [show cs = _ from h]; rfl
  | nil t => intro cs h; rw [show cs = _ from h]; rfl
  | sl id =>
    intro cs h; obtain ⟨o, _, ⟨_, _, _, rfl⟩, h⟩ := h; rfl
  | sub id lo hi =>
    intro cs h; obtain ⟨o, _, ⟨_, _, _, rfl⟩, h⟩ := h; rfl
  | ptr id i off p =>
    intro cs h; obtain ⟨o, _, h⟩ := h
    cases o <;> first | (obtain ⟨_, _, _, rfl⟩ := h; rfl) | (obtain ⟨_, _, _, _, _, rfl⟩ := h; rfl) | (obtain ⟨_, rfl⟩ := h; rfl)
  | pim t x => intro cs h; obtain ⟨b, o, c, rfl, _⟩ := h; rfl
  | map id =>
    intro cs h; obtain ⟨o, _, ⟨_, rfl⟩, h⟩ := h; rfl
  | fn f caps => intro cs h; obtain ⟨vs, rfl, _⟩ := h; rfl
  | nilfn => intro cs h; rw [show cs = _ from h]; rfl
  | nilp => intro cs h; rw [show cs = _ from h]; rfl
  | nilm => intro cs h; rw [show cs = _ from h]; rfl
  | yld id => intro cs h; obtain ⟨o, _, b, rfl, _⟩ := h; rfl
  | tup vs => intro cs h; exact h.elim
  | any => intro cs h; obtain ⟨v, rfl, _⟩ := h; rfl

theorem Rep.one {E : Env} : ∀ {a : AV} {cs : List Value}, Rep E a false cs → ∀ v ∈ cs, v.oneCell' = true := by
  intro a
  induction a with
  | dat t x => intro cs h; exact RepC.one h
  | pr a b iha ihb =>
    intro cs h v hv; obtain ⟨c, d, e, h1, h2⟩ := h; rw [e] at hv
    rcases List.mem_append.1 hv with h | h
    · exact iha h1 v h
    · exact ihb h2 v h
  | un => intro cs h v hv; rw [show cs = _ from h] at hv; cases hv
  | nil t => intro cs h v hv; rw [show cs = _ from h] at hv; simp at hv; subst hv; rfl
  | sl id => intro cs h v hv; obtain ⟨o, _, ⟨_, _, _, rfl⟩, _⟩ := h; simp at hv; subst hv; rfl
  | sub id lo hi => intro cs h v hv; obtain ⟨o, _, ⟨_, _, _, rfl⟩, _⟩ := h; simp at hv; subst hv; rfl
  | ptr id i off p =>
    intro cs h v hv; obtain ⟨o, _, h⟩ := h
    cases o <;> first | (obtain ⟨_, _, _, rfl⟩ := h; simp at hv; subst hv; rfl) | (obtain ⟨_, _, _, _, _, rfl⟩ := h; simp at hv; subst hv; rfl) | (obtain ⟨_, rfl⟩ := h; simp at hv; subst hv; rfl)
  | pim t x => intro cs h v hv; obtain ⟨b, o, c, rfl, _⟩ := h; simp at hv; subst hv; rfl
  | map id => intro cs h v hv; obtain ⟨o, _, ⟨_, rfl⟩, _⟩ := h; simp at hv; subst hv; rfl
  | fn f caps => intro cs h v hv; obtain ⟨vs, rfl, _⟩ := h; simp at hv; subst hv; rfl
  | nilfn => intro cs h v hv; rw [show cs = _ from h] at hv; simp at hv; subst hv; rfl
  | nilp => intro cs h v hv; rw [show cs = _ from h] at hv; simp at hv; subst hv; rfl
  | nilm => intro cs h v hv; rw [show cs = _ from h] at hv; simp at hv; subst hv; rfl
  | yld id => intro cs h v hv; obtain ⟨o, _, b, rfl, _⟩ := h; simp at hv; subst hv; rfl
  | tup vs => intro cs h; exact h.elim
  | any => intro cs h v hv; obtain ⟨u, rfl, hu⟩ := h; simp at hv; subst hv; exact hu

/-- One memory behind another: what never changes stays, objects turn into such of their make. -/
def Evo : AObj → AObj → Prop
  | .box _, .box _ => True
  | .row _ t xs, .row _ t' xs' => t = t' ∧ xs.length = xs'.length
  | .row _ _ _, .frz _ _ => True
  | .row _ _ _, .dead => True
  | .frz _ _, .frz _ _ => True
  | .map _ _ _, .map _ _ _ => True
  | .vmap _ _, .vmap _ _ => True
  | .vrow _ sz xs, .vrow _ sz' xs' => sz = sz' ∧ xs.length = xs'.length
  | .vrow _ _ _, .dead => True
  | .lp _ _, .lp _ _ => True
  | .lp _ _, .dead => True
  | .mark, .mark => True
  | .mark, .dead => True
  | .dead, .dead => True
  | _, _ => False
structure EnvLe (E E' : Env) : Prop where
  I : ∀ b, E.I b → E'.I b
  heap : ∀ b, E.I b → E'.w.heap[b]? = E.w.heap[b]?
  φ : ∀ id o, look id E.objs = some o → E'.φ id = E.φ id ∧ ∃ o', look id E'.objs = some o' ∧ Evo o o'
/-- The headers are of their make. -/
def Shaped (E : Env) : Prop := ∀ id o, look id E.objs = some o → match o with
  | .box _ => ∃ b, E.φ id = .pointer (some ⟨b, 0, none⟩)
  | .row _ _ _ => ∃ a n c, E.φ id = .slice a n c
  | .frz _ _ => ∃ a n c, E.φ id = .slice a n c
  | .map _ _ _ => ∃ b, E.φ id = .map (some b)
  | .vmap _ _ => ∃ b, E.φ id = .map (some b)
  | .vrow _ _ _ => ∃ a n c, E.φ id = .slice a n c
  | .lp _ _ => ∃ b, E.φ id = .map (some b)
  | .mark => ∃ b, E.φ id = .map (some b)
  | .dead => True

theorem Rep.mono {E E' : Env} (_hs : Shaped E) (hle : EnvLe E E') : ∀ {a : AV} {m : Bool} {cs : List Value}, Rep E a m cs → Rep E' a m cs := by
  intro a
  induction a with
  | dat t x => intro m cs h; cases m with
    | false => exact RepC.mono hle.I hle.heap h
    | true => exact h.elim
  | pr a b iha ihb => intro m cs h; cases m with
    | false => obtain ⟨c, d, e, h1, h2⟩ := h; exact ⟨c, d, e, iha h1, ihb h2⟩
    | true =>
      obtain ⟨v, r, e, h1, h2⟩ := h
      refine ⟨v, r, e, ?_, ihb h2⟩
      rcases h1 with ⟨ha, cs', hv, hr⟩ | ⟨ha, hr⟩
      · exact .inl ⟨ha, cs', hv, iha hr⟩
      · exact .inr ⟨ha, iha hr⟩
  | un => intro m cs h; cases m <;> exact h
  | nil t => intro m cs h; cases m <;> exact h
  | sl id => intro m cs h; cases m with
    | true => exact h.elim
    | false =>
      obtain ⟨o, ho, hsh, h⟩ := h
      obtain ⟨hφ, o', ho', hev⟩ := hle.φ id o ho
      refine ⟨o', ho', hsh, ?_⟩
      cases o <;> cases o' <;> simp only [Evo] at hev <;> first | exact hev.elim | skip
      all_goals first | (exact h.elim) | (rw [hφ]; exact h) | exact h | trivial
  | sub id lo hi => intro m cs h; cases m with
    | true => exact h.elim
    | false =>
      obtain ⟨o, ho, hsh, h⟩ := h
      obtain ⟨hφ, o', ho', hev⟩ := hle.φ id o ho
      refine ⟨o', ho', hsh, ?_⟩
      cases o <;> cases o' <;> simp only [Evo] at hev <;> first | exact hev.elim | skip
      case row.row =>
        obtain ⟨rfl, hl⟩ := hev
        obtain ⟨h1, h2, ad, n, cap, ad', h3, h4⟩ := h
        exact ⟨h1, by rw [← hl]; exact h2, ad, n, cap, ad', by rw [hφ]; exact h3, h4⟩
      case vrow.vrow =>
        obtain ⟨rfl, hl⟩ := hev
        obtain ⟨h1, h2, ad, n, cap, ad', h3, h4⟩ := h
        exact ⟨h1, by rw [← hl]; exact h2, ad, n, cap, ad', by rw [hφ]; exact h3, h4⟩
      all_goals trivial
  | ptr id i off p => intro m cs h; cases m with
    | true => exact h.elim
    | false =>
      obtain ⟨o, ho, h⟩ := h
      obtain ⟨hφ, o', ho', hev⟩ := hle.φ id o ho
      refine ⟨o', ho', ?_⟩
      cases o <;> cases o' <;> simp only [Evo] at hev <;> first | exact hev.elim | skip
      case box.box => simp only at h ⊢; rw [hφ]; exact h
      case row.row =>
        obtain ⟨rfl, hl⟩ := hev
        simp only at h ⊢
        obtain ⟨hi, b, n, cap, h1, h2⟩ := h
        exact ⟨by rw [← hl]; exact hi, b, n, cap, by rw [hφ]; exact h1, h2⟩
      case vrow.vrow =>
        obtain ⟨rfl, hl⟩ := hev
        simp only at h ⊢
        obtain ⟨hi, b, n, cap, h1, h2⟩ := h
        exact ⟨by rw [← hl]; exact hi, b, n, cap, by rw [hφ]; exact h1, h2⟩
      case row.frz => obtain ⟨_, _, _, _, _, rfl⟩ := h; exact ⟨_, rfl⟩
      case row.dead => obtain ⟨_, _, _, _, _, rfl⟩ := h; exact ⟨_, rfl⟩
      case vrow.dead => obtain ⟨_, _, _, _, _, rfl⟩ := h; exact ⟨_, rfl⟩
      all_goals exact h
  | pim t x => intro m cs h; cases m with
    | true => exact h.elim
    | false =>
      obtain ⟨b, o, c, e, hb, hr, hc⟩ := h
      refine ⟨b, o, c, e, hle.I _ hb, RepC.mono hle.I hle.heap hr, fun j v hj => ?_⟩
      rw [World.cell?_of_block (w := E.w) (a := ⟨b, o + j, none⟩) (hle.heap b hb)]
      exact hc j v hj
  | map id => intro m cs h; cases m with
    | true => exact h.elim
    | false =>
      obtain ⟨o, ho, hsh, h⟩ := h
      obtain ⟨hφ, o', ho', hev⟩ := hle.φ id o ho
      refine ⟨o', ho', hsh, ?_⟩
      cases o <;> cases o' <;> simp only [Evo] at hev <;> first | exact hev.elim | skip
      all_goals first | exact h.elim | exact h | (simp only at h ⊢; rw [hφ]; exact h)
  | fn f caps ih => intro m cs h; cases m with
    | true => exact h.elim
    | false => obtain ⟨vs, e, h⟩ := h; exact ⟨vs, e, ih h⟩
  | nilfn => intro m cs h; cases m <;> exact h
  | nilp => intro m cs h; cases m <;> exact h
  | nilm => intro m cs h; cases m <;> exact h
  | yld id => intro m cs h; cases m with
    | true => exact h.elim
    | false =>
      obtain ⟨o, ho, b, hb, h⟩ := h
      obtain ⟨hφ, o', ho', hev⟩ := hle.φ id o ho
      refine ⟨o', ho', b, hb, ?_⟩
      cases o <;> cases o' <;> simp only [Evo] at hev <;> first | exact hev.elim | skip
      all_goals first | trivial | (rw [hφ]; exact h) | exact h
  | tup vs => intro m cs h; cases m <;> exact h.elim
  | any => intro m cs h; cases m <;> exact h

theorem Slot.mono {E E' : Env} (hs : Shaped E) (hle : EnvLe E E') {a : AV} {v : Value} (h : Slot E a v) : Slot E' a v := by
  unfold Slot at h ⊢
  split
  · obtain ⟨l, e, h⟩ := h; exact ⟨l, e, Rep.mono hs hle h⟩
  · trivial
  · rename_i h1 h2
    split at h
    · exact absurd rfl (h1 _)
    · exact absurd rfl h2
    · rcases h with ⟨ha, cs', hv, hr⟩ | ⟨ha, hr⟩
      · exact .inl ⟨ha, cs', hv, Rep.mono hs hle hr⟩
      · exact .inr ⟨ha, Rep.mono hs hle hr⟩
theorem Evo.trans {a b c : AObj} (h : Evo a b) (k : Evo b c) : Evo a c := by
  cases a <;> cases b <;> simp only [Evo] at h <;> first | exact h.elim | skip
  all_goals (cases c <;> simp only [Evo] at k <;> first | exact k.elim | skip)
  all_goals first | trivial | exact ⟨h.1.trans k.1, h.2.trans k.2⟩
theorem EnvLe.trans {E E' E'' : Env} (h : EnvLe E E') (k : EnvLe E' E'') : EnvLe E E'' := by
  refine ⟨fun b hb => k.I b (h.I b hb), fun b hb => (k.heap b (h.I b hb)).trans (h.heap b hb), fun id o ho => ?_⟩
  obtain ⟨h1, o', h2, h3⟩ := h.φ id o ho
  obtain ⟨k1, o'', k2, k3⟩ := k.φ id o' h2
  exact ⟨k1.trans h1, o'', k2, h3.trans k3⟩

end
end Go.Ab

namespace Go.Ab
noncomputable section
open Go Go.RowKit

/-! ### Objects in memory -/
def MapRep (I : Nat → Prop) (w : World) (k v : Ty) : List (k.V × v.V) → List MapEntry → Prop
  | [], es => es = []
  | (x, y) :: m, es => ∃ e r, es = e :: r ∧ ((k.agg = true ∧ ∃ cs : List Value, e.key = .agg cs.toArray ∧ RepC I w k x cs) ∨ (k.agg = false ∧ RepC I w k x [e.key])) ∧
      ((v.agg = true ∧ ∃ cs : List Value, e.val = .agg cs.toArray ∧ RepC I w v y cs) ∨ (v.agg = false ∧ RepC I w v y [e.val])) ∧ MapRep I w k v m r

/-- A slice owns its row, or has no room at all. -/
def OwnR (w : World) (ow : Nat → Prop) (e : TypeId) (size : Nat) (v : Value) (n : Nat) (xs : List Value) : Prop :=
  xs.length = n * size ∧ ((n = 0 ∧ ∃ ad : Addr, v = .slice (some ad) 0 0) ∨
    ∃ g cap cur, v = .slice (some ⟨g, 0, none⟩) n (cap + 1) ∧ ow g ∧ w.heap[g]? = some (.cells cur e (0, 0)) ∧ n ≤ cap + 1 ∧ cap + 1 ≤ maxLen ∧ cur.size = (cap + 1) * size ∧ cur.toList.take (n * size) = xs)
theorem OwnR.of {w : World} {ow : Nat → Prop} {e : TypeId} {size : Nat} {v : Value} {n : Nat} {xs : List Value} (h : w.ownsRow 0 e size v n xs) (hnn : v ≠ .slice none 0 0) (how : ∀ g, v.ownBlock = some g → ow g) : OwnR w ow e size v n xs := by
  obtain ⟨h1, h2⟩ := h
  refine ⟨h1, ?_⟩
  rcases h2 with ⟨rfl, h2⟩ | ⟨g, cap, cur, rfl, h3, h4, h5, h6, h7, h8⟩
  · exact absurd rfl hnn
  · cases cap with
    | zero =>
      have hn : n = 0 := by omega
      subst hn
      exact .inl ⟨rfl, ⟨g, 0, none⟩, rfl⟩
    | succ cap => exact .inr ⟨g, cap, cur, rfl, how g rfl, h4, h5, h6, h7, h8⟩

/-- A map's entries, by what is said of keys and of elements. -/
def MapG {κ β : Type} (K : κ → Value → Prop) (W : β → Value → Prop) : List (κ × β) → List MapEntry → Prop
  | [], es => es = []
  | (x, y) :: m, es => ∃ e r, es = e :: r ∧ K x e.key ∧ W y e.val ∧ MapG K W m r
theorem MapG.imp {κ β : Type} {K K' : κ → Value → Prop} {W W' : β → Value → Prop} (hK : ∀ x v, K x v → K' x v) : ∀ {m : List (κ × β)} {es : List MapEntry}, (∀ p ∈ m, ∀ v, W p.2 v → W' p.2 v) → MapG K W m es → MapG K' W' m es
  | [], _, _, h => h
  | (x, y) :: _, _, hW, ⟨e, r, h1, h2, h3, h4⟩ => ⟨e, r, h1, hK _ _ h2, hW (x, y) (by simp) _ h3, MapG.imp hK (fun p hp => hW p (by simp [hp])) h4⟩
theorem MapG.length {κ β : Type} {K : κ → Value → Prop} {W : β → Value → Prop} : ∀ {m : List (κ × β)} {es : List MapEntry}, MapG K W m es → m.length = es.length
  | [], _, h => by rw [show _ = [] from h]; rfl
  | _ :: _, _, ⟨e, r, h1, _, _, h4⟩ => by rw [h1]; simp [h4.length]
/-- A datum and the value that it is. -/
def VR (I : Nat → Prop) (w : World) (t : Ty) (x : t.V) (v : Value) : Prop := (t.agg = true ∧ ∃ cs : List Value, v = .agg cs.toArray ∧ RepC I w t x cs) ∨ (t.agg = false ∧ RepC I w t x [v])
theorem VR.mono0 {I I' : Nat → Prop} {w w' : World} (hI : ∀ b, I b → I' b) (hw : ∀ b, I b → w'.heap[b]? = w.heap[b]?) {t : Ty} {x : t.V} {v : Value} (h : VR I w t x v) : VR I' w' t x v := by
  rcases h with ⟨h1, cs, h2, h3⟩ | ⟨h1, h2⟩
  · exact .inl ⟨h1, cs, h2, h3.mono hI hw⟩
  · exact .inr ⟨h1, h2.mono hI hw⟩
/-- The record of a range over a function. -/
def LpRep (E : Env) (L : LRec) (fr : Fr) (l : Loop) : Prop :=
  l.params = L.params ∧ l.assign = L.assign ∧ l.body = L.body ∧ l.pending = L.pend ∧ l.state = (match L.st with | .ready => LoopState.ready | .busy => .busy | .done => .done | .gone => .exhausted) ∧
    l.tmps.size = L.n ∧ ∀ s av, look s fr = some av → ∃ v, l.tmps[s]? = some v ∧ Slot E av v
theorem LpRep.mono {E E' : Env} (hs : Shaped E) (hle : EnvLe E E') {L : LRec} {fr : Fr} {l : Loop} (h : LpRep E L fr l) : LpRep E' L fr l := by
  obtain ⟨h2, h3, h4, h5, h6, h7, h8⟩ := h
  refine ⟨h2, h3, h4, h5, h6, h7, fun s av hl => ?_⟩
  obtain ⟨v, k1, k2⟩ := h8 s av hl
  exact ⟨v, k1, Slot.mono hs hle k2⟩

def ObjRep (E : Env) (ow : Nat → Prop) (id : Nat) : AObj → Prop
  | .box v => ∃ (b : Nat) (cells : Array Value) (ty : TypeId), E.φ id = .pointer (some ⟨b, 0, none⟩) ∧ ow b ∧ E.w.heap[b]? = some (.cells cells ty (0, 0)) ∧ Rep E v false cells.toList
  | .row e t xs => ∃ cells, RepL (RepC E.I E.w t) xs cells ∧ OwnR E.w ow e t.size (E.φ id) xs.length cells
  | .frz t xs => RepC E.I E.w (.lst t) xs [E.φ id]
  | .map k v m => ∃ (b : Nat) (es : Array MapEntry) (clock : Nat), E.φ id = .map (some b) ∧ ow b ∧ E.w.heap[b]? = some (.map es clock) ∧ k.flat = true ∧ MapRep E.I E.w k v m es.toList
  | .vmap k m => ∃ (b : Nat) (es : Array MapEntry) (clock : Nat), E.φ id = .map (some b) ∧ ow b ∧ E.w.heap[b]? = some (.map es clock) ∧ k.flat = true ∧ MapG (VR E.I E.w k) (fun y v => y.ok = true ∧ Slot E y v) m es.toList
  | .vrow e sz xs => ∃ cells, RepL (fun v cs => Rep E v false cs ∧ v.size = sz) xs cells ∧ OwnR E.w ow e sz (E.φ id) xs.length cells
  | .lp L fr => ∃ b l, E.φ id = .map (some b) ∧ ow b ∧ E.w.heap[b]? = some (.loop l) ∧ LpRep E L fr l
  | .mark => ∃ b, E.φ id = .map (some b) ∧ ow b ∧ E.w.heap[b]? = some (.deferred (some []))
  | .dead => True

theorem MapRep.mono {I I' : Nat → Prop} {w w' : World} (hI : ∀ b, I b → I' b) (hw : ∀ b, I b → w'.heap[b]? = w.heap[b]?) {k v : Ty} :
    ∀ {m : List (k.V × v.V)} {es : List MapEntry}, MapRep I w k v m es → MapRep I' w' k v m es
  | [], _, h => h
  | _ :: _, _, ⟨e, r, he, h1, h2, h3⟩ => by
    refine ⟨e, r, he, ?_, ?_, MapRep.mono hI hw h3⟩
    · rcases h1 with ⟨ha, cs, hk, hr⟩ | ⟨ha, hr⟩
      · exact .inl ⟨ha, cs, hk, RepC.mono hI hw hr⟩
      · exact .inr ⟨ha, RepC.mono hI hw hr⟩
    · rcases h2 with ⟨ha, cs, hk, hr⟩ | ⟨ha, hr⟩
      · exact .inl ⟨ha, cs, hk, RepC.mono hI hw hr⟩
      · exact .inr ⟨ha, RepC.mono hI hw hr⟩

/-- What a run starts from: a memory, and which of its blocks the run may look into. -/
structure Base extends World where
  I0 : Nat → Prop
  own : Nat → Prop
  /-- what was represented at the start -/
  start : Env
/-- The blocks that the run may turn. -/
def Base.has (w0 : Base) (b : Nat) : Prop := w0.heap.size ≤ b ∨ w0.own b
/-- The blocks from before are as they were, but for those handed in. -/
structure Keeps (w0 : Base) (w : World) : Prop where
  os : w.os = w0.os
  tape : w.tape = w0.tape
  output : w.output = w0.output
  size : w0.heap.size ≤ w.heap.size
  block : ∀ k, k < w0.heap.size → ¬ w0.own k → w.heap[k]? = w0.heap[k]?
theorem Keeps.next {w0 : Base} {w w' : World} (h : Keeps w0 w) (hos : w'.os = w.os) (htape : w'.tape = w.tape) (hout : w'.output = w.output) (hsz : w.heap.size ≤ w'.heap.size) (hb : ∀ k, k < w0.heap.size → ¬ w0.own k → w'.heap[k]? = w.heap[k]?) : Keeps w0 w' :=
  ⟨hos.trans h.os, htape.trans h.tape, hout.trans h.output, Nat.le_trans h.size hsz, fun k h1 h2 => (hb k h1 h2).trans (h.block k h1 h2)⟩
theorem Keeps.below {w0 : Base} {w w' : World} (h : Keeps w0 w) (hb : Below w.heap.size w w') : Keeps w0 w' :=
  h.next hb.os hb.tape hb.output hb.size (fun k h1 _ => hb.block k (Nat.lt_of_lt_of_le h1 h.size))

/-- What never changes: what is there and no live object's. -/
def imm (w0 : Base) (w : World) (φ : Nat → Value) (objs : Objs) (b : Nat) : Prop :=
  b < w.heap.size ∧ (b < w0.heap.size → w0.I0 b ∨ w0.own b) ∧ ∀ id o, look id objs = some o → o.live = true → blk (φ id) ≠ some b

structure Good (w0 : Base) (E : Env) : Prop where
  below : Keeps w0 E.w
  I : E.I = imm w0 E.w E.φ E.objs
  obj : ∀ id o, look id E.objs = some o → ObjRep E w0.has id o
  dis : ∀ i j o o', look i E.objs = some o → look j E.objs = some o' → i ≠ j → o.live = true → o'.live = true → blk (E.φ i) = none ∨ blk (E.φ i) ≠ blk (E.φ j)

theorem Good.shaped {w0 : Base} {E : Env} (h : Good w0 E) : Shaped E := by
  intro id o ho
  have h1 := h.obj id o ho
  cases o with
  | box v => obtain ⟨b, _, _, hb, _⟩ := h1; exact ⟨b, hb⟩
  | row e t xs =>
    obtain ⟨cells, _, _, h2⟩ := h1
    rcases h2 with ⟨_, ad, h2⟩ | ⟨g, cap, cur, h2, _⟩
    · exact ⟨_, _, _, h2⟩
    · exact ⟨_, _, _, h2⟩
  | frz t xs => obtain ⟨a, n, cap, cells, e, _⟩ := h1; exact ⟨a, n, cap, by simpa using e⟩
  | map k v m => obtain ⟨b, _, _, hb, _⟩ := h1; exact ⟨b, hb⟩
  | vmap k m => obtain ⟨b, _, _, hb, _⟩ := h1; exact ⟨b, hb⟩
  | vrow e sz xs =>
    obtain ⟨cells, _, _, h2⟩ := h1
    rcases h2 with ⟨_, ad, h2⟩ | ⟨g, cap, cur, h2, _⟩
    · exact ⟨_, _, _, h2⟩
    · exact ⟨_, _, _, h2⟩
  | lp L fr => obtain ⟨b, _, hb, _⟩ := h1; exact ⟨b, hb⟩
  | mark => obtain ⟨b, hb, _⟩ := h1; exact ⟨b, hb⟩
  | dead => trivial

/-- A live object's block is there, and from the base on. -/
theorem Good.blk_lt {w0 : Base} {E : Env} (h : Good w0 E) {id b : Nat} {o : AObj} (ho : look id E.objs = some o) (hl : o.live = true) (hb : blk (E.φ id) = some b) :
    w0.has b ∧ b < E.w.heap.size := by
  have h1 := h.obj id o ho
  cases o with
  | box v =>
    obtain ⟨b', _, _, hφ, hge, hh, _⟩ := h1
    rw [hφ] at hb; simp [blk] at hb; subst hb
    exact ⟨hge, (Array.getElem?_eq_some_iff.1 hh).1⟩
  | row e t xs =>
    obtain ⟨cells, _, _, h2⟩ := h1
    rcases h2 with ⟨_, ad, h2⟩ | ⟨g, cap, cur, h2, hge, hh, _⟩
    · rw [h2] at hb; simp [blk] at hb
    · rw [h2] at hb; simp [blk] at hb; subst hb
      exact ⟨hge, (Array.getElem?_eq_some_iff.1 hh).1⟩
  | frz t xs => cases hl
  | map k v m =>
    obtain ⟨b', _, _, hφ, hge, hh, _⟩ := h1
    rw [hφ] at hb; simp [blk] at hb; subst hb
    exact ⟨hge, (Array.getElem?_eq_some_iff.1 hh).1⟩
  | vmap k m =>
    obtain ⟨b', _, _, hφ, hge, hh, _⟩ := h1
    rw [hφ] at hb; simp [blk] at hb; subst hb
    exact ⟨hge, (Array.getElem?_eq_some_iff.1 hh).1⟩
  | vrow e sz xs =>
    obtain ⟨cells, _, _, h2⟩ := h1
    rcases h2 with ⟨_, ad, h2⟩ | ⟨g, cap, cur, h2, hge, hh, _⟩
    · rw [h2] at hb; simp [blk] at hb
    · rw [h2] at hb; simp [blk] at hb; subst hb
      exact ⟨hge, (Array.getElem?_eq_some_iff.1 hh).1⟩
  | lp L fr =>
    obtain ⟨b', _, hφ, hge, hh, _⟩ := h1
    rw [hφ] at hb; simp [blk] at hb; subst hb
    exact ⟨hge, (Array.getElem?_eq_some_iff.1 hh).1⟩
  | mark =>
    obtain ⟨b', hφ, hge, hh⟩ := h1
    rw [hφ] at hb; simp [blk] at hb; subst hb
    exact ⟨hge, (Array.getElem?_eq_some_iff.1 hh).1⟩
  | dead => cases hl

theorem ObjRep.keep {E E' : Env} {base : Nat → Prop} {id : Nat} {o : AObj} (hs : Shaped E) (hle : EnvLe E E') (h : ObjRep E base id o) (hφ : E'.φ id = E.φ id)
    (hb : o.live = true → ∀ b, blk (E.φ id) = some b → E'.w.heap[b]? = E.w.heap[b]?) : ObjRep E' base id o := by
  cases o with
  | box v =>
    obtain ⟨b, cells, ty, h1, h2, h3, h4⟩ := h
    exact ⟨b, cells, ty, by rw [hφ]; exact h1, h2, by rw [hb rfl b (by rw [h1]; rfl)]; exact h3, Rep.mono hs hle h4⟩
  | row e t xs =>
    obtain ⟨cells, h1, h2, h3⟩ := h
    refine ⟨cells, RepL.imp (fun _ _ => RepC.mono hle.I hle.heap) h1, h2, ?_⟩
    rw [hφ]
    rcases h3 with h3 | ⟨g, cap, cur, h3, h4, h5, h6⟩
    · exact .inl h3
    · exact .inr ⟨g, cap, cur, h3, h4, by rw [hb rfl g (by rw [h3]; rfl)]; exact h5, h6⟩
  | frz t xs => show RepC _ _ _ _ _; rw [hφ]; exact RepC.mono (t := .lst t) hle.I hle.heap h
  | map k v m =>
    obtain ⟨b, es, clock, h1, h2, h3, hfl, h4⟩ := h
    exact ⟨b, es, clock, by rw [hφ]; exact h1, h2, by rw [hb rfl b (by rw [h1]; rfl)]; exact h3, hfl, MapRep.mono hle.I hle.heap h4⟩
  | vmap k m =>
    obtain ⟨b, es, clock, h1, h2, h3, hfl, h4⟩ := h
    exact ⟨b, es, clock, by rw [hφ]; exact h1, h2, by rw [hb rfl b (by rw [h1]; rfl)]; exact h3, hfl, MapG.imp (fun _ _ h => VR.mono0 hle.I hle.heap h) (fun _ _ _ h => ⟨h.1, Slot.mono hs hle h.2⟩) h4⟩
  | vrow e sz xs =>
    obtain ⟨cells, h1, h2, h3⟩ := h
    refine ⟨cells, RepL.imp (fun _ _ h => ⟨Rep.mono hs hle h.1, h.2⟩) h1, h2, ?_⟩
    rw [hφ]
    rcases h3 with h3 | ⟨g, cap, cur, h3, h4, h5, h6⟩
    · exact .inl h3
    · exact .inr ⟨g, cap, cur, h3, h4, by rw [hb rfl g (by rw [h3]; rfl)]; exact h5, h6⟩
  | lp L fr =>
    obtain ⟨b, l, h1, h2, h3, h4⟩ := h
    exact ⟨b, l, by rw [hφ]; exact h1, h2, by rw [hb rfl b (by rw [h1]; rfl)]; exact h3, LpRep.mono hs hle h4⟩
  | mark =>
    obtain ⟨b, h1, h2, h3⟩ := h
    exact ⟨b, by rw [hφ]; exact h1, h2, by rw [hb rfl b (by rw [h1]; rfl)]; exact h3⟩
  | dead => trivial

theorem Good.next {w0 : Base} {E E' : Env} (h : Good w0 E) (hle : EnvLe E E') (hI : E'.I = imm w0 E'.w E'.φ E'.objs) (hbelow : Keeps w0 E'.w)
    (hobj : ∀ id o, look id E'.objs = some o → (look id E.objs = some o ∧ E'.φ id = E.φ id ∧ (o.live = true → ∀ b, blk (E.φ id) = some b → E'.w.heap[b]? = E.w.heap[b]?)) ∨ ObjRep E' w0.has id o)
    (hdis : ∀ i j o o', look i E'.objs = some o → look j E'.objs = some o' → i ≠ j → o.live = true → o'.live = true → blk (E'.φ i) = none ∨ blk (E'.φ i) ≠ blk (E'.φ j)) : Good w0 E' := by
  refine ⟨hbelow, hI, fun id o ho => ?_, hdis⟩
  rcases hobj id o ho with ⟨h1, h2, h3⟩ | h1
  · exact ObjRep.keep h.shaped hle (h.obj id o h1) h2 h3
  · exact h1

/-! ### The relation between an abstract state and the machine -/
structure St where
  fr : Fr
  objs : Objs
  hid : List Fr := []
  /-- the blocks for deferred calls that wait -/
  mks : List Nat := []

def FrOk (E : Env) (fr : Fr) (a : Act) : Prop := ∀ s av, look s fr = some av → ∃ v, a.tmps[s]? = some v ∧ Slot E av v
def HidFr (E : Env) : List Fr → List Act → Prop
  | [], _ => True
  | f :: r, as => ∃ a as', as = a :: as' ∧ FrOk E f a ∧ HidFr E r as'
def MkOk (E : Env) : List Nat → List Deferred → Prop
  | [], ds => ds = []
  | id :: r, ds => ∃ b ds', E.φ id = .map (some b) ∧ (∃ o, look id E.objs = some o) ∧ ds = { target := .collected b, args := #[] } :: ds' ∧ MkOk E r ds'
/-- The frames that wait; and what was there at the start is there still. -/
def HidOk (E0 E : Env) (l : List Fr) (as : List Act) (mk : List Nat) (ds : List Deferred) : Prop := EnvLe E0 E ∧ HidFr E l as ∧ MkOk E mk ds

structure Rel (w0 : Base) (N : Nat) (as : List Act) (σ : St) (a : Act) (w : World) : Prop where
  ex : ∃ φ, Good w0 ⟨w, imm w0 w φ σ.objs, φ, σ.objs⟩ ∧ FrOk ⟨w, imm w0 w φ σ.objs, φ, σ.objs⟩ σ.fr a ∧ HidOk w0.start ⟨w, imm w0 w φ σ.objs, φ, σ.objs⟩ σ.hid as σ.mks a.defers
  size : a.tmps.size = N ∧ True

theorem FrOk.mono {E E' : Env} (hs : Shaped E) (hle : EnvLe E E') {fr : Fr} {a : Act} (h : FrOk E fr a) : FrOk E' fr a := by
  intro s av hl
  obtain ⟨v, h1, h2⟩ := h s av hl
  exact ⟨v, h1, h2.mono hs hle⟩
theorem HidFr.mono {E E' : Env} (hs : Shaped E) (hle : EnvLe E E') : ∀ {l : List Fr} {as : List Act}, HidFr E l as → HidFr E' l as
  | [], _, _ => trivial
  | _ :: _, _, ⟨a, as', e, h1, h2⟩ => ⟨a, as', e, h1.mono hs hle, HidFr.mono hs hle h2⟩
theorem MkOk.mono {E E' : Env} (hle : EnvLe E E') : ∀ {l : List Nat} {ds : List Deferred}, MkOk E l ds → MkOk E' l ds
  | [], _, h => h
  | id :: _, _, ⟨b, ds', h1, ⟨o, h2⟩, h3, h4⟩ => by
    obtain ⟨k1, o', k2, _⟩ := hle.φ id o h2
    exact ⟨b, ds', k1.trans h1, ⟨o', k2⟩, h3, MkOk.mono hle h4⟩
theorem HidOk.mono {E0 E E' : Env} (hs : Shaped E) (hle : EnvLe E E') {l : List Fr} {as : List Act} {mk : List Nat} {ds : List Deferred} (h : HidOk E0 E l as mk ds) : HidOk E0 E' l as mk ds :=
  ⟨h.1.trans hle, h.2.1.mono hs hle, h.2.2.mono hle⟩

theorem EnvLe.refl (E : Env) : EnvLe E E := ⟨fun _ h => h, fun _ _ => rfl, fun id o h => ⟨rfl, o, h, by cases o <;> simp [Evo]⟩⟩

theorem FrOk.put {E : Env} {fr : Fr} {a : Act} (h : FrOk E fr a) {d : Option Tmp} {av : AV} {v : Value} (hd : ∀ t, d = some t → t < a.tmps.size) (hv : Slot E av v) : FrOk E (putFr d av fr) (a.put d v) := by
  cases d with
  | none => exact h
  | some t =>
    intro s u hl
    simp only [putFr, look_cons] at hl
    simp only [Act.put]
    split at hl
    · rename_i e
      subst e
      cases hl
      exact ⟨v, by rw [Array.getElem?_setIfInBounds_self_of_lt (hd _ rfl)], hv⟩
    · rename_i e
      obtain ⟨v', h1, h2⟩ := h s u hl
      exact ⟨v', by rw [Array.getElem?_setIfInBounds_ne (by omega)]; exact h1, h2⟩

theorem size_put (a : Act) (d : Option Tmp) (v : Value) : (a.put d v).tmps.size = a.tmps.size := by cases d <;> simp [Act.put]

theorem defers_put (a : Act) (d : Option Tmp) (v : Value) : (a.put d v).defers = a.defers := by cases d <;> simp [Act.put]

/-- What an operation leaves: the memory is another, behind the old one. -/
theorem Rel.next {w0 : Base} {N : Nat} {as : List Act} {σ : St} {a : Act} {w w' : World} {φ φ' : Nat → Value} {objs' : Objs} {d : Option Tmp} {av : AV} {v : Value}
    (hg : Good w0 ⟨w, imm w0 w φ σ.objs, φ, σ.objs⟩) (hf : FrOk ⟨w, imm w0 w φ σ.objs, φ, σ.objs⟩ σ.fr a) (hh : HidOk w0.start ⟨w, imm w0 w φ σ.objs, φ, σ.objs⟩ σ.hid as σ.mks a.defers) (hN : a.tmps.size = N ∧ True)
    (hd : ∀ t, d = some t → t < N)
    (hle : EnvLe ⟨w, imm w0 w φ σ.objs, φ, σ.objs⟩ ⟨w', imm w0 w' φ' objs', φ', objs'⟩) (hg' : Good w0 ⟨w', imm w0 w' φ' objs', φ', objs'⟩) (hv : Slot ⟨w', imm w0 w' φ' objs', φ', objs'⟩ av v) :
    Rel w0 N as { σ with fr := putFr d av σ.fr, objs := objs' } (a.put d v) w' :=
  ⟨⟨φ', hg', (hf.mono hg.shaped hle).put (by rw [hN.1]; exact hd) hv, by rw [defers_put]; exact hh.mono hg.shaped hle⟩, by rw [size_put]; exact hN⟩
end
end Go.Ab

namespace Go.Ab
noncomputable section
open Go Go.RowKit

/-! ### The table of types is the program's -/
def tdOk : TD → TypeDesc → Prop
  | .int k, .int j => k = j
  | .bool, .bool => True
  | .str, .string => True
  | .slice e, .slice e' => e = e'
  | .map k e, .map k' e' => k = k' ∧ e = e'
  | .struct fs, .struct fields => fs = fields.toList.map (fun f => (f.type, f.offset)) ∧ ∀ f ∈ fields.toList, f.name ≠ "_"
  | .array n e, .array n' e' => n = n' ∧ e = e'
  | .func, .func _ _ _ => True
  | .other, _ => True
  | _, _ => False
structure TIOk (P : Program) (t : TypeId) (ti : TI) : Prop where
  info : ∃ i, P.info? t = some i ∧ i.size = ti.size ∧ i.bytes = ti.bytes ∧ ∃ z, i.zero = some z ∧ z.cells.size = ti.size ∧ ∀ E, Slot E ti.zero z
  desc : ∃ d, P.underlying t = some d ∧ tdOk ti.d d ∧ (match d with | .struct _ => true | .array _ _ => true | _ => false) = ti.agg
  fields : ∀ fields : Array Field, P.underlying t = some (.struct fields) → ∀ f ∈ fields.toList, (P.info? f.type).isSome = true
  plain : ti.agg = true → P.stoodInHeld t = false ∧ P.eqGuardType P.depth t = false
  zero : ti.zero.size = ti.size ∧ ti.zero.agg = ti.agg
  ty : ∀ y, ti.ty = some y → y.size = ti.size ∧ y.agg = ti.agg
def TblOk (P : Program) (T : Tbl) : Prop := ∀ t ti, T t = some ti → TIOk P t ti

section
variable {P : Program} {T : Tbl}
theorem TIOk.sizeOf {t : TypeId} {ti : TI} (h : TIOk P t ti) (w : World) : (sizeOf t).run P w = .ok ti.size w := by
  obtain ⟨i, hi, hs, _⟩ := h.info
  simp [Go.sizeOf, typeInfo, hi, hs]
theorem TIOk.isAgg {t : TypeId} {ti : TI} (h : TIOk P t ti) (w : World) : (isAgg t).run P w = .ok ti.agg w := by
  obtain ⟨d, hd, _, ha⟩ := h.desc
  rw [← ha]
  cases d <;> simp [Go.isAgg, run_underlying hd]
end

/-! ### Slots -/
section
variable {E : Env}
theorem Slot.cell {a : AV} {v : Value} (h : Slot E a v) (ha : a.agg = false) (ht : ∀ x, a ≠ .tup x) (hn : a ≠ .any) : Rep E a false [v] := by
  unfold Slot at h
  split at h
  · exact absurd rfl (ht _)
  · exact absurd rfl hn
  · rcases h with ⟨h, _⟩ | ⟨_, h⟩
    · rw [ha] at h; cases h
    · exact h
theorem Slot.ofCell {a : AV} {v : Value} (h : Rep E a false [v]) (ha : a.agg = false) : Slot E a v := by
  unfold Slot
  split
  · exact h.elim
  · trivial
  · exact .inr ⟨ha, h⟩
theorem Slot.ofAgg {a : AV} {cs : List Value} (h : Rep E a false cs) (ha : a.agg = true) : Slot E a (.agg cs.toArray) := by
  unfold Slot
  split
  · exact h.elim
  · trivial
  · exact .inl ⟨ha, cs, rfl, h⟩
theorem Slot.toAgg {a : AV} {v : Value} (h : Slot E a v) (ha : a.agg = true) : ∃ cs : List Value, v = .agg cs.toArray ∧ Rep E a false cs := by
  unfold Slot at h
  split at h
  · cases ha
  · cases ha
  · rcases h with ⟨_, h⟩ | ⟨h, _⟩
    · exact h
    · rw [ha] at h; cases h
theorem Slot.ofCells {a : AV} {cs : List Value} (h : Rep E a false cs) : a.agg = true → Slot E a (.agg cs.toArray) := Slot.ofAgg h
theorem Slot.int {k : IntKind} {n : Int} {v : Value} (h : Slot E (.dat (.int k) n) v) : v = .int k n := by
  have := Slot.cell h rfl (by simp) (by simp)
  simpa [Rep, RepC] using this
theorem Slot.bool {b : Bool} {v : Value} (h : Slot E (.dat .bool b) v) : v = .bool b := by
  have := Slot.cell h rfl (by simp) (by simp)
  simpa [Rep, RepC] using this
theorem Slot.str' {s : ByteArray} {v : Value} (h : Slot E (.dat .str s) v) : v = .string s ∧ SmallLen (ByteArray.size s) := by
  have := Slot.cell h rfl (by simp) (by simp)
  simpa [Rep, RepC] using this
theorem Slot.str {s : ByteArray} {v : Value} (h : Slot E (.dat .str s) v) : v = .string s := h.str'.1
theorem Slot.mkInt (k : IntKind) (n : Int) : Slot E (.dat (.int k) n) (.int k n) := Slot.ofCell (by simp [Rep, RepC]) rfl
theorem Slot.mkBool (b : Bool) : Slot E (.dat .bool b) (.bool b) := Slot.ofCell (by simp [Rep, RepC]) rfl
theorem Slot.mkStr (s : ByteArray) (h : SmallLen (ByteArray.size s)) : Slot E (.dat .str s) (.string s) := Slot.ofCell (by simp [Rep, RepC, h]) rfl
theorem AV.ok_ne {a : AV} (h : a.ok = true) : (∀ x, a ≠ .tup x) ∧ a ≠ .any := by
  cases a with
  | any => cases h
  | tup vs => cases h
  | _ => exact ⟨by simp, by simp⟩
theorem cells_one {v : Value} (h : v.oneCell' = true) : v.cells = #[v] := by cases v <;> first | rfl | cases h
/-- The cells of what a slot holds. -/
theorem Slot.cells {a : AV} {v : Value} (h : Slot E a v) (ht : ∀ x, a ≠ .tup x) (hn : a ≠ .any) : Rep E a false v.cells.toList := by
  cases ha : a.agg with
  | true =>
    obtain ⟨cs, hv, h2⟩ := Slot.toAgg h ha
    subst hv
    exact h2
  | false =>
    have h := Slot.cell h ha ht hn
    rw [cells_one (Rep.one h v (by simp))]
    simpa using h
end

section
variable {P : Program} {T : Tbl} {E : Env}
theorem constAV_slot {t : TypeId} {v : Value} {av : AV} (h : constAV T t v = some av) : Slot E av v := by
  cases v with
  | int k n => simp only [constAV, Option.some.injEq] at h; subst h; exact Slot.mkInt k n
  | bool b => simp only [constAV, Option.some.injEq] at h; subst h; exact Slot.mkBool b
  | string s =>
    simp only [constAV] at h
    split at h
    · rename_i hs
      simp only [Option.some.injEq] at h; subst h; exact Slot.mkStr s hs
    · cases h
  | slice a n c =>
    cases a with
    | some a => simp [constAV] at h
    | none =>
      cases n with
      | succ n => simp [constAV] at h
      | zero =>
        cases c with
        | succ c => simp [constAV] at h
        | zero =>
          simp only [constAV, Option.map_eq_some_iff] at h
          obtain ⟨y, _, rfl⟩ := h
          exact Slot.ofCell (by simp [Rep]) rfl
  | nilFunc => simp only [constAV, Option.some.injEq] at h; subst h; exact Slot.ofCell (by simp [Rep]) rfl
  | map p =>
    cases p with
    | some p => simp [constAV] at h
    | none => simp only [constAV, Option.some.injEq] at h; subst h; exact Slot.ofCell (by simp [Rep]) rfl
  | pointer p =>
    cases p with
    | some p => simp [constAV] at h
    | none => simp only [constAV, Option.some.injEq] at h; subst h; exact Slot.ofCell (by simp [Rep]) rfl
  | _ => simp [constAV] at h

theorem ev_slot {fr : Fr} {a : Act} (hf : FrOk E fr a) {t : TypeId} {x : Operand} {av : AV} (h : ev T t fr x = some av) : Slot E av (a.eval x) := by
  cases x with
  | tmp s =>
    obtain ⟨v, h1, h2⟩ := hf s av h
    simp only [Act.eval, Array.getD_eq_getD_getElem?, h1, Option.getD_some]
    exact h2
  | const v => exact constAV_slot h
  | func f => simp only [ev, Option.some.injEq] at h; subst h; exact Slot.ofCell ⟨[], rfl, rfl⟩ rfl
  | global g => simp [ev] at h
end

/-! ### What an operation does -/
structure Cx where
  P : Program
  T : Tbl
  w0 : Base
  N : Nat
  as : List Act

/-- The outcome of an operation, and the state behind it. -/
def Outc (C : Cx) (σ : St) (o : Oper) (e : Eff) (a : Act) (w : World) : Prop :=
  ∃ nx v w', (execOp a.eval o).run C.P w = .ok nx w' ∧ (nx = .value v ∨ (nx = .skip ∧ v = undef)) ∧ Rel C.w0 C.N C.as { σ with fr := putFr o.dst e.v σ.fr, objs := e.upd ++ σ.objs } (a.put o.dst v) w'

theorem Outc.value {C : Cx} {σ : St} {o : Oper} {e : Eff} {a : Act} {w : World} {v : Value} (hR : Rel C.w0 C.N C.as σ a w) (hd : ∀ t, o.dst = some t → t < C.N)
    (hu : e.upd = []) (hr : (execOp a.eval o).run C.P w = .ok (.value v) w)
    (hv : ∀ φ, Good C.w0 ⟨w, imm C.w0 w φ σ.objs, φ, σ.objs⟩ → FrOk ⟨w, imm C.w0 w φ σ.objs, φ, σ.objs⟩ σ.fr a → Slot ⟨w, imm C.w0 w φ σ.objs, φ, σ.objs⟩ e.v v) : Outc C σ o e a w := by
  obtain ⟨⟨φ, hg, hf, hh⟩, hN⟩ := hR
  refine ⟨_, v, w, hr, .inl rfl, ?_⟩
  rw [hu]
  exact Rel.next hg hf hh hN hd (EnvLe.refl _) hg (hv φ hg hf)
end
end Go.Ab
