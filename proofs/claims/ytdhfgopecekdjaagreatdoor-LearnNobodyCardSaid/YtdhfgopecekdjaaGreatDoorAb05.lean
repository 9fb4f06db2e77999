/- An abstract executor for the machine: part 5 of its soundness, for every program and table. -/
import Derived.Test.YtdhfgopecekdjaaGreatDoorAb04
import Derived.Great.BuildSlice
namespace Go.Ab
noncomputable section
open Go Go.RowKit

/-! ### Objects that are new, rows that become data -/
theorem look_append {α : Type} {j : Nat} {l r : List (Nat × α)} : look j (l ++ r) = match look j l with | some x => some x | none => look j r := by
  induction l with
  | nil => rfl
  | cons p l ih =>
    obtain ⟨k, v⟩ := p
    simp only [List.cons_append, look_cons]
    split
    · rfl
    · exact ih

def frzOf : Option AObj → Option AObj
  | some (.row _ t xs) => some (.frz t xs)
  | x => x
theorem look_freeze (objs : Objs) : ∀ (ids : List Nat) (j : Nat), look j (freeze objs ids ++ objs) = if j ∈ ids then frzOf (look j objs) else look j objs
  | [], j => by simp [freeze]
  | id :: r, j => by
    have ih := look_freeze objs r j
    simp only [freeze]
    by_cases hj : j = id
    · subst hj
      rw [if_pos (by simp)]
      cases h : look j objs with
      | none =>
        simp only
        rw [ih, h]
        split <;> rfl
      | some o =>
        cases o with
        | row e t xs => simp only [List.cons_append, look_cons, if_true, frzOf]
        | _ => simp only; rw [ih, h]; split <;> rfl
    · have hmem : (j ∈ id :: r) = (j ∈ r) := by simp [hj]
      have e : look j ((match look id objs with | some (.row _ t xs) => (id, AObj.frz t xs) :: freeze objs r | _ => freeze objs r) ++ objs) = look j (freeze objs r ++ objs) := by
        split
        · simp only [List.cons_append, look_cons, if_neg hj]
        · rfl
      refine e.trans ?_
      rw [ih]
      simp [hj]

section
variable {w0 : Base}
theorem ownsRow_repc {I : Nat → Prop} {w : World} {base : Nat → Prop} {e : TypeId} {t : Ty} {xs : List t.V} {cells : List Value} {v : Value} (hr : RepL (RepC I w t) xs cells) (ho : OwnR w base e t.size v xs.length cells)
    (hI : ∀ b, blk v = some b → I b) : RepC I w (.lst t) xs [v] := by
  obtain ⟨h1, h2⟩ := ho
  rcases h2 with ⟨h4, ad, rfl⟩ | ⟨g, cap, cur, rfl, h4, h5, h6, h7, h8, h9⟩
  · have hx : xs = [] := List.eq_nil_of_length_eq_zero h4
    subst hx
    exact ⟨ad, 0, 0, [], rfl, rfl, by simp, by simp, rfl, .inl rfl⟩
  · refine ⟨some ⟨g, 0, none⟩, xs.length, cap + 1, cells, rfl, rfl, h6, h7, hr, .inr ⟨g, 0, rfl, hI g rfl, fun j v hj => ?_⟩⟩
    have := World.ownsRow.cells (w := w) (base := 0) (e := e) (size := t.size) (v := .slice (some ⟨g, 0, none⟩) xs.length (cap + 1)) (n := xs.length) (xs := cells) ⟨h1, .inr ⟨g, cap + 1, cur, rfl, Nat.zero_le _, h5, h6, h7, h8, h9⟩⟩ (g := g) rfl j v hj
    rwa [add_at] at this

theorem Good.freeze {w : World} {φ : Nat → Value} {objs : Objs} (h : Good w0 ⟨w, imm w0 w φ objs, φ, objs⟩) (ids : List Nat) :
    Good w0 ⟨w, imm w0 w φ (freeze objs ids ++ objs), φ, freeze objs ids ++ objs⟩ ∧ EnvLe ⟨w, imm w0 w φ objs, φ, objs⟩ ⟨w, imm w0 w φ (freeze objs ids ++ objs), φ, freeze objs ids ++ objs⟩ := by
  have lk := look_freeze objs ids
  have back : ∀ j o, look j (Go.Ab.freeze objs ids ++ objs) = some o → o.live = true → look j objs = some o := by
    intro j o hj hl
    rw [lk] at hj
    split at hj
    · cases hq : look j objs with
      | none => rw [hq] at hj; cases hj
      | some q => rw [hq] at hj; cases q <;> simp [frzOf] at hj <;> first | exact congrArg some hj | (subst hj; cases hl)
    · exact hj
  have hle : EnvLe ⟨w, imm w0 w φ objs, φ, objs⟩ ⟨w, imm w0 w φ (Go.Ab.freeze objs ids ++ objs), φ, Go.Ab.freeze objs ids ++ objs⟩ := by
    refine ⟨fun b hb => ⟨hb.1, hb.2.1, fun id o ho hl => hb.2.2 id o (back id o ho hl) hl⟩, fun _ _ => rfl, fun id o ho => ⟨rfl, ?_⟩⟩
    replace ho : look id objs = some o := ho
    show ∃ o', look id (Go.Ab.freeze objs ids ++ objs) = some o' ∧ Evo o o'
    rw [lk, ho]
    split
    · cases o <;> simp [frzOf, Evo]
    · exact ⟨o, rfl, by cases o <;> simp [Evo]⟩
  refine ⟨Good.next h hle rfl h.below (fun id o ho => ?_) (fun i j o o' hi hj hij hl hl' => h.dis i j o o' (back i o hi hl) (back j o' hj hl') hij hl hl'), hle⟩
  replace ho : look id (Go.Ab.freeze objs ids ++ objs) = some o := ho
  by_cases hid : id ∈ ids
  · rw [lk, if_pos hid] at ho
    cases hq : look id objs with
    | none => rw [hq] at ho; cases ho
    | some q =>
      rw [hq] at ho
      cases q with
      | row e t xs =>
        simp only [frzOf, Option.some.injEq] at ho
        subst ho
        refine .inr ?_
        obtain ⟨cells, h1, h2⟩ := h.obj id _ hq
        refine ownsRow_repc (RepL.imp (fun _ _ => RepC.mono hle.I hle.heap) h1) h2 (fun b hb => ?_)
        refine ⟨(h.blk_lt hq rfl hb).2, fun hlt => .inr ((h.blk_lt hq rfl hb).1.resolve_left (Nat.not_le.2 hlt)), fun j o' hj hl hb' => ?_⟩
        have hj' := back j o' hj hl
        by_cases hji : j = id
        · subst hji
          rw [lk, if_pos hid, hq] at hj
          simp only [frzOf, Option.some.injEq] at hj
          subst hj
          cases hl
        · rcases h.dis j id o' _ hj' hq hji hl rfl with h3 | h3
          · rw [show blk (φ j) = none from h3] at hb'; cases hb'
          · exact h3 (show blk (φ j) = blk (φ id) from hb'.trans hb.symm)
      | _ => simp only [frzOf, Option.some.injEq] at ho; subst ho; exact .inl ⟨rfl, rfl, fun _ _ _ => rfl⟩
  · rw [lk, if_neg hid] at ho
    exact .inl ⟨ho, rfl, fun _ _ _ => rfl⟩

/-- A new object. -/
theorem Good.add {w w' : World} {φ : Nat → Value} {objs : Objs} (h : Good w0 ⟨w, imm w0 w φ objs, φ, objs⟩) {id : Nat} (hf : look id objs = none) {o : AObj} {hdr : Value} (hb : Below w.heap.size w w')
    (hblk : ∀ b, blk hdr = some b → w.heap.size ≤ b) (hbl : o.live = true → ∀ b, blk hdr = some b → b < w'.heap.size)
    (hobj : ∀ E' : Env, E'.w = w' → E'.φ id = hdr → (∀ b, b < w'.heap.size → w.heap.size ≤ b → some b ≠ blk hdr → E'.I b) → EnvLe ⟨w, imm w0 w φ objs, φ, objs⟩ E' → ObjRep E' w0.has id o) :
    Good w0 ⟨w', imm w0 w' (fun j => if j = id then hdr else φ j) ((id, o) :: objs), fun j => if j = id then hdr else φ j, (id, o) :: objs⟩ ∧
    EnvLe ⟨w, imm w0 w φ objs, φ, objs⟩ ⟨w', imm w0 w' (fun j => if j = id then hdr else φ j) ((id, o) :: objs), fun j => if j = id then hdr else φ j, (id, o) :: objs⟩ := by
  have old : ∀ j q, look j ((id, o) :: objs) = some q → j ≠ id → look j objs = some q := by
    intro j q hj hne
    simpa [look_nil, look_cons, hne] using hj
  have ne : ∀ j q, look j objs = some q → j ≠ id := by rintro j q hj rfl; rw [hf] at hj; cases hj
  have hI : ∀ b, imm w0 w φ objs b → imm w0 w' (fun j => if j = id then hdr else φ j) ((id, o) :: objs) b := by
    intro b hb'
    refine ⟨Nat.lt_of_lt_of_le hb'.1 hb.size, hb'.2.1, fun j q hj hl he => ?_⟩
    by_cases hji : j = id
    · subst hji
      simp only [if_true] at he
      have := hblk b he
      have := hb'.1
      omega
    · simp only [if_neg hji] at he
      exact hb'.2.2 j q (old j q hj hji) hl he
  have hle : EnvLe ⟨w, imm w0 w φ objs, φ, objs⟩ ⟨w', imm w0 w' (fun j => if j = id then hdr else φ j) ((id, o) :: objs), fun j => if j = id then hdr else φ j, (id, o) :: objs⟩ := by
    refine ⟨hI, fun b hb' => hb.block b hb'.1, fun j q hj => ?_⟩
    have hne := ne j q hj
    exact ⟨by simp [hne], q, by simp only [look_cons, if_neg hne]; exact hj, by cases q <;> simp [Evo]⟩
  refine ⟨Good.next h hle rfl (h.below.below hb) (fun j q hj => ?_) (fun i j q q' hi hj hij hl hl' => ?_), hle⟩
  · by_cases hji : j = id
    · subst hji
      have : q = o := by simpa [look_nil, look_cons] using hj.symm
      subst this
      refine .inr (hobj _ rfl (by simp) (fun b h1 h2 h3 => ⟨h1, fun hlt => absurd hlt (Nat.not_lt.2 (Nat.le_trans h.below.size h2)), fun i q hi hl he => ?_⟩) hle)
      by_cases hii : i = j
      · subst hii
        simp only [if_true] at he
        exact h3 he.symm
      · simp only [if_neg hii] at he
        have := (h.blk_lt (old i q hi hii) hl (b := b) he).2
        have h4 : b < w.heap.size := this
        omega
    · refine .inl ⟨old j q hj hji, by simp [hji], fun hl b hb' => hb.block b ?_⟩
      exact (h.blk_lt (old j q hj hji) hl hb').2
  · by_cases hii : i = id
    · subst hii
      have hne : j ≠ i := Ne.symm hij
      simp only [if_true, if_neg hne]
      cases hbk : blk hdr with
      | none => exact .inl rfl
      | some b =>
        refine .inr fun he => ?_
        have h1 := h.blk_lt (old j q' hj hne) hl' (b := b) (by show blk (φ j) = some b; exact he.symm)
        have := hblk b hbk
        have h3 : b < w.heap.size := h1.2
        omega
    · by_cases hjj : j = id
      · subst hjj
        simp only [if_neg hij, if_true]
        cases hbk : blk (φ i) with
        | none => exact .inl rfl
        | some b =>
          refine .inr fun he => ?_
          have h1 := h.blk_lt (old i q hi hij) hl (b := b) hbk
          have := hblk b he.symm
          have h3 : b < w.heap.size := h1.2
          omega
      · simp only [if_neg hii, if_neg hjj]
        exact h.dis i j q q' (old i q hi hii) (old j q' hj hjj) hij hl hl'
end
end
end Go.Ab

namespace Go.Ab
noncomputable section
open Go Go.RowKit

section
variable {C : Cx} {o : Oper} {σ : St} {e : Eff} {a : Act} {w : World}

/-- A new object in a new block: the operation's outcome. -/
theorem Outc.new (hR : Rel C.w0 C.N C.as σ a w) (hd : ∀ t, o.dst = some t → t < C.N) {id : Nat} {ob : AObj} {cells : Obj} {v : Value} {av : AV} {ids : List Nat}
    (hu : e.upd = (id, ob) :: freeze σ.objs ids) (hv : e.v = av) (hf : look id σ.objs = none)
    (hblk : ∀ b, blk v = some b → b = w.heap.size)
    (hrun : (execOp a.eval o).run C.P w = .ok (.value v) (w.alloc cells))
    (hobj : ∀ φ, FrOk ⟨w, imm C.w0 w φ σ.objs, φ, σ.objs⟩ σ.fr a → Good C.w0 ⟨w, imm C.w0 w φ σ.objs, φ, σ.objs⟩ → EnvLe ⟨w, imm C.w0 w φ σ.objs, φ, σ.objs⟩ ⟨w, imm C.w0 w φ (freeze σ.objs ids ++ σ.objs), φ, freeze σ.objs ids ++ σ.objs⟩ →
      Good C.w0 ⟨w, imm C.w0 w φ (freeze σ.objs ids ++ σ.objs), φ, freeze σ.objs ids ++ σ.objs⟩ →
      ∀ E' : Env, E'.w = w.alloc cells → E'.φ id = v → EnvLe ⟨w, imm C.w0 w φ (freeze σ.objs ids ++ σ.objs), φ, freeze σ.objs ids ++ σ.objs⟩ E' → ObjRep E' C.w0.has id ob)
    (hsl : ∀ E' : Env, E'.φ id = v → look id E'.objs = some ob → Slot E' av v) : Outc C σ o e a w := by
  obtain ⟨⟨φ, hg, hfo, hh⟩, hN⟩ := hR
  obtain ⟨q2, q3⟩ := Good.freeze hg ids
  have q1 : look id (freeze σ.objs ids ++ σ.objs) = none := by
    rw [look_freeze, hf]; split <;> rfl
  have hbelow : Below w.heap.size w (w.alloc cells) := (Below.refl _ w).alloc (Nat.le_refl _) cells
  have main := Good.add q2 q1 (o := ob) (hdr := v) hbelow (fun b hb => by rw [hblk b hb]; exact Nat.le_refl _) (fun _ b hb => by rw [hblk b hb]; simp)
    (fun E' h1 h2 h3 hle => hobj φ hfo hg q3 q2 E' h1 h2 hle)
  refine ⟨_, v, w.alloc cells, hrun, .inl rfl, ?_⟩
  rw [hu, hv]
  refine Rel.next (φ := φ) hg hfo hh hN hd (EnvLe.trans q3 main.2) main.1 ?_
  exact hsl _ (by simp) (by simp [look_cons])

theorem heap_new (w : World) (ob : Obj) : (w.alloc ob).heap[w.heap.size]? = some ob := by simp only [World.alloc, Array.getElem?_push_size]

theorem sound_alloc {t : TypeId} (hop : o.op = .alloc t) (hT : TblOk C.P C.T) (hR : Rel C.w0 C.N C.as σ a w) (hd : ∀ t, o.dst = some t → t < C.N)
    {ti : TI} {id : Nat} (hti : C.T t = some ti) (hz : ti.zero.ok = true) (hf : look id σ.objs = none) (he : e = { v := .ptr id 0 0 [], upd := [(id, .box ti.zero)], wr := [id] }) : Outc C σ o e a w := by
  subst he
  obtain ⟨it, hit, hsz, hby, z, hzz, hzs, hzr⟩ := (hT t ti hti).info
  refine Outc.new (ids := []) (cells := .cells z.cells t) (v := .pointer (some ⟨w.heap.size, 0, none⟩)) hR hd rfl rfl hf (fun b hb => by simpa [blk] using hb.symm) ?_ ?_ ?_
  · simp [execOp, hop, Instr.alloc, zeroValue, typeInfo, hit, hzz, newVar, newRow]
  · intro φ _ hg _ _ E' hw hφ hle
    exact ⟨w.heap.size, z.cells, t, hφ, Or.inl hg.below.size, by rw [hw]; exact heap_new _ _, (hzr E').cells (AV.ok_ne hz).1 (AV.ok_ne hz).2⟩
  · intro E' hφ hl
    exact Slot.ofCell ⟨_, hl, rfl, w.heap.size, hφ, rfl⟩ rfl

theorem sound_box {t : TypeId} {x : Operand} (hop : o.op = .box t x) (hR : Rel C.w0 C.N C.as σ a w) (hd : ∀ t, o.dst = some t → t < C.N)
    {id : Nat} {u : AV} (hu : ev C.T t σ.fr x = some u) (hz : u.ok = true) (hf : look id σ.objs = none) (he : e = { v := .ptr id 0 0 [], upd := [(id, .box u)], wr := [id] }) : Outc C σ o e a w := by
  subst he
  refine Outc.new (ids := []) (cells := .cells (a.eval x).cells t) (v := .pointer (some ⟨w.heap.size, 0, none⟩)) hR hd rfl rfl hf (fun b hb => by simpa [blk] using hb.symm) ?_ ?_ ?_
  · simp [execOp, hop, Instr.box, newVar, newRow]
  · intro φ hfo hg hle hg2 E' hw hφ hle'
    have hs := ev_slot hfo hu
    have hs' := (hs.mono hg.shaped hle).mono hg2.shaped hle'
    exact ⟨w.heap.size, _, t, hφ, Or.inl hg.below.size, by rw [hw]; exact heap_new _ _, hs'.cells (AV.ok_ne hz).1 (AV.ok_ne hz).2⟩
  · intro E' hφ hl
    exact Slot.ofCell ⟨_, hl, rfl, w.heap.size, hφ, rfl⟩ rfl

theorem sound_makeMap {t : TypeId} (hop : o.op = .makeMap t none) (hR : Rel C.w0 C.N C.as σ a w) (hd : ∀ t, o.dst = some t → t < C.N)
    {id : Nat} {k v : Ty} (hk : k.flat = true) (hf : look id σ.objs = none) (he : e = { v := .map id, upd := [(id, .map k v [])], wr := [id] }) : Outc C σ o e a w := by
  subst he
  refine Outc.new (ids := []) (cells := .map #[] 0) (v := .map (some w.heap.size)) hR hd rfl rfl hf (fun b hb => by simpa [blk] using hb.symm) ?_ ?_ ?_
  · simp [execOp, hop, Instr.makeMap]
  · intro φ hfo hg hle hg2 E' hw hφ hle'
    exact ⟨w.heap.size, #[], 0, hφ, Or.inl hg.below.size, by rw [hw]; exact heap_new _ _, hk, rfl⟩
  · intro E' hφ hl
    exact Slot.ofCell ⟨_, hl, ⟨_, rfl⟩, by simp [hφ]⟩ rfl

theorem sound_makeMap_v {t : TypeId} (hop : o.op = .makeMap t none) (hR : Rel C.w0 C.N C.as σ a w) (hd : ∀ t, o.dst = some t → t < C.N)
    {id : Nat} {k : Ty} (hk : k.flat = true) (hf : look id σ.objs = none) (he : e = { v := .map id, upd := [(id, .vmap k [])], wr := [id] }) : Outc C σ o e a w := by
  subst he
  refine Outc.new (ids := []) (cells := .map #[] 0) (v := .map (some w.heap.size)) hR hd rfl rfl hf (fun b hb => by simpa [blk] using hb.symm) ?_ ?_ ?_
  · simp [execOp, hop, Instr.makeMap]
  · intro φ hfo hg hle hg2 E' hw hφ hle'
    exact ⟨w.heap.size, #[], 0, hφ, Or.inl hg.below.size, by rw [hw]; exact heap_new _ _, hk, rfl⟩
  · intro E' hφ hl
    exact Slot.ofCell ⟨_, hl, ⟨_, rfl⟩, by simp [hφ]⟩ rfl
end
end
end Go.Ab

namespace Go.Ab
noncomputable section
open Go Go.RowKit

section
variable {C : Cx} {o : Oper} {σ : St} {e : Eff} {a : Act} {w : World}

theorem blk_slice {g n c : Nat} : ∀ b, blk (.slice (some ⟨g, 0, none⟩) n c) = some b → b = g := by
  intro b hb
  cases c <;> simp [blk] at hb
  exact hb.symm

/-- Data out of a value whose rows have become data. -/
theorem toDat_frozen {w0 : Base} {φ : Nat → Value} {objs : Objs} (h : Good w0 ⟨w, imm w0 w φ objs, φ, objs⟩) {ids : List Nat} {t : Ty} {v : AV} {x : t.V} {cs : List Value}
    (hd : toDat objs t v = some x) (hr : Rep ⟨w, imm w0 w φ objs, φ, objs⟩ v false cs) (hid : ∀ id ∈ slIds v, id ∈ ids) : RepC (imm w0 w φ (freeze objs ids ++ objs)) w t x cs := by
  have hle := (Good.freeze h ids).2
  refine toDat_rep (E := ⟨w, imm w0 w φ objs, φ, objs⟩) h.obj hle.I hd hr (fun id hi e s xs hl b hb => ?_)
  refine ⟨(h.blk_lt hl rfl hb).2, fun hlt => .inr ((h.blk_lt hl rfl hb).1.resolve_left (Nat.not_le.2 hlt)), fun j o' hj hl' hb' => ?_⟩
  rw [look_freeze] at hj
  by_cases hji : j = id
  · subst hji
    rw [if_pos (hid j hi), show look j objs = _ from hl] at hj
    simp only [frzOf, Option.some.injEq] at hj
    subst hj
    cases hl'
  · have hj' : look j objs = some o' := by
      split at hj
      · cases hq : look j objs with
        | none => rw [hq] at hj; cases hj
        | some q => rw [hq] at hj; cases q <;> simp [frzOf] at hj <;> first | exact congrArg some hj | (subst hj; cases hl')
      · exact hj
    rcases h.dis j id o' _ hj' hl hji hl' rfl with h3 | h3
    · rw [show blk (φ j) = none from h3] at hb'; cases hb'
    · exact h3 (show blk (φ j) = blk (φ id) from hb'.trans hb.symm)

/-- A closed value's data. -/
theorem toDat_closed {I : Nat → Prop} {t : Ty} {v : AV} {x : t.V} {cs : List Value} (hd : toDat [] t v = some x) (hr : ∀ E : Env, Rep E v false cs) : RepC I w t x cs :=
  toDat_rep (E := ⟨w, I, fun _ => undef, []⟩) (base := fun _ => True) (fun id ob h => by cases h) (fun _ h => h) hd (hr _) (fun id _ e s xs hl => by cases hl)

theorem made_rep {α : Type} {R : α → List Value → Prop} {z : α} {zc : Array Value} {s : Nat} (hz : R z zc.toList) (hs : zc.size = s) : ∀ n : Nat, RepL R (List.replicate n z) (madeCells zc (n * s)).toList
  | 0 => by simp [madeCells, RepL]
  | n + 1 => by
    refine ⟨zc.toList, (madeCells zc (n * s)).toList, ?_, hz, made_rep hz hs n⟩
    apply List.ext_getElem?
    intro i
    have hsz : ∀ m, (madeCells zc m).toList.length = m := fun m => by simp [madeCells]
    have hg : ∀ m i, i < m → (madeCells zc m).toList[i]? = some (zc[i % zc.size]!) := fun m i h => by simp [madeCells, h]
    by_cases hi : i < (n + 1) * s
    · have h1 : (n + 1) * s = n * s + s := by rw [Nat.succ_mul]
      rw [hg _ _ hi]
      by_cases h2 : i < s
      · rw [List.getElem?_append_left (by simpa [hs] using h2)]
        rw [hs, Nat.mod_eq_of_lt h2]
        have : i < zc.size := by omega
        simp [this]
      · rw [List.getElem?_append_right (by simp [hs]; omega)]
        rw [hg _ _ (by simp [hs]; omega)]
        rw [hs]
        congr 2
        have : i = (i - s) + s := by omega
        conv => lhs; rw [this, Nat.add_mod_right]
        simp [hs]
    · rw [List.getElem?_eq_none (by rw [hsz]; omega), List.getElem?_eq_none (by rw [List.length_append, hsz]; simp [hs]; rw [Nat.succ_mul] at hi; omega)]

theorem sound_makeSlice {t el : TypeId} {l c : Operand} (hop : o.op = .makeSlice t l c) (hT : TblOk C.P C.T) (hR : Rel C.w0 C.N C.as σ a w) (hd : ∀ t, o.dst = some t → t < C.N)
    {ti te : TI} {id : Nat} {ty : Ty} {z : ty.V} {n m : Int} (hti : C.T t = some ti) (hds : ti.d = .slice el) (hte : C.T el = some te) (hty : te.ty = some ty)
    (hl : ev C.T 0 σ.fr l = some (.dat (.int .i64) n)) (hc : ev C.T 0 σ.fr c = some (.dat (.int .i64) m)) (hz : toDat [] ty te.zero = some z) (hb : te.bytes ≠ 0) (hok : te.zero.ok = true)
    (hf : look id σ.objs = none) (he : e = { v := .sl id, upd := [(id, .row el ty (repl n z))], conds := [.make n te.bytes, .same n m], wr := [id] }) (hcs : ∀ q ∈ e.conds, q.holds) : Outc C σ o e a w := by
  subst he
  have hn : n = m := hcs (.same n m) (by simp)
  subst hn
  obtain ⟨h0, h1⟩ : MakeOk n te.bytes := hcs (.make n te.bytes) (by simp)
  obtain ⟨it, hit, hsz, hby, zv, hzz, hzs, hzr⟩ := (hT el te hte).info
  have hty' := (hT el te hte).ty ty hty
  have hu := slice_elem hT hti hds
  obtain ⟨k, rfl⟩ := Int.eq_ofNat_of_zero_le h0
  have h1' : k * te.bytes ≤ 140737488355328 := by
    have : ((k * te.bytes : Nat) : Int) ≤ 140737488355328 := by rw [Int.natCast_mul]; exact h1
    omega
  have hk : k ≤ 140737488355328 := Nat.le_trans (Nat.le_mul_of_pos_right k (by omega)) h1'
  have hlc : a.eval l = .int .i64 k ∧ a.eval c = .int .i64 k := by
    obtain ⟨⟨φ, hg, hfo, _⟩, _⟩ := hR
    exact ⟨(ev_slot hfo hl).int, (ev_slot hfo hc).int⟩
  have hrun := run_make (P := C.P) w t el it zv hu hit hzz .i64 .i64 (k : Int) k h0 (Int.le_refl _) (by
    have h5 : ((it.bytes * k : Nat) : Int) ≤ 281474976710656 := by rw [hby, Nat.mul_comm]; omega
    rwa [Int.natCast_mul] at h5) (by omega)
  have hzc : ∀ E : Env, Rep E te.zero false zv.cells.toList := fun E => (hzr E).cells (AV.ok_ne hok).1 (AV.ok_ne hok).2
  refine Outc.new (ids := []) (v := .slice (some ⟨w.heap.size, 0, none⟩) k k) (cells := .cells (madeCells zv.cells (k * it.size)) el) hR hd rfl rfl hf blk_slice ?_ ?_ ?_
  · simp only [Int.toNat_natCast] at hrun
    simp only [execOp, hop, hlc.1, hlc.2, Sem.run_bind, hrun, Result.andThen_ok, Sem.run_pure]
  · intro φ hfo hg hle hg2 E' hw hφ hle'
    refine ⟨(madeCells zv.cells (k * it.size)).toList, ?_, ?_⟩
    · have := made_rep (R := RepC E'.I E'.w ty) (z := z) (zc := zv.cells) (s := it.size) (toDat_closed hz hzc) (by rw [hzs, hsz]) k
      simpa [repl] using this
    · rw [hφ, hw]
      have hlen : (repl (k : Int) z).length = k := by simp [repl]
      rw [hlen]
      have hs : ty.size = it.size := by rw [hty'.1, hsz]
      rw [hs]
      refine OwnR.of ⟨by simp [madeCells], .inr ⟨w.heap.size, k, _, rfl, Nat.zero_le _, heap_new _ _, Nat.le_refl _, by simp [maxLen]; omega, by simp [madeCells], List.take_of_length_le (by simp [madeCells])⟩⟩ (by simp) (fun g hg' => by cases hg'; exact Or.inl hg.below.size)
  · intro E' hφ hl
    exact Slot.ofCell ⟨_, hl, ⟨_, _, _, rfl⟩, by simp [hφ]⟩ rfl

theorem sound_makeSlice_v {t el : TypeId} {l c : Operand} (hop : o.op = .makeSlice t l c) (hT : TblOk C.P C.T) (hR : Rel C.w0 C.N C.as σ a w) (hd : ∀ t, o.dst = some t → t < C.N)
    {ti te : TI} {id : Nat} {n m : Int} (hti : C.T t = some ti) (hds : ti.d = .slice el) (hte : C.T el = some te)
    (hl : ev C.T 0 σ.fr l = some (.dat (.int .i64) n)) (hc : ev C.T 0 σ.fr c = some (.dat (.int .i64) m)) (hb : te.bytes ≠ 0) (hok : te.zero.ok = true)
    (hf : look id σ.objs = none) (he : e = { v := .sl id, upd := [(id, .vrow el te.size (repl n te.zero))], conds := [.make n te.bytes, .same n m], wr := [id] }) (hcs : ∀ q ∈ e.conds, q.holds) : Outc C σ o e a w := by
  subst he
  have hn : n = m := hcs (.same n m) (by simp)
  subst hn
  obtain ⟨h0, h1⟩ : MakeOk n te.bytes := hcs (.make n te.bytes) (by simp)
  obtain ⟨it, hit, hsz, hby, zv, hzz, hzs, hzr⟩ := (hT el te hte).info
  have hu := slice_elem hT hti hds
  obtain ⟨k, rfl⟩ := Int.eq_ofNat_of_zero_le h0
  have h1' : k * te.bytes ≤ 140737488355328 := by
    have : ((k * te.bytes : Nat) : Int) ≤ 140737488355328 := by rw [Int.natCast_mul]; exact h1
    omega
  have hk : k ≤ 140737488355328 := Nat.le_trans (Nat.le_mul_of_pos_right k (by omega)) h1'
  have hlc : a.eval l = .int .i64 k ∧ a.eval c = .int .i64 k := by
    obtain ⟨⟨φ, hg, hfo, _⟩, _⟩ := hR
    exact ⟨(ev_slot hfo hl).int, (ev_slot hfo hc).int⟩
  have hrun := run_make (P := C.P) w t el it zv hu hit hzz .i64 .i64 (k : Int) k h0 (Int.le_refl _) (by
    have h5 : ((it.bytes * k : Nat) : Int) ≤ 281474976710656 := by rw [hby, Nat.mul_comm]; omega
    rwa [Int.natCast_mul] at h5) (by omega)
  refine Outc.new (ids := []) (v := .slice (some ⟨w.heap.size, 0, none⟩) k k) (cells := .cells (madeCells zv.cells (k * it.size)) el) hR hd rfl rfl hf blk_slice ?_ ?_ ?_
  · simp only [Int.toNat_natCast] at hrun
    simp only [execOp, hop, hlc.1, hlc.2, Sem.run_bind, hrun, Result.andThen_ok, Sem.run_pure]
  · intro φ hfo hg hle hg2 E' hw hφ hle'
    have hzc : Rep E' te.zero false zv.cells.toList := (hzr E').cells (AV.ok_ne hok).1 (AV.ok_ne hok).2
    refine ⟨(madeCells zv.cells (k * it.size)).toList, ?_, ?_⟩
    · have := made_rep (R := fun v cs => Rep E' v false cs ∧ v.size = te.size) (z := te.zero) (zc := zv.cells) (s := it.size) ⟨hzc, (hT el te hte).zero.1⟩ (by rw [hzs, hsz]) k
      simpa [repl] using this
    · rw [hφ, hw]
      have hlen : (repl (k : Int) te.zero).length = k := by simp [repl]
      rw [hlen]
      rw [← hsz]
      refine OwnR.of ⟨by simp [madeCells], .inr ⟨w.heap.size, k, _, rfl, Nat.zero_le _, heap_new _ _, Nat.le_refl _, by simp [maxLen]; omega, by simp [madeCells], List.take_of_length_le (by simp [madeCells])⟩⟩ (by simp) (fun g hg' => by cases hg'; exact Or.inl hg.below.size)
  · intro E' hφ hl
    exact Slot.ofCell ⟨_, hl, ⟨_, _, _, rfl⟩, by simp [hφ]⟩ rfl

/-! #### slice literals -/
theorem lit_fill {w0 : Base} {T : Tbl} {φ : Nat → Value} {objs : Objs} {fr : Fr} (hg : Good w0 ⟨w, imm w0 w φ objs, φ, objs⟩) (hf : FrOk ⟨w, imm w0 w φ objs, φ, objs⟩ fr a) {el : TypeId} {t : Ty} {all : List Nat} :
    ∀ (parts : List (Nat × Operand)) (k : Nat) (ys : List t.V) (ids : List Nat) (cs : Array Value), litElems T fr objs el t k parts = some (ys, ids) → (∀ id ∈ ids, id ∈ all) → cs.size = (k + parts.length) * t.size →
      (∀ v x, toDat objs t v = some x → v.ok = true) →
      ∃ cs' : Array Value, Instr.fill (fun i => some (i * t.size, t.size)) cs (parts.map fun p => (p.1, a.eval p.2)) = some cs' ∧ ∃ new, cs'.toList = cs.toList.take (k * t.size) ++ new ∧ RepL (RepC (imm w0 w φ (freeze objs all ++ objs)) w t) ys new ∧ ys.length = parts.length
  | [], k, ys, ids, cs, h, _, hcs, _ => by
    simp only [litElems, Option.some.injEq, Prod.mk.injEq] at h
    obtain ⟨rfl, rfl⟩ := h
    refine ⟨cs, rfl, [], ?_, rfl, rfl⟩
    rw [List.append_nil, List.take_of_length_le (by simp at hcs; simp [hcs])]
  | (i, x) :: r, k, ys, ids, cs, h, hid, hcs, hok => by
    simp only [litElems] at h
    split at h
    · rename_i hik
      subst hik
      split at h
      · rename_i v hv
        split at h
        · rename_i y zs js hy hz
          simp only [Option.some.injEq, Prod.mk.injEq] at h
          obtain ⟨rfl, rfl⟩ := h
          have hs := ev_slot hf hv
          have ho := AV.ok_ne (hok v y hy)
          have hc := toDat_frozen hg hy (hs.cells ho.1 ho.2) (fun id hi => hid id (by simp [hi])) (ids := all)
          have hl : (a.eval x).cells.size = t.size := by have := hc.len; simpa using this
          simp only [List.length_cons] at hcs
          have hb : i * t.size + (a.eval x).cells.size ≤ cs.size := by
            rw [hcs, hl, ← Nat.succ_mul]; exact Nat.mul_le_mul_right _ (by omega)
          have hst := fill_step (i * t.size) (a.eval x).cells cs hb
          have hsz : ((a.eval x).cells.zipIdx.foldl (fun (cs : Array Value) (p : Value × Nat) => cs.setIfInBounds (i * t.size + p.2) p.1) cs).size = cs.size := by
            rw [← Array.length_toList, hst]
            simp only [List.length_append, List.length_take, List.length_drop, Array.length_toList]
            omega
          obtain ⟨cs', f1, new, f2, f3, f4⟩ := lit_fill hg hf (all := all) r (i + 1) zs js _ hz (fun id hi => hid id (by simp [hi])) (by rw [hsz, hcs]; congr 1; omega) hok
          refine ⟨cs', ?_, (a.eval x).cells.toList ++ new, ?_, ⟨_, new, rfl, hc, f3⟩, by simp [f4]⟩
          · simp only [List.map_cons, Instr.fill]
            rw [if_neg (by simp [hl]; omega)]
            exact f1
          · rw [f2, hst, Nat.succ_mul]
            have e1 : (cs.toList.take (i * t.size) ++ (a.eval x).cells.toList).length = i * t.size + t.size := by
              rw [List.length_append, List.length_take, Array.length_toList, Array.length_toList, hl]
              omega
            rw [← e1, List.take_left, List.append_assoc]
        · cases h
      · cases h
    · cases h

theorem toDat_ok {objs : Objs} : ∀ {t : Ty} {v : AV} {x : t.V}, toDat objs t v = some x → v.ok = true := by
  intro t v x h
  cases v <;> first | rfl | (cases t <;> simp [toDat] at h)

theorem sound_buildSlice {t el : TypeId} {len : Nat} {parts : Array (Nat × Operand)} (hop : o.op = .buildSlice t len parts) (hT : TblOk C.P C.T) (hR : Rel C.w0 C.N C.as σ a w) (hd : ∀ t, o.dst = some t → t < C.N)
    {ti te : TI} {id : Nat} {ty : Ty} {xs : List ty.V} {ids : List Nat} (hti : C.T t = some ti) (hds : ti.d = .slice el) (hte : C.T el = some te) (hty : te.ty = some ty)
    (hlit : litElems C.T σ.fr σ.objs el ty 0 parts.toList = some (xs, ids)) (hlen : parts.toList.length = len) (hsm : len * ty.size ≤ 16777216) (hpos : 0 < ty.size)
    (hf : look id σ.objs = none) (he : e = { v := .sl id, upd := (id, .row el ty xs) :: freeze σ.objs ids, wr := id :: ids }) : Outc C σ o e a w := by
  subst he
  obtain ⟨it, hit, hsz, hby, zv, hzz, hzs, hzr⟩ := (hT el te hte).info
  have hty' := (hT el te hte).ty ty hty
  have hu := slice_elem hT hti hds
  have hs : it.size = ty.size := by rw [hty'.1, hsz]
  have hzsz : zv.cells.size = ty.size := by rw [hzs, hty'.1]
  have parts_eq : (parts.map fun (i, x) => (i, a.eval x)).toList = parts.toList.map fun p => (p.1, a.eval p.2) := by simp
  have key : ∃ cells : Array Value, (Instr.buildSlice t len (parts.map fun (i, x) => (i, a.eval x))).run C.P w = .ok (.slice (some ⟨w.heap.size, 0, none⟩) len len) (w.alloc (.cells cells el)) ∧ cells.size = len * ty.size ∧ xs.length = len ∧
      ∀ φ, FrOk ⟨w, imm C.w0 w φ σ.objs, φ, σ.objs⟩ σ.fr a → Good C.w0 ⟨w, imm C.w0 w φ σ.objs, φ, σ.objs⟩ → RepL (RepC (imm C.w0 w φ (freeze σ.objs ids ++ σ.objs)) w ty) xs cells.toList := by
    obtain ⟨⟨φ, hg, hfo, hh⟩, hN⟩ := hR
    have hc0 : ((Array.range (len * ty.size)).map (zv.cells[· % zv.cells.size]!)).size = (0 + parts.toList.length) * ty.size := by simp [← hlen]
    obtain ⟨cs', f1, new, f2, f3, f4⟩ := lit_fill (all := ids) hg hfo _ 0 xs ids _ hlit (fun _ h => h) hc0 (fun v x => toDat_ok)
    refine ⟨cs', ?_, ?_, by rw [f4, hlen], ?_⟩
    · by_cases hl0 : len = 0
      · subst hl0
        have hp : parts = #[] := by apply Array.ext'; simpa using List.eq_nil_of_length_eq_zero hlen
        subst hp
        simp only [List.map_nil, Instr.fill, Option.some.injEq] at f1
        subst f1
        simp [Instr.buildSlice, run_underlying hu, Go.sizeOf, typeInfo, hit, Instr.fill, newRow, Array.range_zero']
      · refine run_buildSlice w t el len _ cs' it zv hu hit hzz (by rw [hs]; omega) (by rw [hs]; intro h0; rcases Nat.mul_eq_zero.1 h0 with h | h <;> omega) ?_
        rw [hs, parts_eq]
        exact f1
    · have h1 := f3.len (fun _ _ h => h.len)
      rw [f4, hlen] at h1
      rw [← Array.length_toList, f2, Nat.zero_mul, List.take_zero, List.nil_append, h1]
    · intro φ' hfo' hg'
      obtain ⟨cs2, g1, new2, g2, g3, g4⟩ := lit_fill (all := ids) hg' hfo' _ 0 xs ids _ hlit (fun _ h => h) hc0 (fun v x => toDat_ok)
      rw [f1] at g1
      cases g1
      rw [g2, Nat.zero_mul, List.take_zero, List.nil_append]
      exact g3
  obtain ⟨cells, hrun, hcs, hxl, hrep⟩ := key
  refine Outc.new (ids := ids) (v := .slice (some ⟨w.heap.size, 0, none⟩) len len) (cells := .cells cells el) hR hd rfl rfl hf blk_slice ?_ ?_ ?_
  · simp only [execOp, hop, Sem.run_bind, hrun, Result.andThen_ok, Sem.run_pure]
  · intro φ hfo hg hle hg2 E' hw hφ hle'
    refine ⟨cells.toList, RepL.imp (fun _ _ => RepC.mono hle'.I hle'.heap) (hrep φ hfo hg), ?_⟩
    rw [hφ, hw, hxl]
    refine OwnR.of ⟨by simp [hcs], .inr ⟨w.heap.size, len, _, rfl, Nat.zero_le _, heap_new _ _, Nat.le_refl _, ?_, hcs, List.take_of_length_le (by simp [hcs])⟩⟩ (by simp) (fun g hg' => by cases hg'; exact Or.inl hg.below.size)
    have : len ≤ len * ty.size := Nat.le_mul_of_pos_right _ hpos
    simp [maxLen]; omega
  · intro E' hφ hl
    exact Slot.ofCell ⟨_, hl, ⟨_, _, _, rfl⟩, by simp [hφ]⟩ rfl

theorem lit_fillA {E : Env} {T : Tbl} {fr : Fr} (hf : FrOk E fr a) {el : TypeId} {sz : Nat} :
    ∀ (parts : List (Nat × Operand)) (k : Nat) (ys : List AV) (cs : Array Value), litAV T fr el sz k parts = some ys → cs.size = (k + parts.length) * sz →
      ∃ cs' : Array Value, Instr.fill (fun i => some (i * sz, sz)) cs (parts.map fun p => (p.1, a.eval p.2)) = some cs' ∧ ∃ new, cs'.toList = cs.toList.take (k * sz) ++ new ∧ RepL (fun v cs => Rep E v false cs ∧ v.size = sz) ys new ∧ ys.length = parts.length
  | [], k, ys, cs, h, hcs => by
    simp only [litAV, Option.some.injEq] at h
    subst h
    refine ⟨cs, rfl, [], ?_, rfl, rfl⟩
    rw [List.append_nil, List.take_of_length_le (by simp at hcs; simp [hcs])]
  | (i, x) :: r, k, ys, cs, h, hcs => by
    simp only [litAV] at h
    split at h
    · rename_i hik
      subst hik
      split at h
      · rename_i v zs hv hz
        split at h
        · rename_i hk
          simp only [Option.some.injEq] at h
          subst h
          have hs := ev_slot hf hv
          have ho := AV.ok_ne hk.1
          have hc := hs.cells ho.1 ho.2
          have hl : (a.eval x).cells.size = sz := by have := hc.len; rw [hk.2] at this; simpa using this
          simp only [List.length_cons] at hcs
          have hb : i * sz + (a.eval x).cells.size ≤ cs.size := by
            rw [hcs, hl, ← Nat.succ_mul]; exact Nat.mul_le_mul_right _ (by omega)
          have hst := fill_step (i * sz) (a.eval x).cells cs hb
          have hsz : ((a.eval x).cells.zipIdx.foldl (fun (cs : Array Value) (p : Value × Nat) => cs.setIfInBounds (i * sz + p.2) p.1) cs).size = cs.size := by
            rw [← Array.length_toList, hst]
            simp only [List.length_append, List.length_take, List.length_drop, Array.length_toList]
            omega
          obtain ⟨cs', f1, new, f2, f3, f4⟩ := lit_fillA hf r (i + 1) zs _ hz (by rw [hsz, hcs]; congr 1; omega)
          refine ⟨cs', ?_, (a.eval x).cells.toList ++ new, ?_, ⟨_, new, rfl, ⟨hc, hk.2⟩, f3⟩, by simp [f4]⟩
          · simp only [List.map_cons, Instr.fill]
            rw [if_neg (by simp [hl]; omega)]
            exact f1
          · rw [f2, hst, Nat.succ_mul]
            have e1 : (cs.toList.take (i * sz) ++ (a.eval x).cells.toList).length = i * sz + sz := by
              rw [List.length_append, List.length_take, Array.length_toList, Array.length_toList, hl]
              omega
            rw [← e1, List.take_left, List.append_assoc]
        · cases h
      · cases h
    · cases h

theorem sound_buildSlice_v {t el : TypeId} {len : Nat} {parts : Array (Nat × Operand)} (hop : o.op = .buildSlice t len parts) (hT : TblOk C.P C.T) (hR : Rel C.w0 C.N C.as σ a w) (hd : ∀ t, o.dst = some t → t < C.N)
    {ti te : TI} {id : Nat} {xs : List AV} (hti : C.T t = some ti) (hds : ti.d = .slice el) (hte : C.T el = some te)
    (hlit : litAV C.T σ.fr el te.size 0 parts.toList = some xs) (hlen : parts.toList.length = len) (hsm : len * te.size ≤ 16777216) (hpos : 0 < te.size)
    (hf : look id σ.objs = none) (he : e = { v := .sl id, upd := [(id, .vrow el te.size xs)], wr := [id] }) : Outc C σ o e a w := by
  subst he
  obtain ⟨it, hit, hs, hby, zv, hzz, hzs, hzr⟩ := (hT el te hte).info
  have hu := slice_elem hT hti hds
  have parts_eq : (parts.map fun (i, x) => (i, a.eval x)).toList = parts.toList.map fun p => (p.1, a.eval p.2) := by simp
  have key : ∃ cells : Array Value, (Instr.buildSlice t len (parts.map fun (i, x) => (i, a.eval x))).run C.P w = .ok (.slice (some ⟨w.heap.size, 0, none⟩) len len) (w.alloc (.cells cells el)) ∧ cells.size = len * te.size ∧ xs.length = len ∧
      ∀ φ, FrOk ⟨w, imm C.w0 w φ σ.objs, φ, σ.objs⟩ σ.fr a → RepL (fun v cs => Rep ⟨w, imm C.w0 w φ σ.objs, φ, σ.objs⟩ v false cs ∧ v.size = te.size) xs cells.toList := by
    obtain ⟨⟨φ, hg, hfo, hh⟩, hN⟩ := hR
    have hc0 : ((Array.range (len * te.size)).map (zv.cells[· % zv.cells.size]!)).size = (0 + parts.toList.length) * te.size := by simp [← hlen]
    obtain ⟨cs', f1, new, f2, f3, f4⟩ := lit_fillA hfo _ 0 xs _ hlit hc0
    refine ⟨cs', ?_, ?_, by rw [f4, hlen], ?_⟩
    · by_cases hl0 : len = 0
      · subst hl0
        have hp : parts = #[] := by apply Array.ext'; simpa using List.eq_nil_of_length_eq_zero hlen
        subst hp
        simp only [List.map_nil, Instr.fill, Option.some.injEq] at f1
        subst f1
        simp [Instr.buildSlice, run_underlying hu, Go.sizeOf, typeInfo, hit, Instr.fill, newRow, Array.range_zero']
      · refine run_buildSlice w t el len _ cs' it zv hu hit hzz (by rw [hs]; omega) (by rw [hs]; intro h0; rcases Nat.mul_eq_zero.1 h0 with h | h <;> omega) ?_
        rw [hs, parts_eq]
        exact f1
    · have h1 := f3.len (k := te.size) (fun _ _ h => h.1.len.trans h.2)
      rw [f4, hlen] at h1
      rw [← Array.length_toList, f2, Nat.zero_mul, List.take_zero, List.nil_append, h1]
    · intro φ' hfo'
      obtain ⟨cs2, g1, new2, g2, g3, g4⟩ := lit_fillA hfo' _ 0 xs _ hlit hc0
      rw [f1] at g1
      cases g1
      rw [g2, Nat.zero_mul, List.take_zero, List.nil_append]
      exact g3
  obtain ⟨cells, hrun, hcs, hxl, hrep⟩ := key
  refine Outc.new (ids := []) (v := .slice (some ⟨w.heap.size, 0, none⟩) len len) (cells := .cells cells el) hR hd rfl rfl hf blk_slice ?_ ?_ ?_
  · simp only [execOp, hop, Sem.run_bind, hrun, Result.andThen_ok, Sem.run_pure]
  · intro φ hfo hg hle hg2 E' hw hφ hle'
    refine ⟨cells.toList, RepL.imp (fun _ _ h => ⟨Rep.mono hg2.shaped hle' (Rep.mono hg.shaped hle h.1), h.2⟩) (hrep φ hfo), ?_⟩
    rw [hφ, hw, hxl]
    refine OwnR.of ⟨by simp [hcs], .inr ⟨w.heap.size, len, _, rfl, Nat.zero_le _, heap_new _ _, Nat.le_refl _, ?_, hcs, List.take_of_length_le (by simp [hcs])⟩⟩ (by simp) (fun g hg' => by cases hg'; exact Or.inl hg.below.size)
    have : len ≤ len * te.size := Nat.le_mul_of_pos_right _ hpos
    simp [maxLen]; omega
  · intro E' hφ hl
    exact Slot.ofCell ⟨_, hl, ⟨_, _, _, rfl⟩, by simp [hφ]⟩ rfl
end
end
end Go.Ab
