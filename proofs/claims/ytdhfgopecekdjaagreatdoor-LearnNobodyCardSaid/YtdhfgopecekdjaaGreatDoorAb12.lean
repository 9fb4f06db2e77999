/- An abstract executor for the machine: part 12 of its soundness, for every program and table. -/
import Derived.Test.YtdhfgopecekdjaaGreatDoorAb11
import Derived.RangeFuncLeaves
import Derived.RangeFuncRecord
namespace Go.Ab
noncomputable section
open Go Go.RowKit

/-- What a walk starts from that sees only the objects of 'kp'. -/
def startI (w0 : Base) (w : World) (φ : Nat → Value) (objs : Objs) (kp : Nat → Bool) (small : Objs) (b : Nat) : Prop :=
  b < w.heap.size ∧ (b < w.heap.size → imm w0 w φ objs b ∨ (∃ id o, kp id = true ∧ look id objs = some o ∧ o.live = true ∧ blk (φ id) = some b)) ∧ ∀ id o, look id small = some o → o.live = true → blk (φ id) ≠ some b
def subBase (w0 : Base) (w : World) (φ : Nat → Value) (objs : Objs) (kp : Nat → Bool) (small : Objs) : Base :=
  { toWorld := w, I0 := imm w0 w φ objs, own := fun b => ∃ id o, kp id = true ∧ look id objs = some o ∧ o.live = true ∧ blk (φ id) = some b, start := ⟨w, startI w0 w φ objs kp small, φ, small⟩ }

theorem sub_enter {w0 : Base} {w : World} {φ : Nat → Value} {objs small : Objs} {kp : Nat → Bool} (hg : Good w0 ⟨w, imm w0 w φ objs, φ, objs⟩) (hs : ∀ id, look id small = if kp id = true then look id objs else none)
    (hcl : ∀ id o, look id small = some o → ∀ j ∈ objIds o, kp j = true) : Good (subBase w0 w φ objs kp small) ⟨w, imm (subBase w0 w φ objs kp small) w φ small, φ, small⟩ := by
  have back : ∀ id o, look id small = some o → kp id = true ∧ look id objs = some o := by
    intro id o h
    rw [hs] at h
    split at h
    · rename_i hk; exact ⟨hk, h⟩
    · cases h
  have hI : ∀ b, imm w0 w φ objs b → imm (subBase w0 w φ objs kp small) w φ small b := fun b hb => ⟨hb.1, fun _ => .inl hb, fun id o ho hl => hb.2.2 id o (back id o ho).2 hl⟩
  refine ⟨⟨rfl, rfl, rfl, Nat.le_refl _, fun _ _ _ => rfl⟩, rfl, fun id o ho => ?_, fun i j o o' hi hj hij hl hl' => hg.dis i j o o' (back i o hi).2 (back j o' hj).2 hij hl hl'⟩
  obtain ⟨hk, ho'⟩ := back id o ho
  refine ObjRep.only (E := ⟨w, imm w0 w φ objs, φ, objs⟩) (E' := ⟨w, imm (subBase w0 w φ objs kp small) w φ small, φ, small⟩) hI (fun _ _ => rfl) rfl (fun j hj q hq => ⟨rfl, ?_⟩) (fun hl b hb _ => ⟨.inr ⟨id, o, hk, ho', hl, hb⟩, rfl⟩) (hg.obj id o ho')
  show look j small = look j objs
  rw [hs, if_pos (hcl id o ho j hj)]
end
end Go.Ab

namespace Go.Ab
noncomputable section
open Go Go.RowKit

section
variable {w0 : Base} {w w' : World} {φ φ' : Nat → Value} {objs small objs' : Objs} {kp : Nat → Bool}

/-- The headers behind such a walk. -/
def outφ (φ φ' : Nat → Value) (objs : Objs) (kp : Nat → Bool) (id : Nat) : Value := if kp id = true ∨ look id objs = none then φ' id else φ id

theorem look_out (hs : ∀ id, look id small = if kp id = true then look id objs else none) (hle : EnvLe (subBase w0 w φ objs kp small).start ⟨w', imm (subBase w0 w φ objs kp small) w' φ' objs', φ', objs'⟩)
    (hnew : ∀ id o, look id objs' = some o → kp id = true ∨ look id objs = none) (id : Nat) : look id (objs' ++ objs) = if kp id = true ∨ look id objs = none then look id objs' else look id objs := by
  rw [look_upd]
  by_cases hk : kp id = true ∨ look id objs = none
  · rw [if_pos hk]
    cases h : look id objs' with
    | some o => rfl
    | none =>
      rcases hk with hk | hk
      · cases ho : look id objs with
        | none => rfl
        | some o =>
          have h1 : look id small = some o := by rw [hs, if_pos hk]; exact ho
          obtain ⟨_, o', h2, _⟩ := hle.φ id o h1
          rw [show look id objs' = some o' from h2] at h
          cases h
      · exact hk
  · rw [if_neg hk]
    cases h : look id objs' with
    | some o => exact absurd (hnew id o h) hk
    | none => rfl

theorem sub_leave (hg : Good w0 ⟨w, imm w0 w φ objs, φ, objs⟩) (hs : ∀ id, look id small = if kp id = true then look id objs else none)
    (h' : Good (subBase w0 w φ objs kp small) ⟨w', imm (subBase w0 w φ objs kp small) w' φ' objs', φ', objs'⟩) (hle : EnvLe (subBase w0 w φ objs kp small).start ⟨w', imm (subBase w0 w φ objs kp small) w' φ' objs', φ', objs'⟩)
    (hnew : ∀ id o, look id objs' = some o → kp id = true ∨ look id objs = none) :
    (∀ b, imm (subBase w0 w φ objs kp small) w' φ' objs' b → imm w0 w' (outφ φ φ' objs kp) (objs' ++ objs) b) ∧
    EnvLe ⟨w, imm w0 w φ objs, φ, objs⟩ ⟨w', imm w0 w' (outφ φ φ' objs kp) (objs' ++ objs), outφ φ φ' objs kp, objs' ++ objs⟩ := by
  have lk := look_out hs hle hnew
  have hsz : w.heap.size ≤ w'.heap.size := h'.below.size
  -- a live object that was not handed in
  have rest : ∀ id o, ¬ (kp id = true ∨ look id objs = none) → look id objs = some o → o.live = true → ∀ b, blk (φ id) = some b → b < w.heap.size ∧ ¬ (subBase w0 w φ objs kp small).own b ∧ ¬ imm w0 w φ objs b := by
    intro id o hk ho hl b hb
    refine ⟨(hg.blk_lt ho hl hb).2, ?_, fun hi => hi.2.2 id o ho hl hb⟩
    rintro ⟨j, q, hj, hq, hql, hbj⟩
    have hne : j ≠ id := by rintro rfl; exact hk (.inl hj)
    rcases hg.dis j id q o hq ho hne hql hl with h3 | h3
    · rw [show blk (φ j) = none from h3] at hbj; cases hbj
    · exact h3 (show blk (φ j) = blk (φ id) from hbj.trans hb.symm)
  have hI : ∀ b, imm (subBase w0 w φ objs kp small) w' φ' objs' b → imm w0 w' (outφ φ φ' objs kp) (objs' ++ objs) b := by
    intro b hb
    refine ⟨hb.1, fun hlt => ?_, fun id o ho hl he => ?_⟩
    · rcases hb.2.1 (Nat.lt_of_lt_of_le hlt hg.below.size) with h1 | ⟨j, q, hj, hq, hql, hbj⟩
      · exact h1.2.1 hlt
      · exact .inr ((hg.blk_lt hq hql hbj).1.resolve_left (Nat.not_le.2 hlt))
    · rw [lk] at ho
      by_cases hk : kp id = true ∨ look id objs = none
      · rw [if_pos hk] at ho
        simp only [outφ, if_pos hk] at he
        exact hb.2.2 id o ho hl he
      · rw [if_neg hk] at ho
        simp only [outφ, if_neg hk] at he
        obtain ⟨h1, h2, h3⟩ := rest id o hk ho hl b he
        rcases hb.2.1 h1 with h4 | h4
        · exact h3 h4
        · exact h2 h4
  refine ⟨hI, fun b hb => ?_, fun b hb => ?_, fun id o ho => ?_⟩
  · have hst : (subBase w0 w φ objs kp small).start.I b := ⟨hb.1, fun _ => .inl hb, fun id o ho hl => by
      have := ho
      rw [hs] at this
      split at this
      · exact hb.2.2 id o this hl
      · cases this⟩
    exact hI b (hle.I b hst)
  · have hst : (subBase w0 w φ objs kp small).start.I b := ⟨hb.1, fun _ => .inl hb, fun id o ho hl => by
      have := ho
      rw [hs] at this
      split at this
      · exact hb.2.2 id o this hl
      · cases this⟩
    exact hle.heap b hst
  · show outφ φ φ' objs kp id = φ id ∧ ∃ o', look id (objs' ++ objs) = some o' ∧ Evo o o'
    replace ho : look id objs = some o := ho
    rw [lk]
    by_cases hk : kp id = true
    · have h1 : look id small = some o := by rw [hs, if_pos hk]; exact ho
      obtain ⟨h2, o', h3, h4⟩ := hle.φ id o h1
      refine ⟨by simp only [outφ, if_pos (Or.inl hk)]; exact h2, o', by rw [if_pos (.inl hk)]; exact h3, h4⟩
    · have hk' : ¬ (kp id = true ∨ look id objs = none) := by rintro (h | h); exact hk h; rw [ho] at h; cases h
      refine ⟨by simp only [outφ, if_neg hk'], o, by rw [if_neg hk']; exact ho, by cases o <;> simp [Evo]⟩
end
end
end Go.Ab

namespace Go.Ab
noncomputable section
open Go Go.RowKit

section
variable {w0 : Base} {w w' : World} {φ φ' : Nat → Value} {objs small objs' : Objs} {kp : Nat → Bool}

theorem sub_good (hg : Good w0 ⟨w, imm w0 w φ objs, φ, objs⟩) (hs : ∀ id, look id small = if kp id = true then look id objs else none)
    (h' : Good (subBase w0 w φ objs kp small) ⟨w', imm (subBase w0 w φ objs kp small) w' φ' objs', φ', objs'⟩) (hle : EnvLe (subBase w0 w φ objs kp small).start ⟨w', imm (subBase w0 w φ objs kp small) w' φ' objs', φ', objs'⟩)
    (hnew : ∀ id o, look id objs' = some o → kp id = true ∨ look id objs = none) :
    Good w0 ⟨w', imm w0 w' (outφ φ φ' objs kp) (objs' ++ objs), outφ φ φ' objs kp, objs' ++ objs⟩ := by
  have lk := look_out hs hle hnew
  obtain ⟨hI, hle2⟩ := sub_leave hg hs h' hle hnew
  have hsz : w.heap.size ≤ w'.heap.size := h'.below.size
  have own_has : ∀ b, (subBase w0 w φ objs kp small).own b → w0.has b ∧ b < w.heap.size := by
    rintro b ⟨j, q, hj, hq, hql, hbj⟩
    exact hg.blk_lt hq hql hbj
  have has_has : ∀ b, (subBase w0 w φ objs kp small).has b → w0.has b := by
    rintro b (h1 | h1)
    · exact .inl (Nat.le_trans hg.below.size h1)
    · exact (own_has b h1).1
  have rest : ∀ id o, ¬ (kp id = true ∨ look id objs = none) → look id objs = some o → o.live = true → ∀ b, blk (φ id) = some b → b < w.heap.size ∧ ¬ (subBase w0 w φ objs kp small).own b := by
    intro id o hk ho hl b hb
    refine ⟨(hg.blk_lt ho hl hb).2, ?_⟩
    rintro ⟨j, q, hj, hq, hql, hbj⟩
    have hne : j ≠ id := by rintro rfl; exact hk (.inl hj)
    rcases hg.dis j id q o hq ho hne hql hl with h3 | h3
    · rw [show blk (φ j) = none from h3] at hbj; cases hbj
    · exact h3 (show blk (φ j) = blk (φ id) from hbj.trans hb.symm)
  have mixed : ∀ i j o o', (kp i = true ∨ look i objs = none) → look i objs' = some o → o.live = true → ¬ (kp j = true ∨ look j objs = none) → look j objs = some o' → o'.live = true → blk (φ' i) = none ∨ blk (φ' i) ≠ blk (φ j) := by
    intro i j o o' hi ho hl hj ho' hl'
    cases hb : blk (φ' i) with
    | none => exact .inl rfl
    | some b =>
      refine .inr fun he => ?_
      obtain ⟨h1, h2⟩ := rest j o' hj ho' hl' b he.symm
      rcases (h'.blk_lt ho hl hb).1 with h3 | h3
      · exact absurd h1 (Nat.not_lt.2 h3)
      · exact h2 h3
  refine ⟨hg.below.next h'.below.os h'.below.tape h'.below.output hsz (fun k hk hno => ?_), rfl, fun id o ho => ?_, fun i j o o' hi hj hij hl hl' => ?_⟩
  · refine h'.below.block k (Nat.lt_of_lt_of_le hk hg.below.size) (fun ho => ?_)
    exact (own_has k ho).1.elim (fun h3 => absurd hk (Nat.not_lt.2 h3)) hno
  · replace ho : look id (objs' ++ objs) = some o := ho
    rw [lk] at ho
    by_cases hk : kp id = true ∨ look id objs = none
    · rw [if_pos hk] at ho
      have hφ : outφ φ φ' objs kp id = φ' id := by simp only [outφ, if_pos hk]
      have h := h'.obj id o ho
      refine ObjRep.only (E := ⟨w', imm (subBase w0 w φ objs kp small) w' φ' objs', φ', objs'⟩) (E' := ⟨w', imm w0 w' (outφ φ φ' objs kp) (objs' ++ objs), outφ φ φ' objs kp, objs' ++ objs⟩) hI (fun _ _ => rfl) hφ (fun j hj q hq => ?_) (fun _ b _ hb => ⟨has_has b hb, rfl⟩) h
      have hkj := hnew j q hq
      exact ⟨by simp only [outφ, if_pos hkj], by show look j (objs' ++ objs) = look j objs'; rw [lk, if_pos hkj]⟩
    · rw [if_neg hk] at ho
      refine ObjRep.keep hg.shaped hle2 (hg.obj id o ho) (by show outφ φ φ' objs kp id = φ id; simp only [outφ, if_neg hk]) (fun hl b hb => ?_)
      obtain ⟨h1, h2⟩ := rest id o hk ho hl b hb
      exact h'.below.block b h1 h2
  · replace hi : look i (objs' ++ objs) = some o := hi
    replace hj : look j (objs' ++ objs) = some o' := hj
    rw [lk] at hi hj
    show blk (outφ φ φ' objs kp i) = none ∨ blk (outφ φ φ' objs kp i) ≠ blk (outφ φ φ' objs kp j)
    by_cases hki : kp i = true ∨ look i objs = none
    · by_cases hkj : kp j = true ∨ look j objs = none
      · rw [if_pos hki] at hi; rw [if_pos hkj] at hj
        simp only [outφ, if_pos hki, if_pos hkj]
        exact h'.dis i j o o' hi hj hij hl hl'
      · rw [if_pos hki] at hi; rw [if_neg hkj] at hj
        simp only [outφ, if_pos hki, if_neg hkj]
        exact mixed i j o o' hki hi hl hkj hj hl'
    · by_cases hkj : kp j = true ∨ look j objs = none
      · rw [if_neg hki] at hi; rw [if_pos hkj] at hj
        simp only [outφ, if_neg hki, if_pos hkj]
        rcases mixed j i o' o hkj hj hl' hki hi hl with h1 | h1
        · by_cases hv : blk (φ i) = none
          · exact .inl hv
          · exact .inr (by rw [h1]; exact hv)
        · exact .inr (Ne.symm h1)
      · rw [if_neg hki] at hi; rw [if_neg hkj] at hj
        simp only [outφ, if_neg hki, if_neg hkj]
        exact hg.dis i j o o' hi hj hij hl hl'
end
end
end Go.Ab

namespace Go.Ab
noncomputable section
open Go Go.RowKit

/-- A live object dies; its block turns into whatever. -/
theorem Good.kill {w0 : Base} {w w' : World} {φ : Nat → Value} {objs : Objs} (h : Good w0 ⟨w, imm w0 w φ objs, φ, objs⟩) {id b : Nat} {q : AObj} (hl : look id objs = some q) (hq : q.live = true) (hev : Evo q .dead)
    (hb : blk (φ id) = some b) (hos : w'.os = w.os) (htape : w'.tape = w.tape) (hout : w'.output = w.output) (hsz : w'.heap.size = w.heap.size) (hother : ∀ k, k ≠ b → w'.heap[k]? = w.heap[k]?) :
    Good w0 ⟨w', imm w0 w' φ ((id, .dead) :: objs), φ, (id, .dead) :: objs⟩ ∧ EnvLe ⟨w, imm w0 w φ objs, φ, objs⟩ ⟨w', imm w0 w' φ ((id, .dead) :: objs), φ, (id, .dead) :: objs⟩ := by
  have back : ∀ j p, look j ((id, .dead) :: objs) = some p → p.live = true → look j objs = some p ∧ j ≠ id := by
    intro j p hj hp
    by_cases hji : j = id
    · subst hji; simp only [look_cons, if_true, Option.some.injEq] at hj; subst hj; cases hp
    · simp only [look_cons, if_neg hji] at hj; exact ⟨hj, hji⟩
  have hle : EnvLe ⟨w, imm w0 w φ objs, φ, objs⟩ ⟨w', imm w0 w' φ ((id, .dead) :: objs), φ, (id, .dead) :: objs⟩ := by
    refine ⟨fun k hk => ⟨by rw [hsz]; exact hk.1, hk.2.1, fun j p hj hp => hk.2.2 j p (back j p hj hp).1 hp⟩, fun k hk => hother k ?_, fun j p hj => ⟨rfl, ?_⟩⟩
    · rintro rfl
      exact hk.2.2 id q hl hq hb
    · by_cases hji : j = id
      · subst hji
        have : p = q := by have := hj.symm.trans hl; cases this; rfl
        subst this
        exact ⟨.dead, by simp [look_cons], hev⟩
      · exact ⟨p, by simp only [look_cons, if_neg hji]; exact hj, by cases p <;> simp [Evo]⟩
  refine ⟨Good.next h hle rfl ?_ (fun j p hj => ?_) (fun i j p p' hi hj hij hp hp' => h.dis i j p p' (back i p hi hp).1 (back j p' hj hp').1 hij hp hp'), hle⟩
  · have hbd := (h.blk_lt hl hq hb).1
    exact h.below.next hos htape hout (by rw [hsz]; exact Nat.le_refl _) (fun k hk hno => hother k (by rintro rfl; exact hbd.elim (fun h3 => absurd hk (Nat.not_lt.2 h3)) hno))
  · by_cases hji : j = id
    · subst hji
      have : p = .dead := by simpa [look_nil, look_cons] using hj.symm
      subst this
      exact .inr trivial
    · have hj' : look j objs = some p := by simpa [look_nil, look_cons, hji] using hj
      refine .inl ⟨hj', rfl, fun hp k hk => hother k ?_⟩
      rintro rfl
      rcases h.dis j id p q hj' hl hji hp hq with h3 | h3
      · rw [show blk (φ j) = none from h3] at hk; cases hk
      · exact h3 (show blk (φ j) = blk (φ id) from hk.trans hb.symm)

/-- Objects that nobody names any more are dropped. -/
theorem Good.drop {w0 : Base} {w : World} {φ : Nat → Value} {objs objs' : Objs} {keep : Nat → Bool} (hg : Good w0 ⟨w, imm w0 w φ objs, φ, objs⟩) (hk : ∀ id, look id objs' = if keep id = true then look id objs else none)
    (hcl : ∀ id o, look id objs' = some o → ∀ j ∈ objIds o, keep j = true) : Good w0 ⟨w, imm w0 w φ objs', φ, objs'⟩ ∧ ∀ b, imm w0 w φ objs b → imm w0 w φ objs' b := by
  have back : ∀ id o, look id objs' = some o → keep id = true ∧ look id objs = some o := by
    intro id o h
    rw [hk] at h
    split at h
    · rename_i hk; exact ⟨hk, h⟩
    · cases h
  have hI : ∀ b, imm w0 w φ objs b → imm w0 w φ objs' b := fun b hb => ⟨hb.1, hb.2.1, fun id o ho hl => hb.2.2 id o (back id o ho).2 hl⟩
  refine ⟨⟨hg.below, rfl, fun id o ho => ?_, fun i j o o' hi hj => hg.dis i j o o' (back i o hi).2 (back j o' hj).2⟩, hI⟩
  refine ObjRep.only (E := ⟨w, imm w0 w φ objs, φ, objs⟩) (E' := ⟨w, imm w0 w φ objs', φ, objs'⟩) hI (fun _ _ => rfl) rfl (fun j hj q hq => ⟨rfl, ?_⟩) (fun _ b _ hb => ⟨hb, rfl⟩) (hg.obj id o (back id o ho).2)
  show look j objs' = look j objs
  rw [hk, if_pos (hcl id o ho j hj)]

/-- The waiting marks, taken. -/
def deads : List Nat → Objs
  | [] => []
  | id :: r => deads r ++ [(id, .dead)]
theorem run_take {P : Program} {w : World} {b : Nat} (h : w.heap[b]? = some (.deferred (some []))) : ∃ w', (Instr.takeDeferred b).run P w = .ok [] w' ∧ w'.os = w.os ∧ w'.tape = w.tape ∧ w'.output = w.output ∧ w'.heap.size = w.heap.size ∧ ∀ k, k ≠ b → w'.heap[k]? = w.heap[k]? :=
  ⟨_, run_takeDeferred (P := P) h, rfl, rfl, rfl, by simp [World.putObj], fun k hk => by simp [World.putObj, Ne.symm hk]⟩

theorem pop_marks {w0 : Base} {N : Nat} {as : List Act} {F : Fence} {n : Nat} {P : Program} {fn : Func} {R : Ending → World → Prop} : ∀ (mks : List Nat) (τ : St) (a : Act) (w : World), τ.mks = mks → Rel w0 N as τ a w → mks.Nodup → (∀ id ∈ mks, look id τ.objs = some .mark) →
    (∀ w', Rel w0 N as { τ with mks := [], objs := deads mks ++ τ.objs } { a with defers := [] } w' → LeavesIn F n P fn a.tmps R [] .returning w') → LeavesInM F n P fn a.tmps R a.defers .returning w
  | [], τ, a, w, hm, hR, _, _, hK => by
    have hd : a.defers = [] := by
      obtain ⟨⟨φ, _, _, _, _, h⟩, _⟩ := hR
      rw [hm] at h; exact h
    rw [hd]
    simp only [LeavesInM]
    refine hK w ?_
    have e1 : ({ τ with mks := [], objs := deads [] ++ τ.objs } : St) = τ := by
      obtain ⟨f, ob, hd, mk⟩ := τ
      simp only at hm
      subst hm; rfl
    have e2 : ({ a with defers := [] } : Act) = a := by rw [← hd]
    rw [e1, e2]; exact hR
  | id :: r, τ, a, w, hm, hR, hnd, hmk, hK => by
    obtain ⟨⟨φ, hg, hf, hle0, hhid, hmo⟩, hN⟩ := hR
    rw [hm] at hmo
    obtain ⟨b, ds', hφ, _, hds, hrest⟩ := hmo
    have hl := hmk id (by simp)
    obtain ⟨b', hφ', _, hheap⟩ := hg.obj id _ hl
    have hbb : b' = b := by have := hφ'.symm.trans hφ; simpa using this
    subst hbb
    obtain ⟨w', ht, h1, h2, h3, h4, h5⟩ := run_take (P := P) hheap
    obtain ⟨g2, l2⟩ := Good.kill hg hl rfl trivial (b := b') (by rw [show φ id = _ from hφ]; rfl) h1 h2 h3 h4 h5
    rw [hds]
    refine ⟨by simp, .inl ⟨b', w', rfl, ht, ?_⟩⟩
    have hnd' := List.nodup_cons.1 hnd
    have := pop_marks r { τ with mks := r, objs := (id, .dead) :: τ.objs } { a with defers := ds' } w' rfl
      ⟨⟨φ, g2, hf.mono hg.shaped l2, hle0.trans l2, hhid.mono hg.shaped l2, hrest.mono l2⟩, hN⟩ hnd'.2
      (fun j hj => by
        have hne : j ≠ id := by rintro rfl; exact hnd'.1 hj
        simp only [look_cons, if_neg hne]
        exact hmk j (by simp [hj])) (F := F) (n := n) (P := P) (fn := fn) (R := R)
      (fun w'' hR' => by
        refine hK w'' ?_
        simpa [deads, List.append_assoc] using hR')
    exact this
end
end Go.Ab

namespace Go.Ab
noncomputable section
open Go Go.RowKit

/-- What is kept of a walk's objects. -/
def KeepOk (kp : Nat → Bool) (objs0 : Objs) (R : AV → Objs → Prop) (v : AV) (objsP : Objs) : Prop :=
  ∃ (objs' : Objs) (keep : Nat → Bool), (∀ id, look id objs' = if keep id = true then look id objsP else none) ∧ (∀ id, kp id = true → keep id = true) ∧ (∀ j ∈ avIds v, keep j = true) ∧
    (∀ id o, look id objs' = some o → ∀ j ∈ objIds o, keep j = true) ∧ (∀ id o, look id objs' = some o → kp id = true ∨ look id objs0 = none) ∧ R v objs'
/-- What a function's end must show: the marks that wait; the result; the objects that are kept. -/
def RetOk (T : Tbl) (kp : Nat → Bool) (objs0 : Objs) (rs : List ResultVar) (R : AV → Objs → Prop) (τ : St) : Prop :=
  τ.mks.Nodup ∧ (∀ id ∈ τ.mks, look id τ.objs = some .mark) ∧ ∃ v : AV, resAV T τ.fr (deads τ.mks ++ τ.objs) rs = some v ∧ KeepOk kp objs0 R v (deads τ.mks ++ τ.objs)
def RetF (T : Tbl) (kp : Nat → Bool) (objs0 : Objs) (rs : List ResultVar) (R : AV → Objs → Prop) : Exit → St → Prop
  | .normal, τ => RetOk T kp objs0 rs R τ
  | .ret, τ => RetOk T kp objs0 rs R τ
  | _, _ => False

/-- Back from a walk that saw only some of the objects. -/
theorem leave_core {w0 : Base} {w w' : World} {φ φ' : Nat → Value} {objs small objsP : Objs} {kp : Nat → Bool} (hg : Good w0 ⟨w, imm w0 w φ objs, φ, objs⟩) (hs : ∀ id, look id small = if kp id = true then look id objs else none)
    (hg' : Good (subBase w0 w φ objs kp small) ⟨w', imm (subBase w0 w φ objs kp small) w' φ' objsP, φ', objsP⟩) (hst : EnvLe (subBase w0 w φ objs kp small).start ⟨w', imm (subBase w0 w φ objs kp small) w' φ' objsP, φ', objsP⟩)
    {v : AV} {u : Value} (hslot : Slot ⟨w', imm (subBase w0 w φ objs kp small) w' φ' objsP, φ', objsP⟩ v u) {R : AV → Objs → Prop} (hk : KeepOk kp objs R v objsP) :
    ∃ objs' φ2, R v objs' ∧ Good w0 ⟨w', imm w0 w' φ2 (objs' ++ objs), φ2, objs' ++ objs⟩ ∧ EnvLe ⟨w, imm w0 w φ objs, φ, objs⟩ ⟨w', imm w0 w' φ2 (objs' ++ objs), φ2, objs' ++ objs⟩ ∧ Slot ⟨w', imm w0 w' φ2 (objs' ++ objs), φ2, objs' ++ objs⟩ v u := by
  obtain ⟨objs', keep, hko, hkk, hkv, hkc, hnew, hRv⟩ := hk
  obtain ⟨hg2, hI2⟩ := Good.drop hg' hko hkc
  have hst2 : EnvLe (subBase w0 w φ objs kp small).start ⟨w', imm (subBase w0 w φ objs kp small) w' φ' objs', φ', objs'⟩ := by
    refine ⟨fun b hb => hI2 b (hst.I b hb), hst.heap, fun id q hq => ?_⟩
    obtain ⟨k1, o', k2, k3⟩ := hst.φ id q hq
    have hkp : kp id = true := by
      have hq' : look id small = some q := hq
      rw [hs] at hq'
      split at hq'
      · assumption
      · cases hq'
    exact ⟨k1, o', by show look id objs' = some o'; rw [hko, if_pos (hkk id hkp)]; exact k2, k3⟩
  have hout := sub_good hg hs hg2 hst2 hnew
  obtain ⟨hI3, hle3⟩ := sub_leave hg hs hg2 hst2 hnew
  have lk := look_out hs hst2 hnew
  refine ⟨objs', _, hRv, hout, hle3, ?_⟩
  refine Slot.only (E := ⟨w', imm (subBase w0 w φ objs kp small) w' φ' objsP, φ', objsP⟩) (E' := ⟨w', imm w0 w' (outφ φ φ' objs kp) (objs' ++ objs), outφ φ φ' objs kp, objs' ++ objs⟩) (fun b hb => hI3 b (hI2 b hb)) (fun _ _ => rfl) (fun id q hq hid => ?_) hslot
  have hk := hkv id hid
  have hq' : look id objs' = some q := by rw [hko, if_pos hk]; exact hq
  have hk2 := hnew id q hq'
  refine ⟨by simp only [outφ, if_pos hk2], ?_⟩
  show look id (objs' ++ objs) = look id objsP
  rw [lk, if_pos hk2, hq']
  exact hq.symm
/-- Into such a walk. -/
theorem enter_core {w0 : Base} {w : World} {φ : Nat → Value} {objs small : Objs} {kp : Nat → Bool} (hg : Good w0 ⟨w, imm w0 w φ objs, φ, objs⟩) (hs : ∀ id, look id small = if kp id = true then look id objs else none)
    (hcl : ∀ id o, look id small = some o → ∀ j ∈ objIds o, kp j = true) :
    Good (subBase w0 w φ objs kp small) ⟨w, imm (subBase w0 w φ objs kp small) w φ small, φ, small⟩ ∧ EnvLe (subBase w0 w φ objs kp small).start ⟨w, imm (subBase w0 w φ objs kp small) w φ small, φ, small⟩ ∧
    ∀ {v : AV} {u : Value}, (∀ j ∈ avIds v, kp j = true) → Slot ⟨w, imm w0 w φ objs, φ, objs⟩ v u → Slot ⟨w, imm (subBase w0 w φ objs kp small) w φ small, φ, small⟩ v u := by
  have hIs : ∀ b, imm w0 w φ objs b → imm (subBase w0 w φ objs kp small) w φ small b := fun b hb => ⟨hb.1, fun _ => .inl hb, fun id q hq hlv => by
    rw [hs] at hq
    split at hq
    · exact hb.2.2 id q hq hlv
    · cases hq⟩
  refine ⟨sub_enter hg hs hcl, ⟨fun b hb => hb, fun _ _ => rfl, fun id q hq => ⟨rfl, q, hq, by cases q <;> simp [Evo]⟩⟩, fun {v u} hv h2 => ?_⟩
  refine Slot.only (E := ⟨w, imm w0 w φ objs, φ, objs⟩) (E' := ⟨w, imm (subBase w0 w φ objs kp small) w φ small, φ, small⟩) hIs (fun _ _ => rfl) (fun id q _ hid => ⟨rfl, ?_⟩) h2
  show look id small = look id objs
  rw [hs, if_pos (hv id hid)]

section
variable {C : Cx} {F : Fence}

/-- A call that sees only some of the objects. -/
theorem call_core (hT : TblOk C.P C.T) (hF : WF F) {f : FuncId} {fn : Func} {c : Code} (hfn : C.P.funcs[f]? = some fn) (hbody : fn.body = some c)
    {l : List AV} (hN' : l.length ≤ fn.ntmps) {R : AV → Objs → Prop} {m : Nat} {kp : Nat → Bool} {w : World} {φ : Nat → Value} {objs small : Objs} (hs : ∀ id, look id small = if kp id = true then look id objs else none)
    (hcl : ∀ id o, look id small = some o → ∀ j ∈ objIds o, kp j = true) (hl : ∀ v ∈ l, ∀ j ∈ avIds v, kp j = true)
    (hrun : ∀ w1 : Base, Runs { C with w0 := w1, N := fn.ntmps, as := [] } F.plain m c { fr := frOf 0 l, objs := small } (RetF C.T kp objs fn.results.toList R))
    (hg : Good C.w0 ⟨w, imm C.w0 w φ objs, φ, objs⟩) {vs : List Value} (hvl : vs.length = l.length)
    (hvs : ∀ (i : Nat) (av : AV), l[i]? = some av → ∃ v, vs[i]? = some v ∧ Slot ⟨w, imm C.w0 w φ objs, φ, objs⟩ av v) {RR : Ending → World → Prop}
    (hK : ∀ v objs', R v objs' → ∀ u w' φ', Good C.w0 ⟨w', imm C.w0 w' φ' (objs' ++ objs), φ', objs' ++ objs⟩ → EnvLe ⟨w, imm C.w0 w φ objs, φ, objs⟩ ⟨w', imm C.w0 w' φ' (objs' ++ objs), φ', objs' ++ objs⟩ →
      Slot ⟨w', imm C.w0 w' φ' (objs' ++ objs), φ', objs' ++ objs⟩ v u → RR (.returned u) w') : CallsIn F m C.P f vs.toArray w RR := by
  have hsz : (vs.toArray ++ Array.replicate (fn.ntmps - vs.toArray.size) undef).size = fn.ntmps := by simp; omega
  obtain ⟨hin, hstart, hslots⟩ := enter_core hg hs hcl
  have hargs : ∀ (i : Nat) (av : AV), l[i]? = some av → ∃ v, vs[i]? = some v ∧ Slot ⟨w, imm (subBase C.w0 w φ objs kp small) w φ small, φ, small⟩ av v := by
    intro i av hi
    obtain ⟨v, h1, h2⟩ := hvs i av hi
    exact ⟨v, h1, hslots (hl av (List.mem_of_getElem? hi)) h2⟩
  have hrel : Rel (subBase C.w0 w φ objs kp small) fn.ntmps [] { fr := frOf 0 l, objs := small } { tmps := vs.toArray ++ Array.replicate (fn.ntmps - vs.toArray.size) undef, defers := [] } w :=
    ⟨⟨φ, hin, frOk_entry hvl hargs _ _, hstart, trivial, rfl⟩, hsz, trivial⟩
  have hcalls : CallsIn F.plain m C.P f vs.toArray w RR := by
    refine callsIn_of_wp_marks hfn hbody (hF.fn f) (wpIn_mono (hrun _ _ w hrel) (fun e a' w' hh' => ?_))
    obtain ⟨τ, h1, h2⟩ := hh'
    have fin : RetOk C.T kp objs fn.results.toList R τ → LeavesInM F.plain m C.P fn a'.tmps RR a'.defers .returning w' := by
      rintro ⟨hnd, hmk, v, hv, hkeep⟩
      refine pop_marks τ.mks τ a' w' rfl h2 hnd hmk (fun w'' hR' => ?_)
      obtain ⟨u, h8, h9⟩ := res_run (C := { C with w0 := subBase C.w0 w φ objs kp small, N := fn.ntmps, as := [] }) (σ := { τ with mks := [], objs := deads τ.mks ++ τ.objs }) hT hR' hv
      refine ⟨u, h8, ?_⟩
      obtain ⟨⟨φ', hg', hf', hst, _⟩, _⟩ := hR'
      obtain ⟨objs', φ2, k1, k2, k3, k4⟩ := leave_core hg hs hg' hst (h9 φ' hg' hf') hkeep
      exact hK v objs' k1 u w'' φ2 k2 k3 k4
    cases e with
    | normal => exact fin h1
    | ret => exact fin h1
    | _ => exact h1.elim
  exact hcalls
end
end
end Go.Ab

namespace Go.Ab
noncomputable section
open Go Go.RowKit

theorem zip_fst {α β : Type} : ∀ {xs : List α} {ys : List β}, xs.length = ys.length → (xs.zip ys).map (·.1) = xs
  | [], [], _ => rfl
  | [], _ :: _, h => by simp at h
  | _ :: _, [], h => by simp at h
  | x :: xs, y :: ys, h => by simp [zip_fst (xs := xs) (ys := ys) (by simpa using h)]

/-- Less is told of a value. -/
inductive Wk : AV → AV → Prop where
  | refl (v : AV) : Wk v v
  | fn (f : FuncId) (c : AV) : Wk (.fn f c) (.fn f .any)
  | nil (t : Ty) : Wk (.nil t) (.dat (.lst t) [])
  | pr {a a' b b' : AV} : Wk a a' → Wk b b' → Wk (.pr a b) (.pr a' b')
theorem Wk.agg {a a' : AV} (h : Wk a a') : a'.agg = a.agg := by cases h <;> rfl
theorem Wk.rep {E : Env} {a a' : AV} (h : Wk a a') : ∀ {cs : List Value}, Rep E a false cs → Rep E a' false cs := by
  induction h with
  | refl v => exact fun h => h
  | fn f c => rintro cs ⟨vs, h1, h2⟩; exact ⟨vs, h1, trivial⟩
  | nil t => intro cs h; exact ⟨none, 0, 0, [], h, rfl, by omega, by omega, rfl, .inl rfl⟩
  | pr _ _ iha ihb => rintro cs ⟨c, d, h1, h2, h3⟩; exact ⟨c, d, h1, iha h2, ihb h3⟩
theorem Wk.slot {E : Env} {a a' : AV} (h : Wk a a') {v : Value} (hs : Slot E a v) : Slot E a' v := by
  have key : (∀ x, a ≠ .tup x) → a ≠ .any → ((∀ x, a' ≠ .tup x) ∧ a' ≠ .any) → Slot E a' v := by
    intro h1 h2 ⟨h3, h4⟩
    have h5 : (a.agg = true ∧ ∃ cs : List Value, v = .agg cs.toArray ∧ Rep E a false cs) ∨ (a.agg = false ∧ Rep E a false [v]) := by
      unfold Slot at hs
      split at hs
      · exact absurd rfl (h1 _)
      · exact absurd rfl h2
      · exact hs
    unfold Slot
    split
    · exact absurd rfl (h3 _)
    · exact absurd rfl h4
    · rw [h.agg]
      exact h5.imp (fun ⟨k1, cs, k2, k3⟩ => ⟨k1, cs, k2, h.rep k3⟩) (fun ⟨k1, k2⟩ => ⟨k1, h.rep k2⟩)
  cases h with
  | refl v => exact hs
  | fn f c => exact key (by simp) (by simp) ⟨by simp, by simp⟩
  | nil t => exact key (by simp) (by simp) ⟨by simp, by simp⟩
  | pr h1 h2 => exact key (by simp) (by simp) ⟨by simp, by simp⟩
def WkL (l l' : List AV) : Prop := l.length = l'.length ∧ ∀ (i : Nat) (v v' : AV), l[i]? = some v → l'[i]? = some v' → Wk v v'
theorem WkL.refl (l : List AV) : WkL l l := ⟨rfl, fun i v v' h1 h2 => by rw [h1] at h2; cases h2; exact .refl v⟩
theorem WkL.nil : WkL [] [] := WkL.refl []
theorem WkL.cons {a a' : AV} {l l' : List AV} (h : Wk a a') (hl : WkL l l') : WkL (a :: l) (a' :: l') :=
  ⟨by simp [hl.1], fun i v v' h1 h2 => by
    cases i with
    | zero => simp at h1 h2; subst h1; subst h2; exact h
    | succ i => exact hl.2 i v v' (by simpa using h1) (by simpa using h2)⟩

/-- What a call comes to. -/
def callEff (v : AV) (objs' : Objs) (kp : List Nat) : Eff := { v := v, upd := objs', wr := kp ++ objs'.map (·.1) }

section
variable {C : Cx} {F : Fence} {n : Nat} {ops : Array Oper} {i : Nat} {o : Oper} {σ : St}

theorem argsAV_agree {T : Tbl} {fr fr' : Fr} : ∀ {xs : List (Operand × TypeId)}, (∀ p ∈ xs, ∀ t, ev T t fr' p.1 = ev T t fr p.1) → argsAV T fr' xs = argsAV T fr xs
  | [], _ => rfl
  | (x, t) :: r, h => by
    simp only [argsAV]
    rw [h (x, t) (by simp), argsAV_agree (xs := r) fun p hp => h p (by simp [hp])]

/-- The arguments of a call, in memory. -/
theorem call_args {w : World} {a : Act} {φ : Nat → Value} {E : Env} (hf : FrOk E σ.fr a) {g : Operand} {args : Array Operand} {argTypes : Array TypeId} {f : FuncId} {caps : AV} {lc la : List AV} (hg : ev C.T 0 σ.fr g = some (.fn f caps)) (hcaps : unpr caps = some lc)
    (hlen : args.size = argTypes.size) (hargs : argsAV C.T σ.fr (args.toList.zip argTypes.toList) = some la) :
    ∃ vc : List Value, a.eval g = .func (.func f) #[] vc.toArray ∧ (args.toList.map a.eval ++ vc).length = (la ++ lc).length ∧ ∀ (k : Nat) (av : AV), (la ++ lc)[k]? = some av → ∃ v, (args.toList.map a.eval ++ vc)[k]? = some v ∧ Slot E av v := by
  obtain ⟨vc, h1, h2⟩ := (ev_slot hf hg).cell rfl (by simp) (by simp)
  have h1' : a.eval g = .func (.func f) #[] vc.toArray := by simpa using h1
  obtain ⟨hcl, hcs⟩ := rep_unpr hcaps h2
  obtain ⟨k1, k2⟩ := args_slots hf hargs
  have hpl : (args.toList.zip argTypes.toList).map (·.1) = args.toList := zip_fst (by simpa using hlen)
  have hmap : (args.toList.zip argTypes.toList).map (fun p => a.eval p.1) = args.toList.map a.eval := by
    rw [show (args.toList.zip argTypes.toList).map (fun p => a.eval p.1) = ((args.toList.zip argTypes.toList).map (·.1)).map a.eval from by rw [List.map_map]; rfl, hpl]
  rw [hmap] at k2
  have hla : (args.toList.map a.eval).length = la.length := by rw [k1, ← hmap, List.length_map]
  refine ⟨vc, h1', by rw [List.length_append, List.length_append, hla, hcl], fun k av hk => ?_⟩
  by_cases hlt : k < la.length
  · rw [List.getElem?_append_left hlt] at hk
    obtain ⟨v, h3, h4⟩ := k2 k av hk
    exact ⟨v, by rw [List.getElem?_append_left (by omega)]; exact h3, h4⟩
  · rw [List.getElem?_append_right (by omega)] at hk
    obtain ⟨v, h3, h4⟩ := hcs _ av hk
    exact ⟨v, by rw [List.getElem?_append_right (by omega), hla]; exact h3, h4⟩

theorem RetF.mono {T : Tbl} {kp : Nat → Bool} {objs0 objs1 : Objs} {rs : List ResultVar} {R : AV → Objs → Prop} (h : ∀ v objs', R v objs' → ∀ id o, look id objs' = some o → look id objs0 = none → look id objs1 = none) {e : Exit} {τ : St} (hh : RetF T kp objs0 rs R e τ) : RetF T kp objs1 rs R e τ := by
  have key : RetOk T kp objs0 rs R τ → RetOk T kp objs1 rs R τ := by
    rintro ⟨h1, h2, v, h3, objs', keep, h4, h5, h6, h7, h8, h9⟩
    exact ⟨h1, h2, v, h3, objs', keep, h4, h5, h6, h7, fun id o ho => (h8 id o ho).imp_right (h v objs' h9 id o ho), h9⟩
  cases e with
  | normal => exact key hh
  | ret => exact key hh
  | _ => exact hh.elim

theorem mem_of_look {α : Type} : ∀ {l : List (Nat × α)} {id : Nat} {x : α}, look id l = some x → id ∈ l.map (·.1)
  | (k, u) :: r, id, x, h => by
    simp only [look_cons] at h
    split at h
    · rename_i hk; subst hk; simp
    · simp only [List.map_cons, List.mem_cons]; exact .inr (mem_of_look h)

/-- The operation 'call' of a function. -/
theorem call_firesF (hT : TblOk C.P C.T) (hF : WF F) (hi : ops[i]? = some o) {g : Operand} {args : Array Operand} {argTypes : Array TypeId} (hop : o.op = .call { callee := .value g, args, argTypes })
    (hgd : guardSays ops σ.fr o.guard = some true) (hd : ∀ t, o.dst = some t → t < C.N)
    {f : FuncId} {caps : AV} {lc la : List AV} (hg : ev C.T 0 σ.fr g = some (.fn f caps)) (hcaps : unpr caps = some lc) (hlen : args.size = argTypes.size) (hargs : argsAV C.T σ.fr (args.toList.zip argTypes.toList) = some la)
    {fn : Func} {c : Code} (hfn : C.P.funcs[f]? = some fn) (hbody : fn.body = some c) (hname : (fn.name == "runtime.NumGoroutine") = false) {l' : List AV} (hwk : WkL (la ++ lc) l') (hN : l'.length ≤ fn.ntmps) {kp : List Nat} {small : Objs}
    (hs : ∀ id, look id small = if kp.contains id = true then look id σ.objs else none) (hcl : ∀ id o, look id small = some o → ∀ j ∈ objIds o, kp.contains j = true) (hl : ∀ v ∈ l', ∀ j ∈ avIds v, kp.contains j = true) {v0 : AV} {objs0 : Objs}
    (hrun : ∀ w1 : Base, Runs { C with w0 := w1, N := fn.ntmps, as := [] } F.plain (n - 1) c { fr := frOf 0 l', objs := small } (RetF C.T kp.contains σ.objs fn.results.toList (fun v objs' => v = v0 ∧ objs' = objs0))) :
    FiresF C F n ops i (callEff v0 objs0 kp).ev σ := by
  refine ⟨fun id q h => ?_, fun τ hsl hob _ a w Q K hR hK => ?_⟩
  · simp only [Eff.ev, callEff, List.contains_eq_mem, decide_eq_true_eq, List.mem_append]
    exact .inr (List.mem_map.2 ⟨_, h, rfl⟩)
  have hobk : ∀ id, kp.contains id = true ∨ id ∈ objs0.map (·.1) → look id τ.objs = look id σ.objs := fun id h => hob id (.inr (by
    simp only [Eff.ev, callEff, List.contains_eq_mem, decide_eq_true_eq, List.mem_append]
    exact h.imp_left (by simp)))
  have hevs := ev_agree (T := C.T) hi hsl
  have hopr : ∀ x, x = g ∨ x ∈ args → ∀ t, ev C.T t τ.fr x = ev C.T t σ.fr x := fun x hx => hevs x (by
    rw [hop]; simp only [Op.operands, Call.operands, Array.mem_append]
    rcases hx with rfl | hx
    · exact .inl (by simp)
    · exact .inr hx)
  have hg' : ev C.T 0 τ.fr g = some (.fn f caps) := by rw [hopr g (.inl rfl)]; exact hg
  have hargs' : argsAV C.T τ.fr (args.toList.zip argTypes.toList) = some la := by
    rw [argsAV_agree (fr := σ.fr) (fun p hp => hopr p.1 (.inr (Array.mem_toList_iff.1 (List.of_mem_zip hp).1)))]; exact hargs
  have hw : Region.wanted o (yielded ops a.tmps) = true := by
    obtain ⟨⟨φ, hg', hf, _⟩, _⟩ := hR
    exact wanted_of hf (by rw [guard_agree hi hsl]; exact hgd)
  obtain ⟨⟨φ, hgd', hf, hh⟩, hNN⟩ := hR
  obtain ⟨vc, hfv, hvl, hvs⟩ := call_args (C := C) (w := w) (φ := φ) hf hg' hcaps hlen hargs'
  have hexec : (execOp a.eval o).run C.P w = .ok (.enter f (args.map a.eval ++ vc.toArray)) w := by
    simp only [execOp, hop, resolve, hfv, Deferred.ofValue, Sem.run_bind, Sem.run_pure, Result.andThen_ok, invoke, callFunc, run_program, hfn, hname, hbody, Option.isNone_some, Bool.false_eq_true, if_false]
    simp
  have hvals : args.map a.eval ++ vc.toArray = (args.toList.map a.eval ++ vc).toArray := by
    apply Array.ext'; simp
  unfold wpOpIn
  simp only [hi, hw, if_true]
  refine ⟨fun f _ => hF.fn f, ?_⟩
  rw [Oper.semAt_eq _ _ _ (by intro c hc; rw [hop] at hc; cases hc), hexec, Oper.uponIn_enter]
  refine ⟨fun h => (by rw [hF.depth] at h; cases h), ?_⟩
  rw [hvals]
  refine call_core hT hF hfn hbody (l := l') hN (kp := kp.contains) (small := small) (R := fun v objs' => v = v0 ∧ objs' = objs0) (fun id => ?_) hcl hl (fun w1 => (hrun w1).mono (fun e τ' h => RetF.mono ?_ h)) hgd' (hvl.trans hwk.1) (fun k av' hk => ?_) ?_
  · rw [hs]
    split
    · rename_i hk; rw [hobk id (.inl hk)]
    · rfl
  · rintro v objs' ⟨rfl, rfl⟩ id o ho hn
    rw [hobk id (.inr (mem_of_look ho))]; exact hn
  · have hlt : k < (la ++ lc).length := by rw [hwk.1]; exact (List.getElem?_eq_some_iff.1 hk).1
    obtain ⟨av, hav⟩ : ∃ av, (la ++ lc)[k]? = some av := ⟨_, List.getElem?_eq_getElem hlt⟩
    obtain ⟨v, h3, h4⟩ := hvs k av hav
    exact ⟨v, h3, (hwk.2 k av av' hav hk).slot h4⟩
  · rintro v objs' ⟨rfl, rfl⟩ u w' φ' hg2 hle hsl2
    refine hK _ _ ?_
    simp only [hi, Option.bind_some]
    exact ⟨⟨φ', hg2, (hf.mono hgd'.shaped hle).put (by rw [hNN.1]; exact hd) hsl2, by rw [defers_put]; exact hh.mono hgd'.shaped hle⟩, by rw [size_put]; exact hNN⟩
end
end
end Go.Ab
