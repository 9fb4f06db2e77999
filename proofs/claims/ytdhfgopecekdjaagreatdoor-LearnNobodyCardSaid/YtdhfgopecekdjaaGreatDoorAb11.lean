/- An abstract executor for the machine: part 11 of its soundness, for every program and table. -/
import Derived.Test.YtdhfgopecekdjaaGreatDoorAb10
import Derived.RangeFuncCalls
namespace Go.Ab
noncomputable section
open Go Go.RowKit

section
variable {C : Cx} {F : Fence} {n : Nat} {ops : Array Oper} {i : Nat} {o : Oper} {σ : St}

def Eff.ev (e : Eff) : Ev := { v := e.v, upd := e.upd, rd := fun id => e.rd.contains id, wr := fun id => e.wr.contains id }

/-- The guard, told. -/
theorem wanted_of {E : Env} {fr : Fr} {a : Act} (hf : FrOk E fr a) {b : Bool} (h : guardSays ops fr o.guard = some b) : Region.wanted o (yielded ops a.tmps) = b := by
  unfold Region.wanted
  cases hg : o.guard with
  | none => rw [hg] at h; simp only [guardSays, Option.some.injEq] at h; exact h
  | some jw =>
    obtain ⟨j, want⟩ := jw
    rw [hg] at h
    simp only [guardSays] at h
    cases hd : (ops[j]?).bind (·.dst) with
    | none => rw [hd] at h; cases h
    | some d =>
      rw [hd] at h
      simp only at h
      split at h <;> try (cases h; done)
      · rename_i hl
        obtain ⟨v, h1, h2⟩ := hf d _ hl
        have hv := h2.bool
        subst hv
        simp only [Option.some.injEq] at h
        subst h
        simp only [yielded, hd, Option.bind_some, h1]
        cases want <;> rfl
      · rename_i hl
        obtain ⟨v, h1, h2⟩ := hf d _ hl
        have hv := h2.bool
        subst hv
        simp only [Option.some.injEq] at h
        subst h
        simp only [yielded, hd, Option.bind_some, h1]
        cases want <;> rfl
      · rename_i hl
        obtain ⟨v, h1, h2⟩ := hf d _ hl
        obtain ⟨l, hv, hr⟩ := h2
        have hl0 : l = [] := hr
        subst hl0
        subst hv
        simp only [Option.some.injEq] at h
        subst h
        simp only [yielded, hd, Option.bind_some, h1]
        cases want <;> rfl

theorem guard_agree {fr fr' : Fr} (hi : ops[i]? = some o) (h : ∀ s ∈ slotsOf ops i, look s fr' = look s fr) : guardSays ops fr' o.guard = guardSays ops fr o.guard := by
  cases hg : o.guard with
  | none => rfl
  | some jw =>
    obtain ⟨j, want⟩ := jw
    simp only [guardSays]
    cases hd : (ops[j]?).bind (·.dst) with
    | none => rfl
    | some d =>
      simp only
      rw [h d (by simp [slotsOf, hi, Oper.looksAt, hg, hd])]

theorem ev_agree {T : Tbl} {fr fr' : Fr} (hi : ops[i]? = some o) (h : ∀ s ∈ slotsOf ops i, look s fr' = look s fr) : ∀ x ∈ o.op.operands, ∀ t, ev T t fr' x = ev T t fr x := by
  intro x hx t
  cases x with
  | tmp s =>
    simp only [ev]
    refine h s ?_
    simp only [slotsOf, hi, Oper.looksAt]
    exact List.mem_append_left _ (List.mem_filterMap.2 ⟨.tmp s, by simpa using hx, rfl⟩)
  | _ => rfl

/-- A skipped operation. -/
theorem skip_firesF (hF : WF F) (hi : ops[i]? = some o) (hd : ∀ t, o.dst = some t → t < C.N) (hg : guardSays ops σ.fr o.guard = some false) : FiresF C F n ops i { v := .tup .un } σ := by
  refine ⟨fun id q h => (by cases h), fun τ hs _ _ a w Q K hR hK => ?_⟩
  have hw : Region.wanted o (yielded ops a.tmps) = false := by
    obtain ⟨⟨φ, hg', hf, _⟩, _⟩ := hR
    exact wanted_of hf (by rw [guard_agree hi hs]; exact hg)
  unfold wpOpIn
  simp only [hi, hw, Bool.false_eq_true, if_false]
  refine ⟨fun f _ => hF.fn f, hK _ _ ?_⟩
  obtain ⟨⟨φ, hg', hf, hh⟩, hN⟩ := hR
  simp only [hi, Option.bind_some]
  exact Rel.next hg' hf hh hN hd (EnvLe.refl _) hg' ⟨[], rfl, rfl⟩

/-- An operation that steps. -/
theorem step_firesF (hT : TblOk C.P C.T) (hF : WF F) (hi : ops[i]? = some o) (hd : ∀ t, o.dst = some t → t < C.N) (hg : guardSays ops σ.fr o.guard = some true)
    {fn : Nat} {e : Eff} (hs : step C.T fn o σ.fr σ.objs = some e) (hc : ∀ q ∈ e.conds, q.holds) : FiresF C F n ops i e.ev σ := by
  refine ⟨fun id q h => by simpa [Eff.ev] using step_named hs id q h, fun τ hsl hob hhid a w Q K hR hK => ?_⟩
  have hw : Region.wanted o (yielded ops a.tmps) = true := by
    obtain ⟨⟨φ, hg', hf, _⟩, _⟩ := hR
    exact wanted_of hf (by rw [guard_agree hi hsl]; exact hg)
  have hs' : step C.T fn o τ.fr τ.objs = some e := by
    rw [step_fr (ev_agree hi hsl)]
    exact step_obj hs (fun id h => hob id (by simpa [Eff.ev] using h))
  obtain ⟨⟨nx, v, w', h1, h2, h3⟩, _⟩ := step_sound hT hR hd hs' hc
  unfold wpOpIn
  simp only [hi, hw, if_true]
  refine ⟨fun f _ => hF.fn f, ?_⟩
  rw [Oper.semAt_eq _ _ _ (step_noDefer hs'), h1]
  have hrel : Rel C.w0 C.N C.as (e.ev.app ((ops[i]?).bind (·.dst)) τ) (a.put o.dst v) w' := by
    simp only [hi, Option.bind_some]
    exact h3
  rcases h2 with rfl | ⟨rfl, rfl⟩
  · rw [Oper.uponIn_value]; exact hK _ _ hrel
  · rw [Oper.uponIn_skip]; exact hK _ _ hrel
end
end
end Go.Ab

namespace Go.Ab
noncomputable section
open Go Go.RowKit

/-! ### Code on abstract states -/
def qthen (K : St → Prop) (Q : Exit → St → Prop) : Exit → St → Prop
  | .normal, σ => K σ
  | .exit id, σ => Q (.exit id) σ
  | .goto l, σ => Q (.goto l) σ
  | .ret, σ => Q .ret σ
  | .panic c, σ => Q (.panic c) σ
  | .outgrown, σ => Q .outgrown σ
def qblock (id : Nat) (Q : Exit → St → Prop) : Exit → St → Prop
  | .exit id', σ => if id' = id then Q .normal σ else Q (.exit id') σ
  | .normal, σ => Q .normal σ
  | .goto l, σ => Q (.goto l) σ
  | .ret, σ => Q .ret σ
  | .panic c, σ => Q (.panic c) σ
  | .outgrown, σ => Q .outgrown σ

/-- Behind the code there is an abstract state, of which Q holds. -/
def Lift (C : Cx) (Q : Exit → St → Prop) (e : Exit) (a : Act) (w : World) : Prop := ∃ σ, Q e σ ∧ Rel C.w0 C.N C.as σ a w
def Runs (C : Cx) (F : Fence) (n : Nat) (c : Code) (σ : St) (Q : Exit → St → Prop) : Prop :=
  ∀ a w, Rel C.w0 C.N C.as σ a w → c.wpIn F n C.P (Lift C Q) a w

section
variable {C : Cx} {F : Fence} {n : Nat} {σ : St} {Q : Exit → St → Prop}

theorem Runs.mono {c : Code} {Q' : Exit → St → Prop} (h : Runs C F n c σ Q) (hq : ∀ e τ, Q e τ → Q' e τ) : Runs C F n c σ Q' :=
  fun a w hR => wpIn_mono (h a w hR) (fun e a' w' ⟨τ, h1, h2⟩ => ⟨τ, hq e τ h1, h2⟩)
/-- From a state that says more. -/
theorem Runs.weaken {c : Code} {τ : St} (h : Runs C F n c τ Q) (hw : ∀ a w, Rel C.w0 C.N C.as σ a w → Rel C.w0 C.N C.as τ a w) : Runs C F n c σ Q := fun a w hR => h a w (hw a w hR)

theorem runs_skip (h : Q .normal σ) : Runs C F n .skip σ Q := fun _ _ hR => wpIn_skip ⟨σ, h, hR⟩
theorem runs_label {l : Nat} (h : Q .normal σ) : Runs C F n (.label l) σ Q := fun _ _ hR => wpIn_label ⟨σ, h, hR⟩
theorem runs_exit {id : Nat} (h : Q (.exit id) σ) : Runs C F n (.exit id) σ Q := fun _ _ hR => wpIn_exit ⟨σ, h, hR⟩
theorem runs_ret (h : Q .ret σ) : Runs C F n .ret σ Q := fun _ _ hR => wpIn_ret ⟨σ, h, hR⟩

theorem runs_seq {x y : Code} (h : Runs C F n x σ (qthen (fun τ => Runs C F n y τ Q) Q)) : Runs C F n (.seq x y) σ Q := by
  intro a w hR
  refine wpIn_seq (wpIn_mono (h a w hR) (fun e a' w' hh => ?_))
  obtain ⟨τ, h1, h2⟩ := hh
  cases e with
  | normal => exact h1 a' w' h2
  | _ => exact ⟨τ, h1, h2⟩

theorem runs_block {id : Nat} {c : Code} (h : Runs C F n c σ (qblock id Q)) : Runs C F n (.block id c) σ Q := by
  intro a w hR
  refine wpIn_block (wpIn_mono (h a w hR) (fun e a' w' hh => ?_))
  obtain ⟨τ, h1, h2⟩ := hh
  cases e with
  | exit id' =>
    simp only [qblock] at h1
    simp only [Exit.inBlock]
    by_cases hid : id' = id
    · rw [if_pos hid] at h1 ⊢; exact ⟨τ, h1, h2⟩
    · rw [if_neg hid] at h1 ⊢; exact ⟨τ, h1, h2⟩
  | _ => exact ⟨τ, h1, h2⟩

theorem runs_cond {c : Operand} {x y : Code} {b : Bool} (hc : ev C.T 0 σ.fr c = some (.dat .bool b)) (ht : b = true → Runs C F n x σ Q) (hf : b = false → Runs C F n y σ Q) : Runs C F n (.cond c x y) σ Q := by
  intro a w hR
  have hb : a.eval c = .bool b := by
    obtain ⟨⟨φ, hg, hfo, _⟩, _⟩ := hR
    exact (ev_slot hfo hc).bool
  exact wpIn_cond_split hb (fun h => ht h a w hR) (fun h => hf h a w hR)

theorem exists_least {p : Nat → Prop} (h : ∃ k, p k) : ∃ k, p k ∧ ∀ j, p j → k ≤ j := by
  obtain ⟨k, hk⟩ := h
  induction k using Nat.strongRecOn with
  | _ k ih =>
    by_cases hl : ∃ j, j < k ∧ p j
    · obtain ⟨j, hj, hp⟩ := hl
      exact ih j hj hp
    · refine ⟨k, hk, fun j hj => Nat.le_of_not_lt fun hlt => hl ⟨j, hlt, hj⟩⟩

open Classical in
theorem runs_loop {c : Code} (I : St → Prop) (μ : St → Nat) (h0 : I σ) (round : ∀ τ, I τ → Runs C F n c τ (qthen (fun τ' => I τ' ∧ μ τ' < μ τ) Q)) : Runs C F n (.loop c) σ Q := by
  intro a w hR
  let Ex : Act → World → Nat → Prop := fun a w k => ∃ τ, I τ ∧ Rel C.w0 C.N C.as τ a w ∧ μ τ = k
  let m : Act → World → Nat := fun a w => if h : ∃ k, Ex a w k then Classical.choose (exists_least h) else 0
  refine wpIn_loop (I := fun a w => ∃ k, Ex a w k) (μ := m) ⟨μ σ, σ, h0, hR, rfl⟩ (fun a w hI => ?_)
  obtain ⟨⟨τ, h1, h2, h3⟩, _⟩ := Classical.choose_spec (exists_least hI)
  refine wpIn_mono (round τ h1 a w h2) (fun e a' w' hh => ?_)
  obtain ⟨τ', h4, h5⟩ := hh
  cases e with
  | normal =>
    obtain ⟨h6, h7⟩ := h4
    have hex : ∃ k, Ex a' w' k := ⟨μ τ', τ', h6, h5, rfl⟩
    refine ⟨hex, ?_⟩
    show (if h : ∃ k, Ex a' w' k then Classical.choose (exists_least h) else 0) < (if h : ∃ k, Ex a w k then Classical.choose (exists_least h) else 0)
    rw [dif_pos hex, dif_pos hI]
    have := (Classical.choose_spec (exists_least hex)).2 _ ⟨τ', h6, h5, rfl⟩
    omega
  | _ => exact ⟨τ', h4, h5⟩

/-- A region in the order of the text. -/
theorem runs_region {id : Nat} {ops : Array Oper} {l : List (Nat × Ev)} (hl : l.map (·.1) = List.range ops.size) (hf : AllFire C F n ops l σ) (h : Q .normal (runEvs ops l σ)) : Runs C F n (.region id ops false) σ Q := by
  intro a w hR
  refine wpIn_region ?_
  rw [← hl]
  exact seq_run l σ a w hf hR (fun a' w' hR' => ⟨_, h, hR'⟩)

/-- A region that draws its order. -/
theorem runs_region_any {id : Nat} {ops : Array Oper} {evs : Nat → Ev} {bef : Nat → Nat → Prop} (hm : C.P.follows .mixedOrders = true) (hord : Ordered ops evs bef)
    (hfire : ∀ i, i < ops.size → FiresF C F n ops i (evs i) (stOf ops evs σ (fun k => decide (k < i)) ops.size))
    (hup : ∀ k id o, (id, o) ∈ (evs k).upd → (evs k).wr id = true) (h : Q .normal (stOf ops evs σ (fun _ => true) ops.size)) : Runs C F n (.region id ops true) σ Q := by
  intro a w hR
  refine wpIn_region_any hm ?_
  refine any_run (F := F) (n := n) hord hfire hup (fun a' w' hR' => ⟨_, h, hR'⟩) _ _ a _ (by simp) ?_ ?_ ?_
  · intro i o ho hi
    have hlt : i < ops.size := (Array.getElem?_eq_some_iff.1 ho).1
    simp [hlt] at hi
  · have : (List.range ops.size).filter (fun k => !(Array.replicate ops.size false).getD k false) = List.range ops.size := by
      rw [List.filter_eq_self]
      intro k hk
      rw [List.mem_range] at hk
      simp [hk]
    rw [this, List.length_range]
  · have h0 : Rel C.w0 C.N C.as σ a { w with drawn := w.drawn + 1 } := hR.drew
    have hall : ∀ k, (Array.replicate ops.size false).getD k false = false := by
      intro k
      by_cases hk : k < ops.size <;> simp [hk]
    have hst : ∀ m, stOf ops evs σ (fun k => (Array.replicate ops.size false).getD k false) m = σ := by
      intro m
      induction m with
      | zero => rfl
      | succ m ih => simp only [stOf, hall m, Bool.false_eq_true, if_false]; exact ih
    rw [hst]
    exact h0
end
end
end Go.Ab

namespace Go.Ab
noncomputable section
open Go Go.RowKit

/-! ### Calls -/
/-- Captured variables, one by one. -/
def unpr : AV → Option (List AV)
  | .un => some []
  | .pr a b => (unpr b).map (a :: ·)
  | _ => none
def argsAV (T : Tbl) (fr : Fr) : List (Operand × TypeId) → Option (List AV)
  | [] => some []
  | (x, t) :: r => match ev T t fr x, argsAV T fr r with
    | some v, some l => some (v :: l)
    | _, _ => none
/-- The frame of a call. -/
def frOf : Nat → List AV → Fr
  | _, [] => []
  | k, v :: r => (k, v) :: frOf (k + 1) r

theorem rep_unpr {E : Env} : ∀ {c : AV} {l : List AV} {vs : List Value}, unpr c = some l → Rep E c true vs → vs.length = l.length ∧ ∀ (i : Nat) (av : AV), l[i]? = some av → ∃ v, vs[i]? = some v ∧ Slot E av v := by
  intro c
  induction c with
  | un => intro l vs h hr; simp only [unpr, Option.some.injEq] at h; subst h; rw [show vs = [] from hr]; exact ⟨rfl, fun i av hi => by simp at hi⟩
  | pr a b _ ihb =>
    intro l vs h hr
    simp only [unpr, Option.map_eq_some_iff] at h
    obtain ⟨l', h1, rfl⟩ := h
    obtain ⟨v, r, rfl, h2, h3⟩ := hr
    obtain ⟨h4, h5⟩ := ihb h1 h3
    refine ⟨by simp [h4], fun i av hi => ?_⟩
    cases i with
    | zero =>
      simp only [List.getElem?_cons_zero, Option.some.injEq] at hi
      subst hi
      refine ⟨v, by simp, ?_⟩
      rcases h2 with ⟨ha, cs, rfl, h⟩ | ⟨ha, h⟩
      · exact Slot.ofAgg h ha
      · exact Slot.ofCell h ha
    | succ i =>
      obtain ⟨u, h6, h7⟩ := h5 i av (by simpa using hi)
      exact ⟨u, by simpa using h6, h7⟩
  | _ => intro l vs h hr; simp [unpr] at h

theorem args_slots {T : Tbl} {E : Env} {fr : Fr} {a : Act} (hf : FrOk E fr a) : ∀ {xs : List (Operand × TypeId)} {l : List AV}, argsAV T fr xs = some l → l.length = xs.length ∧ ∀ (i : Nat) (av : AV), l[i]? = some av → ∃ v, (xs.map fun p => a.eval p.1)[i]? = some v ∧ Slot E av v
  | [], l, h => by simp only [argsAV, Option.some.injEq] at h; subst h; exact ⟨rfl, fun i av hi => by simp at hi⟩
  | (x, t) :: r, l, h => by
    simp only [argsAV] at h
    split at h
    · rename_i v l' hv hl
      simp only [Option.some.injEq] at h
      subst h
      obtain ⟨h1, h2⟩ := args_slots hf hl
      refine ⟨by simp [h1], fun i av hi => ?_⟩
      cases i with
      | zero =>
        simp only [List.getElem?_cons_zero, Option.some.injEq] at hi
        subst hi
        exact ⟨a.eval x, by simp, ev_slot hf hv⟩
      | succ i =>
        obtain ⟨u, h6, h7⟩ := h2 i av (by simpa using hi)
        exact ⟨u, by simpa using h6, h7⟩
    · cases h

theorem look_frOf : ∀ {l : List AV} {k s : Nat} {av : AV}, look s (frOf k l) = some av → k ≤ s ∧ l[s - k]? = some av
  | [], k, s, av, h => by cases h
  | v :: r, k, s, av, h => by
    simp only [frOf, look_cons] at h
    split at h
    · rename_i he
      subst he
      cases h
      exact ⟨Nat.le_refl _, by simp⟩
    · rename_i hne
      obtain ⟨h1, h2⟩ := look_frOf h
      refine ⟨by omega, ?_⟩
      rw [show s - k = (s - (k + 1)) + 1 from by omega, List.getElem?_cons_succ]
      exact h2

theorem frOk_entry {E : Env} {l : List AV} {vs : List Value} (hl : vs.length = l.length) (h : ∀ (i : Nat) (av : AV), l[i]? = some av → ∃ v, vs[i]? = some v ∧ Slot E av v) (m : Nat) (ds : List Deferred) :
    FrOk E (frOf 0 l) { tmps := vs.toArray ++ Array.replicate m undef, defers := ds } := by
  intro s av hs
  obtain ⟨_, h2⟩ := look_frOf hs
  obtain ⟨v, h3, h4⟩ := h s av (by simpa using h2)
  refine ⟨v, ?_, h4⟩
  have hlt : s < vs.length := (List.getElem?_eq_some_iff.1 h3).1
  rw [Array.getElem?_append_left (by simpa using hlt)]
  simpa using h3

/-- What the machine reads as a result. -/
def resSem (tmps : Array Value) : ResultVar → Sem Value
  | .tmp t => pure (tmps.getD t undef)
  | .cell a t => do loadVar t (← asAddr (tmps.getD a undef))
theorem results_eq (f : Func) (tmps : Array Value) : results f tmps = (do
    let vs ← f.results.mapM (resSem tmps)
    pure (if h : vs.size = 1 then vs[0] else .tuple vs)) := rfl

/-- A result. -/
def resOne (T : Tbl) (fr : Fr) (objs : Objs) : ResultVar → Option AV
  | .tmp t => look t fr
  | .cell a t => match look a fr with
    | some p => (loadEff T objs t p).map (·.v)
    | none => none
def resList (T : Tbl) (fr : Fr) (objs : Objs) : List ResultVar → Option (List AV)
  | [] => some []
  | r :: rs => match resOne T fr objs r, resList T fr objs rs with
    | some v, some l => some (v :: l)
    | _, _ => none
def mkpr : List AV → AV
  | [] => .un
  | v :: r => .pr v (mkpr r)
def resAV (T : Tbl) (fr : Fr) (objs : Objs) (rs : List ResultVar) : Option AV :=
  match resList T fr objs rs with
  | some [v] => some v
  | some l => if l.all AV.ok = true then some (.tup (mkpr l)) else none
  | none => none

section
variable {C : Cx} {σ : St} {a : Act} {w : World}
theorem res_one (hT : TblOk C.P C.T) (hR : Rel C.w0 C.N C.as σ a w) {r : ResultVar} {v : AV} (h : resOne C.T σ.fr σ.objs r = some v) :
    ∃ u, (resSem a.tmps r).run C.P w = .ok u w ∧
      ∀ φ, Good C.w0 ⟨w, imm C.w0 w φ σ.objs, φ, σ.objs⟩ → FrOk ⟨w, imm C.w0 w φ σ.objs, φ, σ.objs⟩ σ.fr a → Slot ⟨w, imm C.w0 w φ σ.objs, φ, σ.objs⟩ v u := by
  cases r with
  | tmp t =>
    simp only [resOne] at h
    refine ⟨a.tmps.getD t undef, by simp [resSem], fun φ hg hf => ?_⟩
    obtain ⟨u, h1, h2⟩ := hf t v h
    simpa [Array.getD_eq_getD_getElem?, h1] using h2
  | cell b t =>
    simp only [resOne] at h
    cases hp : look b σ.fr with
    | none => rw [hp] at h; cases h
    | some p =>
      rw [hp] at h
      simp only [Option.map_eq_some_iff] at h
      obtain ⟨e, he, rfl⟩ := h
      have hev : ev C.T 0 σ.fr (.tmp b) = some p := hp
      have hR' := hR
      obtain ⟨⟨φ, hg, hf, _⟩, _⟩ := hR'
      obtain ⟨_, ad, u, h1, h2, _⟩ := load_key hT hev he hg hf
      have hadr : a.tmps.getD b undef = .pointer (some ad) := h1
      refine ⟨u, by simp only [resSem, hadr, asAddr, Sem.run_bind, Sem.run_pure, Result.andThen_ok, h2], fun φ2 hg2 hf2 => ?_⟩
      obtain ⟨_, ad2, u2, h3, h4, h5⟩ := load_key hT hev he hg2 hf2
      rw [h1] at h3
      cases h3
      rw [h2] at h4
      cases h4
      exact h5
end
end
end Go.Ab

namespace Go.Ab
noncomputable section
open Go Go.RowKit

section
variable {C : Cx} {σ : St} {a : Act} {w : World}

theorem Slot.pair {E : Env} {v : AV} {u : Value} (h : Slot E v u) (hok : v.ok = true) : (v.agg = true ∧ ∃ cs : List Value, u = .agg cs.toArray ∧ Rep E v false cs) ∨ (v.agg = false ∧ Rep E v false [u]) := by
  cases ha : v.agg with
  | true => obtain ⟨cs, h1, h2⟩ := h.toAgg ha; exact .inl ⟨rfl, cs, h1, h2⟩
  | false => exact .inr ⟨rfl, h.cell ha (AV.ok_ne hok).1 (AV.ok_ne hok).2⟩

theorem mkpr_rep {E : Env} : ∀ {l : List AV} {us : List Value}, l.all AV.ok = true → us.length = l.length → (∀ (i : Nat) (v : AV), l[i]? = some v → ∃ u, us[i]? = some u ∧ Slot E v u) → Rep E (mkpr l) true us
  | [], us, _, hl, _ => by
    have : us = [] := List.eq_nil_of_length_eq_zero hl
    subst this; rfl
  | v :: l, us, hok, hl, h => by
    cases us with
    | nil => cases hl
    | cons u us =>
      simp only [List.all_cons, Bool.and_eq_true] at hok
      obtain ⟨u', h1, h2⟩ := h 0 v (by simp)
      simp only [List.getElem?_cons_zero, Option.some.injEq] at h1
      subst h1
      exact ⟨u, us, rfl, h2.pair hok.1, mkpr_rep hok.2 (by simpa using hl) (fun i v hi => by
        obtain ⟨u', h3, h4⟩ := h (i + 1) v (by simpa using hi)
        exact ⟨u', by simpa using h3, h4⟩)⟩

theorem res_list (hT : TblOk C.P C.T) (hR : Rel C.w0 C.N C.as σ a w) : ∀ {rs : List ResultVar} {l : List AV}, resList C.T σ.fr σ.objs rs = some l →
    ∃ us, (rs.mapM (resSem a.tmps)).run C.P w = .ok us w ∧ us.length = l.length ∧
      ∀ φ, Good C.w0 ⟨w, imm C.w0 w φ σ.objs, φ, σ.objs⟩ → FrOk ⟨w, imm C.w0 w φ σ.objs, φ, σ.objs⟩ σ.fr a → ∀ (i : Nat) (v : AV), l[i]? = some v → ∃ u, us[i]? = some u ∧ Slot ⟨w, imm C.w0 w φ σ.objs, φ, σ.objs⟩ v u
  | [], l, h => by
    simp only [resList, Option.some.injEq] at h
    subst h
    exact ⟨[], by simp, rfl, fun φ _ _ i v hi => by simp at hi⟩
  | r :: rs, l, h => by
    simp only [resList] at h
    split at h
    · rename_i v l' hv hl
      simp only [Option.some.injEq] at h
      subst h
      obtain ⟨u, h1, h2⟩ := res_one hT hR hv
      obtain ⟨us, h3, h4, h5⟩ := res_list hT hR hl
      refine ⟨u :: us, ?_, by simp [h4], fun φ hg hf i x hi => ?_⟩
      · rw [List.mapM_cons, Sem.run_bind, h1, Result.andThen_ok, Sem.run_bind, h3, Result.andThen_ok]
        rfl
      · cases i with
        | zero =>
          simp only [List.getElem?_cons_zero, Option.some.injEq] at hi
          subst hi
          exact ⟨u, by simp, h2 φ hg hf⟩
        | succ i =>
          obtain ⟨u', h6, h7⟩ := h5 φ hg hf i x (by simpa using hi)
          exact ⟨u', by simpa using h6, h7⟩
    · cases h

theorem res_run (hT : TblOk C.P C.T) (hR : Rel C.w0 C.N C.as σ a w) {f : Func} {v : AV} (h : resAV C.T σ.fr σ.objs f.results.toList = some v) :
    ∃ u, (results f a.tmps).run C.P w = .ok u w ∧ ∀ φ, Good C.w0 ⟨w, imm C.w0 w φ σ.objs, φ, σ.objs⟩ → FrOk ⟨w, imm C.w0 w φ σ.objs, φ, σ.objs⟩ σ.fr a → Slot ⟨w, imm C.w0 w φ σ.objs, φ, σ.objs⟩ v u := by
  have main : ∀ {l : List AV}, resList C.T σ.fr σ.objs f.results.toList = some l → ∃ us : List Value, (results f a.tmps).run C.P w = .ok (if h : us.toArray.size = 1 then us.toArray[0] else .tuple us.toArray) w ∧ us.length = l.length ∧
      ∀ φ, Good C.w0 ⟨w, imm C.w0 w φ σ.objs, φ, σ.objs⟩ → FrOk ⟨w, imm C.w0 w φ σ.objs, φ, σ.objs⟩ σ.fr a → ∀ (i : Nat) (v : AV), l[i]? = some v → ∃ u, us[i]? = some u ∧ Slot ⟨w, imm C.w0 w φ σ.objs, φ, σ.objs⟩ v u := by
    intro l hl
    obtain ⟨us, h1, h2, h3⟩ := res_list hT hR hl
    refine ⟨us, ?_, h2, h3⟩
    rw [results_eq, Array.mapM_eq_mapM_toList]
    simp only [Sem.run_bind, map_eq_pure_bind, Sem.run_pure, h1, Result.andThen_ok]
  unfold resAV at h
  split at h
  · rename_i v' hl
    simp only [Option.some.injEq] at h
    subst h
    obtain ⟨us, h1, h2, h3⟩ := main hl
    match us, h2 with
    | [u], _ =>
      refine ⟨u, by simpa using h1, fun φ hg hf => ?_⟩
      obtain ⟨u', h4, h5⟩ := h3 φ hg hf 0 v' (by simp)
      simp only [List.getElem?_cons_zero, Option.some.injEq] at h4
      subst h4
      exact h5
  · rename_i l hl hne
    split at h
    · rename_i hok
      simp only [Option.some.injEq] at h
      subst h
      obtain ⟨us, h1, h2, h3⟩ := main hne
      have hn1 : ¬ us.toArray.size = 1 := by
        intro hs
        have : l.length = 1 := by rw [← h2]; simpa using hs
        match l, this with
        | [v], _ => exact hl v rfl
      rw [dif_neg hn1] at h1
      exact ⟨_, h1, fun φ hg hf => ⟨us, rfl, mkpr_rep hok h2 (h3 φ hg hf)⟩⟩
    · cases h
  · cases h
end

end
end Go.Ab

namespace Go.Ab
noncomputable section
open Go Go.RowKit

/-! ### The frame rule: a walk that sees only some of the objects -/
/-- The objects that a value names. -/
def avIds : AV → List Nat
  | .sl id => [id] | .sub id _ _ => [id] | .ptr id _ _ _ => [id] | .map id => [id]
  | .yld id => [id]
  | .pr a b => avIds a ++ avIds b | .fn _ c => avIds c | .tup vs => avIds vs
  | _ => []

/-- What a value says where only the objects that it names are the same. -/
theorem Rep.only {E E' : Env} (hI : ∀ b, E.I b → E'.I b) (hw : ∀ b, E.I b → E'.w.heap[b]? = E.w.heap[b]?) : ∀ {v : AV} {m : Bool} {cs : List Value}, (∀ id ∈ avIds v, E'.φ id = E.φ id ∧ look id E'.objs = look id E.objs) → Rep E v m cs → Rep E' v m cs := by
  intro v
  induction v with
  | dat t x => intro m cs _ h; cases m with
    | false => exact RepC.mono hI hw h
    | true => exact h.elim
  | pr a b iha ihb =>
    intro m cs hid h
    have h1 := fun id hi => hid id (List.mem_append_left (avIds b) hi)
    have h2 := fun id hi => hid id (List.mem_append_right (avIds a) hi)
    cases m with
    | false => obtain ⟨c, d, e, h3, h4⟩ := h; exact ⟨c, d, e, iha h1 h3, ihb h2 h4⟩
    | true =>
      obtain ⟨v, r, e, h3, h4⟩ := h
      refine ⟨v, r, e, ?_, ihb h2 h4⟩
      rcases h3 with ⟨ha, cs', hv, hr⟩ | ⟨ha, hr⟩
      · exact .inl ⟨ha, cs', hv, iha h1 hr⟩
      · exact .inr ⟨ha, iha h1 hr⟩
  | un => intro m cs _ h; cases m <;> exact h
  | nil t => intro m cs _ h; cases m <;> exact h
  | sl id => intro m cs hid h; cases m with
    | true => exact h.elim
    | false =>
      obtain ⟨e1, e2⟩ := hid id (by simp [avIds])
      obtain ⟨o, ho, hsh, h⟩ := h
      refine ⟨o, e2.trans ho, hsh, ?_⟩
      cases o <;> first | exact h | (rw [e1]; exact h)
  | sub id lo hi => intro m cs hid h; cases m with
    | true => exact h.elim
    | false =>
      obtain ⟨e1, e2⟩ := hid id (by simp [avIds])
      obtain ⟨o, ho, hsh, h⟩ := h
      refine ⟨o, e2.trans ho, hsh, ?_⟩
      cases o <;> first | exact h | (rw [e1]; exact h)
  | ptr id i off p => intro m cs hid h; cases m with
    | true => exact h.elim
    | false =>
      obtain ⟨e1, e2⟩ := hid id (by simp [avIds])
      obtain ⟨o, ho, h⟩ := h
      refine ⟨o, e2.trans ho, ?_⟩
      cases o <;> first | exact h | (rw [e1]; exact h)
  | pim t x => intro m cs _ h; cases m with
    | true => exact h.elim
    | false =>
      obtain ⟨b, o, c, e, hb, hr, hc⟩ := h
      refine ⟨b, o, c, e, hI _ hb, RepC.mono hI hw hr, fun j v hj => ?_⟩
      rw [World.cell?_of_block (w := E.w) (a := ⟨b, o + j, none⟩) (hw b hb)]
      exact hc j v hj
  | map id => intro m cs hid h; cases m with
    | true => exact h.elim
    | false =>
      obtain ⟨e1, e2⟩ := hid id (by simp [avIds])
      obtain ⟨o, ho, hsh, h⟩ := h
      refine ⟨o, e2.trans ho, hsh, ?_⟩
      cases o <;> first | exact h | (rw [e1]; exact h)
  | fn f caps ih => intro m cs hid h; cases m with
    | true => exact h.elim
    | false => obtain ⟨vs, e, h⟩ := h; exact ⟨vs, e, ih hid h⟩
  | nilfn => intro m cs _ h; cases m <;> exact h
  | nilp => intro m cs _ h; cases m <;> exact h
  | nilm => intro m cs _ h; cases m <;> exact h
  | yld id => intro m cs hid h; cases m with
    | true => exact h.elim
    | false =>
      obtain ⟨e1, e2⟩ := hid id (by simp [avIds])
      obtain ⟨o, ho, b, hb, h⟩ := h
      refine ⟨o, e2.trans ho, b, hb, ?_⟩
      cases o <;> first | exact h | (rw [e1]; exact h)
  | tup vs _ => intro m cs _ h; cases m <;> exact h.elim
  | any => intro m cs _ h; cases m <;> exact h

/-- The objects that a frame names. -/
def frIds : Fr → List Nat
  | [] => []
  | (_, v) :: r => avIds v ++ frIds r
def avsIds : List AV → List Nat
  | [] => []
  | v :: r => avIds v ++ avsIds r
/-- The objects that an object names. -/
def objIds : AObj → List Nat
  | .box v => avIds v
  | .vrow _ _ xs => avsIds xs
  | .vmap _ m => avsIds (m.map (·.2))
  | .lp _ fr => frIds fr
  | _ => []
theorem frIds_look : ∀ {fr : Fr} {s : Nat} {v : AV}, look s fr = some v → ∀ id ∈ avIds v, id ∈ frIds fr
  | (k, u) :: r, s, v, h, id, hid => by
    simp only [look_cons] at h
    split at h
    · cases h; exact List.mem_append_left _ hid
    · exact List.mem_append_right _ (frIds_look h id hid)
theorem avsIds_mem : ∀ {xs : List AV} {v : AV}, v ∈ xs → ∀ id ∈ avIds v, id ∈ avsIds xs
  | u :: r, v, h, id, hid => by
    rcases List.mem_cons.1 h with rfl | h
    · exact List.mem_append_left _ hid
    · exact List.mem_append_right _ (avsIds_mem h id hid)

theorem rep_ids {E : Env} : ∀ {v : AV} {m : Bool} {cs : List Value}, Rep E v m cs → ∀ id ∈ avIds v, ∃ o, look id E.objs = some o := by
  intro v
  induction v with
  | pr a b iha ihb =>
    intro m cs h id hi
    cases m with
    | false =>
      obtain ⟨c, d, e, h3, h4⟩ := h
      rcases List.mem_append.1 hi with hi | hi
      · exact iha h3 id hi
      · exact ihb h4 id hi
    | true =>
      obtain ⟨v, r, e, h3, h4⟩ := h
      rcases List.mem_append.1 hi with hi | hi
      · rcases h3 with ⟨_, cs', _, hr⟩ | ⟨_, hr⟩
        · exact iha hr id hi
        · exact iha hr id hi
      · exact ihb h4 id hi
  | sl j => intro m cs h id hi; cases m with
    | true => exact h.elim
    | false => obtain ⟨o, ho, _⟩ := h; simp [avIds] at hi; subst hi; exact ⟨o, ho⟩
  | sub j lo hi' => intro m cs h id hi; cases m with
    | true => exact h.elim
    | false => obtain ⟨o, ho, _⟩ := h; simp [avIds] at hi; subst hi; exact ⟨o, ho⟩
  | ptr j i off p => intro m cs h id hi; cases m with
    | true => exact h.elim
    | false => obtain ⟨o, ho, _⟩ := h; simp [avIds] at hi; subst hi; exact ⟨o, ho⟩
  | map j => intro m cs h id hi; cases m with
    | true => exact h.elim
    | false => obtain ⟨o, ho, _⟩ := h; simp [avIds] at hi; subst hi; exact ⟨o, ho⟩
  | yld j => intro m cs h id hi; cases m with
    | true => exact h.elim
    | false => obtain ⟨o, ho, _⟩ := h; simp [avIds] at hi; subst hi; exact ⟨o, ho⟩
  | fn f caps ih => intro m cs h id hi; cases m with
    | true => exact h.elim
    | false => obtain ⟨vs, e, h⟩ := h; exact ih h id hi
  | tup vs _ => intro m cs h; cases m <;> exact h.elim
  | _ => intro m cs _ id hi; simp [avIds] at hi
theorem slot_ids {E : Env} {v : AV} {u : Value} (h : Slot E v u) : ∀ id ∈ avIds v, ∃ o, look id E.objs = some o := by
  unfold Slot at h
  split at h
  · rename_i vs; obtain ⟨l, _, h⟩ := h; exact rep_ids (v := vs) h
  · intro id hi; simp [avIds] at hi
  · rcases h with ⟨_, cs, _, h⟩ | ⟨_, h⟩
    · exact rep_ids h
    · exact rep_ids h
theorem frOk_ids {E : Env} {fr : Fr} {a : Act} (h : FrOk E fr a) {s : Nat} {v : AV} (hl : look s fr = some v) : ∀ id ∈ avIds v, ∃ o, look id E.objs = some o := by
  obtain ⟨u, _, hs⟩ := h s v hl
  exact slot_ids hs

theorem Slot.only {E E' : Env} (hI : ∀ b, E.I b → E'.I b) (hw : ∀ b, E.I b → E'.w.heap[b]? = E.w.heap[b]?) {v : AV} {u : Value}
    (hid : ∀ id o, look id E.objs = some o → id ∈ avIds v → E'.φ id = E.φ id ∧ look id E'.objs = look id E.objs) (h : Slot E v u) : Slot E' v u := by
  have key : ∀ {x : AV} {m : Bool} {cs : List Value}, (∀ id ∈ avIds x, id ∈ avIds v) → Rep E x m cs → Rep E' x m cs := by
    intro x m cs hx hr
    refine Rep.only hI hw (fun id hi => ?_) hr
    obtain ⟨o, ho⟩ := rep_ids hr id hi
    exact hid id o ho (hx id hi)
  unfold Slot at h ⊢
  split
  · obtain ⟨l, e, h⟩ := h; exact ⟨l, e, key (fun _ h => h) h⟩
  · trivial
  · rename_i h1 h2
    split at h
    · exact absurd rfl (h1 _)
    · exact absurd rfl h2
    · rcases h with ⟨ha, cs, hv, hr⟩ | ⟨ha, hr⟩
      · exact .inl ⟨ha, cs, hv, key (fun _ h => h) hr⟩
      · exact .inr ⟨ha, key (fun _ h => h) hr⟩

/-- What an object says where only the objects that it names are the same. -/
theorem ObjRep.only {E E' : Env} {ow ow' : Nat → Prop} {id : Nat} {o : AObj} (hI : ∀ b, E.I b → E'.I b) (hw : ∀ b, E.I b → E'.w.heap[b]? = E.w.heap[b]?) (hφ : E'.φ id = E.φ id)
    (hids : ∀ j ∈ objIds o, ∀ q, look j E.objs = some q → E'.φ j = E.φ j ∧ look j E'.objs = look j E.objs) (hown : o.live = true → ∀ b, blk (E.φ id) = some b → ow b → ow' b ∧ E'.w.heap[b]? = E.w.heap[b]?) (h : ObjRep E ow id o) : ObjRep E' ow' id o := by
  have only : ∀ {v : AV} {cs : List Value}, (∀ j ∈ avIds v, j ∈ objIds o) → Rep E v false cs → Rep E' v false cs := fun hv hr =>
    Rep.only hI hw (fun j hj => by obtain ⟨q, hq⟩ := rep_ids hr j hj; exact hids j (hv j hj) q hq) hr
  cases o with
  | box v =>
    obtain ⟨b, cells, ty, h1, h2, h3, h4⟩ := h
    obtain ⟨k1, k2⟩ := hown rfl b (by rw [h1]; rfl) h2
    exact ⟨b, cells, ty, hφ.trans h1, k1, k2.trans h3, only (fun _ h => h) h4⟩
  | row e t xs =>
    obtain ⟨cells, h1, h2, h3⟩ := h
    refine ⟨cells, RepL.imp (fun _ _ => RepC.mono hI hw) h1, h2, ?_⟩
    rcases h3 with ⟨h3, ad, h4⟩ | ⟨g, cap, cur, h3, h4, h5, h6⟩
    · exact .inl ⟨h3, ad, hφ.trans h4⟩
    · obtain ⟨k1, k2⟩ := hown rfl g (by rw [h3]; rfl) h4
      exact .inr ⟨g, cap, cur, hφ.trans h3, k1, k2.trans h5, h6⟩
  | frz t xs =>
    show RepC _ _ _ _ [E'.φ id]
    rw [hφ]
    exact RepC.mono (t := .lst t) hI hw h
  | map k v m =>
    obtain ⟨b, es, clock, h1, h2, h3, h4, h5⟩ := h
    obtain ⟨k1, k2⟩ := hown rfl b (by rw [h1]; rfl) h2
    exact ⟨b, es, clock, hφ.trans h1, k1, k2.trans h3, h4, MapRep.mono hI hw h5⟩
  | vmap k m =>
    obtain ⟨b, es, clock, h1, h2, h3, h4, h5⟩ := h
    obtain ⟨k1, k2⟩ := hown rfl b (by rw [h1]; rfl) h2
    exact ⟨b, es, clock, hφ.trans h1, k1, k2.trans h3, h4, MapG.imp (fun _ _ h => VR.mono0 hI hw h) (fun p hp _ h => ⟨h.1, Slot.only hI hw (fun j q hq hj => hids j (avsIds_mem (List.mem_map.2 ⟨p, hp, rfl⟩) j hj) q hq) h.2⟩) h5⟩
  | vrow e sz xs =>
    obtain ⟨cells, h1, h2, h3⟩ := h
    refine ⟨cells, RepL.imp_mem (fun x hx c hc => ⟨only (fun j hj => avsIds_mem hx j hj) hc.1, hc.2⟩) h1, h2, ?_⟩
    rcases h3 with ⟨h3, ad, h4⟩ | ⟨g, cap, cur, h3, h4, h5, h6⟩
    · exact .inl ⟨h3, ad, hφ.trans h4⟩
    · obtain ⟨k1, k2⟩ := hown rfl g (by rw [h3]; rfl) h4
      exact .inr ⟨g, cap, cur, hφ.trans h3, k1, k2.trans h5, h6⟩
  | lp L fr =>
    obtain ⟨b, l, h1, h2, h3, h4⟩ := h
    obtain ⟨k1, k2⟩ := hown rfl b (by rw [h1]; rfl) h2
    obtain ⟨q2, q3, q4, q5, q6, q7, q8⟩ := h4
    refine ⟨b, l, hφ.trans h1, k1, k2.trans h3, q2, q3, q4, q5, q6, q7, fun s av hl => ?_⟩
    obtain ⟨v, k3, k4⟩ := q8 s av hl
    exact ⟨v, k3, Slot.only hI hw (fun j q hq hj => hids j (frIds_look hl j hj) q hq) k4⟩
  | mark =>
    obtain ⟨b, h1, h2, h3⟩ := h
    obtain ⟨k1, k2⟩ := hown rfl b (by rw [h1]; rfl) h2
    exact ⟨b, hφ.trans h1, k1, k2.trans h3⟩
  | dead => trivial
end
end Go.Ab
