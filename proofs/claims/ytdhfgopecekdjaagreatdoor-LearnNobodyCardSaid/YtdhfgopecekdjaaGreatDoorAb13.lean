/- An abstract executor for the machine: part 13 of its soundness, for every program and table. -/
import Derived.Test.YtdhfgopecekdjaaGreatDoorAb12
namespace Go.Ab
noncomputable section
open Go Go.RowKit

/-- yield's arguments in the loop's parameters. -/
def setPs : List Tmp → List AV → Fr → Fr
  | t :: ts, v :: vs, fr => setPs ts vs ((t, v) :: fr)
  | _, _, fr => fr
def setVs : List Tmp → List Value → Array Value → Array Value
  | t :: ts, v :: vs, a => setVs ts vs (a.setIfInBounds t v)
  | _, _, a => a
theorem setVs_size : ∀ (ts : List Tmp) (vs : List Value) (a : Array Value), (setVs ts vs a).size = a.size
  | [], _, _ => rfl
  | _ :: _, [], _ => rfl
  | t :: ts, v :: vs, a => by simp only [setVs]; rw [setVs_size ts vs]; simp
theorem foldl_setVs : ∀ (ts : List Tmp) (vs : List Value) (a : Array Value), (ts.zip vs).foldl (fun (tmps : Array Value) (p : Tmp × Value) => tmps.setIfInBounds p.1 p.2) a = setVs ts vs a
  | [], _, _ => rfl
  | _ :: _, [], _ => rfl
  | t :: ts, v :: vs, a => by simp only [List.zip_cons_cons, List.foldl_cons, setVs]; exact foldl_setVs ts vs _
theorem frOk_set {E : Env} : ∀ (ts : List Tmp) (la : List AV) (vs : List Value) (fr : Fr) (a : Array Value), vs.length = la.length → (∀ t ∈ ts, t < a.size) → (∀ (i : Nat) (av : AV), la[i]? = some av → ∃ v, vs[i]? = some v ∧ Slot E av v) →
    (∀ s av, look s fr = some av → ∃ v, a[s]? = some v ∧ Slot E av v) → ∀ s av, look s (setPs ts la fr) = some av → ∃ v, (setVs ts vs a)[s]? = some v ∧ Slot E av v
  | [], _, _, _, _, _, _, _, h => h
  | _ :: _, [], [], _, _, _, _, _, h => h
  | _ :: _, [], _ :: _, _, _, hl, _, _, _ => by simp at hl
  | _ :: _, _ :: _, [], _, _, hl, _, _, _ => by simp at hl
  | t :: ts, v :: la, u :: vs, fr, a, hl, ht, hv, h => by
    simp only [setPs, setVs]
    refine frOk_set ts la vs ((t, v) :: fr) (a.setIfInBounds t u) (by simpa using hl) (fun t' h' => by rw [Array.size_setIfInBounds]; exact ht t' (by simp [h'])) (fun i av hi => ?_) (fun s av hs => ?_)
    · obtain ⟨x, h1, h2⟩ := hv (i + 1) av (by simpa using hi)
      exact ⟨x, by simpa using h1, h2⟩
    · simp only [look_cons] at hs
      split at hs
      · rename_i he
        subst he
        cases hs
        obtain ⟨x, h1, h2⟩ := hv 0 v (by simp)
        simp only [List.getElem?_cons_zero, Option.some.injEq] at h1
        subst h1
        exact ⟨u, by rw [Array.getElem?_setIfInBounds_self_of_lt (ht s (by simp))], h2⟩
      · rename_i he
        obtain ⟨x, h1, h2⟩ := h s av hs
        exact ⟨x, by rw [Array.getElem?_setIfInBounds_ne (by omega)]; exact h1, h2⟩

/-- The record of a range over a function turns. -/
theorem lp_set {w0 : Base} {w : World} {φ : Nat → Value} {objs : Objs} (h : Good w0 ⟨w, imm w0 w φ objs, φ, objs⟩) {id b : Nat} {L L' : LRec} {fr : Fr} {l l' : Loop} (hl : look id objs = some (.lp L fr)) (hφ : φ id = .map (some b)) (hheap : w.heap[b]? = some (.loop l))
    (hrep : LpRep ⟨w, imm w0 w φ objs, φ, objs⟩ L' fr l') : Good w0 ⟨w.putObj b (.loop l'), imm w0 (w.putObj b (.loop l')) φ ((id, .lp L' fr) :: objs), φ, (id, .lp L' fr) :: objs⟩ ∧
      EnvLe ⟨w, imm w0 w φ objs, φ, objs⟩ ⟨w.putObj b (.loop l'), imm w0 (w.putObj b (.loop l')) φ ((id, .lp L' fr) :: objs), φ, (id, .lp L' fr) :: objs⟩ := by
  have hb : b < w.heap.size := (Array.getElem?_eq_some_iff.1 hheap).1
  obtain ⟨b', l0, h1, h2, _, _⟩ := h.obj id _ hl
  have hbb : b' = b := by have := h1.symm.trans hφ; simpa using this
  subst hbb
  refine Good.setObj h hl rfl trivial rfl (b := b') (by rw [hφ]; rfl) rfl rfl rfl (by simp) (fun k hk => World.putObj_heap_other hk) (fun E' hw hφE hle => ⟨b', l', by rw [hφE]; exact hφ, h2, by rw [hw]; exact World.putObj_heap_same hb, LpRep.mono h.shaped hle hrep⟩)

/-- The end of a round: the record, and what yield hands back. -/
def roundEnd : Exit → Option (Bool × LSt × Option Code)
  | .normal => some (true, .ready, none)
  | .ret => some (false, .done, some .ret)
  | .exit j => some (false, .done, some (.exit j))
  | _ => none
def RoundF (kp : Nat → Bool) (id : Nat) (objs0 : Objs) (R : AV → Objs → Prop) (e : Exit) (τ : St) : Prop :=
  ∃ r st pend L fr, roundEnd e = some (r, st, pend) ∧ look id τ.objs = some (.lp L fr) ∧ KeepOk kp objs0 R (.dat .bool r) ((id, .lp { L with st := st, pend := pend } fr) :: τ.objs)
theorem KeepOk.mono {kp : Nat → Bool} {objs0 objs1 : Objs} {R : AV → Objs → Prop} {v : AV} {objsP : Objs} (h : ∀ v objs', R v objs' → ∀ id o, look id objs' = some o → look id objs0 = none → look id objs1 = none) (hh : KeepOk kp objs0 R v objsP) : KeepOk kp objs1 R v objsP := by
  obtain ⟨objs', keep, h4, h5, h6, h7, h8, h9⟩ := hh
  exact ⟨objs', keep, h4, h5, h6, h7, fun id o ho => (h8 id o ho).imp_right (h v objs' h9 id o ho), h9⟩
/-- A round's body, walked from only some of the objects. -/
def RoundRuns (C : Cx) (F : Fence) (n : Nat) (kp : Nat → Bool) (id : Nat) (objs0 small : Objs) (L : LRec) (fr : Fr) (la : List AV) (R : AV → Objs → Prop) : Prop :=
  ∀ (w1 : Base) (b : Nat), Runs { C with w0 := w1, N := L.n, as := [] } (F.inRound b) n L.assign { fr := setPs L.params.toList la fr, objs := small } (fun e τ => e = .normal ∧ ∃ L1 fr1, look id τ.objs = some (.lp L1 fr1) ∧ L1.st = .ready ∧
    Runs { C with w0 := w1, N := L.n, as := [] } (F.inRound b) n L.body { τ with objs := (id, .lp { L1 with st := .busy } fr1) :: τ.objs } (RoundF kp id objs0 R))

section
variable {C : Cx} {F : Fence} {n : Nat} {ops : Array Oper} {i : Nat} {o : Oper} {σ : St}

theorem round_core (hF : WF F) {m : Nat} {id b : Nat} {L : LRec} {fr : Fr} {l : Loop} {w : World} {φ : Nat → Value} {objs small : Objs} {kp : Nat → Bool} (hg : Good C.w0 ⟨w, imm C.w0 w φ objs, φ, objs⟩) (hlp : look id objs = some (.lp L fr)) (hφ : φ id = .map (some b)) (hheap : w.heap[b]? = some (.loop l))
    (hrep : LpRep ⟨w, imm C.w0 w φ objs, φ, objs⟩ L fr l) (hs : ∀ id, look id small = if kp id = true then look id objs else none) (hcl : ∀ id o, look id small = some o → ∀ j ∈ objIds o, kp j = true) (hkid : kp id = true)
    {la : List AV} (hl : ∀ v ∈ la, ∀ j ∈ avIds v, kp j = true) (hpN : ∀ t ∈ L.params.toList, t < L.n) {R : AV → Objs → Prop} (hrun : RoundRuns C F m kp id objs small L fr la R)
    {vs : List Value} (hvl : vs.length = la.length) (hvs : ∀ (i : Nat) (av : AV), la[i]? = some av → ∃ v, vs[i]? = some v ∧ Slot ⟨w, imm C.w0 w φ objs, φ, objs⟩ av v) {RR : Ending → World → Prop}
    (hK : ∀ v objs', R v objs' → ∀ u w' φ', Good C.w0 ⟨w', imm C.w0 w' φ' (objs' ++ objs), φ', objs' ++ objs⟩ → EnvLe ⟨w, imm C.w0 w φ objs, φ, objs⟩ ⟨w', imm C.w0 w' φ' (objs' ++ objs), φ', objs' ++ objs⟩ →
      Slot ⟨w', imm C.w0 w' φ' (objs' ++ objs), φ', objs' ++ objs⟩ v u → RR (.returned u) w') :
    RoundIn F m C.P b l.fn (setVs L.params.toList vs l.tmps) l.assign l.body w RR := by
  obtain ⟨hin, hstart, hslots⟩ := enter_core hg hs hcl
  obtain ⟨q1, q2, q3, q4, q5, q6, q7⟩ := hrep
  have hargs : ∀ (i : Nat) (av : AV), la[i]? = some av → ∃ v, vs[i]? = some v ∧ Slot ⟨w, imm (subBase C.w0 w φ objs kp small) w φ small, φ, small⟩ av v := by
    intro i av hi
    obtain ⟨v, h1, h2⟩ := hvs i av hi
    exact ⟨v, h1, hslots (hl av (List.mem_of_getElem? hi)) h2⟩
  have hsmall : look id small = some (.lp L fr) := by rw [hs, if_pos hkid]; exact hlp
  have hfr : ∀ s av, look s fr = some av → ∃ v, l.tmps[s]? = some v ∧ Slot ⟨w, imm (subBase C.w0 w φ objs kp small) w φ small, φ, small⟩ av v := by
    intro s av hsl
    obtain ⟨v, h1, h2⟩ := q7 s av hsl
    exact ⟨v, h1, hslots (fun j hj => hcl id _ hsmall j (frIds_look hsl j hj)) h2⟩
  have hrel : Rel (subBase C.w0 w φ objs kp small) L.n [] { fr := setPs L.params.toList la fr, objs := small } { tmps := setVs L.params.toList vs l.tmps, defers := [] } w :=
    ⟨⟨φ, hin, frOk_set _ _ _ _ _ hvl (by rw [q6]; exact hpN) hargs hfr, hstart, trivial, rfl⟩, by rw [setVs_size]; exact q6, trivial⟩
  refine roundIn_of_wpIn (hF.fn _) ?_
  rw [q2, q3]
  have h0 := hrun (subBase C.w0 w φ objs kp small) b
  refine wpIn_mono (h0 _ w hrel) (fun e a1 w1 hh => ?_)
  obtain ⟨τ, ⟨rfl, L1, fr1, hl1, hst1, hbody⟩, hR1⟩ := hh
  -- the round begins
  obtain ⟨⟨φ1, hg1, hf1, hle1, _, hm1⟩, hN1⟩ := hR1
  have hφ1 : φ1 id = .map (some b) := by
    have := (hle1.φ id _ hsmall).1
    exact this.trans hφ
  obtain ⟨b1, l1, k1, k2, k3, k4⟩ := hg1.obj id _ hl1
  have hb1 : b1 = b := by have := k1.symm.trans hφ1; simpa using this
  subst hb1
  have hready : l1.state = .ready := by obtain ⟨_, _, _, _, k5, _⟩ := k4; rw [k5, hst1]
  refine ⟨_, run_beginRound k3 hready, ?_⟩
  obtain ⟨g2, e2⟩ := lp_set (L' := { L1 with st := .busy }) (l' := { l1 with state := .busy }) hg1 hl1 hφ1 k3 (by obtain ⟨c1, c2, c3, c4, c5, c6, c7⟩ := k4; exact ⟨c1, c2, c3, c4, rfl, c6, c7⟩)
  have hhid : HidOk (subBase C.w0 w φ objs kp small).start ⟨w1.putObj b1 (.loop { l1 with state := .busy }), imm (subBase C.w0 w φ objs kp small) (w1.putObj b1 (.loop { l1 with state := .busy })) φ1 ((id, .lp { L1 with st := .busy } fr1) :: τ.objs), φ1, (id, .lp { L1 with st := .busy } fr1) :: τ.objs⟩ τ.hid [] τ.mks a1.defers := by
    refine ⟨hle1.trans e2, ?_, hm1.mono e2⟩
    rename_i hh1
    exact HidFr.mono hg1.shaped e2 hh1
  refine wpIn_mono (hbody a1 _ ⟨⟨φ1, g2, hf1.mono hg1.shaped e2, hhid⟩, hN1⟩) (fun e a2 w2 hh => ?_)
  obtain ⟨τ2, ⟨r, st, pend, L2, fr2, hend, hl2, hkeep⟩, hR2⟩ := hh
  obtain ⟨⟨φ2, hg2, _, hle2, _, _⟩, _⟩ := hR2
  have hφ2 : φ2 id = .map (some b1) := by
    have := (hle2.φ id _ hsmall).1
    exact this.trans hφ
  obtain ⟨b2, l2, j1, j2, j3, j4⟩ := hg2.obj id _ hl2
  have hb2 : b2 = b1 := by have := j1.symm.trans hφ2; simpa using this
  subst hb2
  have fin : ∀ (l' : Loop), LpRep ⟨w2, imm (subBase C.w0 w φ objs kp small) w2 φ2 τ2.objs, φ2, τ2.objs⟩ { L2 with st := st, pend := pend } fr2 l' → RR (.returned (.bool r)) (w2.putObj b2 (.loop l')) := by
    intro l' hl'
    obtain ⟨g3, e3⟩ := lp_set (L' := { L2 with st := st, pend := pend }) (l' := l') hg2 hl2 hφ2 j3 hl'
    obtain ⟨objs', φ4, c1, c2, c3, c4⟩ := leave_core hg hs g3 (hle2.trans e3) (v := .dat .bool r) (u := .bool r) (Slot.mkBool r) hkeep
    exact hK _ objs' c1 _ _ φ4 c2 c3 c4
  obtain ⟨c1, c2, c3, c4, c5, c6, c7⟩ := j4
  cases e with
  | normal =>
    simp only [roundEnd, Option.some.injEq, Prod.mk.injEq] at hend
    obtain ⟨rfl, rfl, rfl⟩ := hend
    exact ⟨_, _, run_endRound none j3, fin _ ⟨c1, c2, c3, rfl, rfl, c6, c7⟩⟩
  | ret =>
    simp only [roundEnd, Option.some.injEq, Prod.mk.injEq] at hend
    obtain ⟨rfl, rfl, rfl⟩ := hend
    exact ⟨_, _, run_endRound (some .ret) j3, fin _ ⟨c1, c2, c3, rfl, rfl, c6, c7⟩⟩
  | exit j =>
    simp only [roundEnd, Option.some.injEq, Prod.mk.injEq] at hend
    obtain ⟨rfl, rfl, rfl⟩ := hend
    exact ⟨_, _, run_endRound (some (.exit j)) j3, fin _ ⟨c1, c2, c3, rfl, rfl, c6, c7⟩⟩
  | _ => simp [roundEnd] at hend
end
end
end Go.Ab

namespace Go.Ab
noncomputable section
open Go Go.RowKit

section
variable {C : Cx} {F : Fence} {n : Nat} {ops : Array Oper} {i : Nat} {o : Oper} {σ : St}

/-- The operation 'call' of a range's yield. -/
theorem round_firesF (hF : WF F) (hi : ops[i]? = some o) {g : Operand} {args : Array Operand} {argTypes : Array TypeId} (hop : o.op = .call { callee := .value g, args, argTypes })
    (hgd : guardSays ops σ.fr o.guard = some true) (hd : ∀ t, o.dst = some t → t < C.N)
    {id : Nat} {la : List AV} (hg : ev C.T 0 σ.fr g = some (.yld id)) (hlen : args.size = argTypes.size) (hargs : argsAV C.T σ.fr (args.toList.zip argTypes.toList) = some la)
    {L : LRec} {fr : Fr} (hlp : look id σ.objs = some (.lp L fr)) (hps : la.length = L.params.size) (hpN : ∀ t ∈ L.params.toList, t < L.n) {kp : List Nat} {small : Objs}
    (hs : ∀ id, look id small = if kp.contains id = true then look id σ.objs else none) (hcl : ∀ id o, look id small = some o → ∀ j ∈ objIds o, kp.contains j = true) (hkid : kp.contains id = true) (hl : ∀ v ∈ la, ∀ j ∈ avIds v, kp.contains j = true) {v0 : AV} {objs0 : Objs}
    (hrun : RoundRuns C F (n - 1) kp.contains id σ.objs small L fr la (fun v objs' => v = v0 ∧ objs' = objs0)) :
    FiresF C F n ops i (callEff v0 objs0 kp).ev σ := by
  refine ⟨fun id q h => ?_, fun τ hsl hob _ a w Q K hR hK => ?_⟩
  · simp only [Eff.ev, callEff, List.contains_eq_mem, decide_eq_true_eq, List.mem_append]
    exact .inr (List.mem_map.2 ⟨_, h, rfl⟩)
  have hobk : ∀ id, kp.contains id = true ∨ id ∈ objs0.map (·.1) → look id τ.objs = look id σ.objs := fun id h => hob id (.inr (by
    simp only [Eff.ev, callEff, List.contains_eq_mem, decide_eq_true_eq, List.mem_append]
    exact h.imp_left (by simp)))
  have hevs := ev_agree (T := C.T) hi hsl
  have hopr : ∀ x, x = g ∨ x ∈ args → ∀ t, ev C.T t τ.fr x = ev C.T t σ.fr x := fun x hx => hevs x (by
    rw [hop]; simp only [Op.operands, Call.operands, Array.mem_append]
    rcases hx with rfl | hx
    · exact .inl (by simp)
    · exact .inr hx)
  have hg' : ev C.T 0 τ.fr g = some (.yld id) := by rw [hopr g (.inl rfl)]; exact hg
  have hargs' : argsAV C.T τ.fr (args.toList.zip argTypes.toList) = some la := by
    rw [argsAV_agree (fr := σ.fr) (fun p hp => hopr p.1 (.inr (Array.mem_toList_iff.1 (List.of_mem_zip hp).1)))]; exact hargs
  have hlp' : look id τ.objs = some (.lp L fr) := (hobk id (.inl hkid)).trans hlp
  have hw : Region.wanted o (yielded ops a.tmps) = true := by
    obtain ⟨⟨φ, hg', hf, _⟩, _⟩ := hR
    exact wanted_of hf (by rw [guard_agree hi hsl]; exact hgd)
  obtain ⟨⟨φ, hgd', hf, hh⟩, hNN⟩ := hR
  obtain ⟨ob, hob', b, hfv, hφ⟩ := (ev_slot hf hg').cell rfl (by simp) (by simp)
  have : ob = .lp L fr := by have := hob'.symm.trans hlp'; cases this; rfl
  subst this
  replace hφ : φ id = .map (some b) := hφ
  have hfv' : a.eval g = .func (.yield b) #[] #[] := by simpa using hfv
  obtain ⟨b', l, h1, h2, h3, h4⟩ := hgd'.obj id _ hlp'
  have hbb : b' = b := by have := h1.symm.trans hφ; simpa using this
  subst hbb
  obtain ⟨k1, k2⟩ := args_slots hf hargs'
  have hpl : (args.toList.zip argTypes.toList).map (·.1) = args.toList := zip_fst (by simpa using hlen)
  have hmap : (args.toList.zip argTypes.toList).map (fun p => a.eval p.1) = args.toList.map a.eval := by
    rw [show (args.toList.zip argTypes.toList).map (fun p => a.eval p.1) = ((args.toList.zip argTypes.toList).map (·.1)).map a.eval from by rw [List.map_map]; rfl, hpl]
  rw [hmap] at k2
  have hla : (args.toList.map a.eval).length = la.length := by rw [k1, ← hmap, List.length_map]
  have hpar : l.params = L.params := h4.1
  have hsz : (args.map a.eval).size = l.params.size := by
    rw [hpar, ← hps, ← hla]; simp
  have hexec : (execOp a.eval o).run C.P w = .ok (.round b' l.fn (setVs L.params.toList (args.toList.map a.eval) l.tmps) l.assign l.body) w := by
    have hy := run_yield (P := C.P) h3 hsz
    have e1 : (l.params.zip (args.map a.eval)).foldl (fun (tmps : Array Value) (p : Tmp × Value) => tmps.setIfInBounds p.1 p.2) l.tmps = setVs L.params.toList (args.toList.map a.eval) l.tmps := by
      rw [← foldl_setVs, ← Array.foldl_toList, hpar]
      congr 1
      simp
    rw [← e1]
    simp only [execOp, hop, resolve, hfv', Deferred.ofValue, Sem.run_bind, Sem.run_pure, Result.andThen_ok, invoke]
    simpa using hy
  unfold wpOpIn
  simp only [hi, hw, if_true]
  refine ⟨fun f _ => hF.fn f, ?_⟩
  rw [Oper.semAt_eq _ _ _ (by intro c hc; rw [hop] at hc; cases hc), hexec, Oper.uponIn_round]
  refine ⟨fun h => (by rw [hF.depth] at h; cases h), ?_⟩
  refine round_core hF hgd' hlp' hφ h3 h4 (kp := kp.contains) (small := small) (fun id => ?_) hcl hkid hl hpN (R := fun v objs' => v = v0 ∧ objs' = objs0) (fun w1 b => (hrun w1 b).mono ?_) hla k2 ?_
  · rw [hs]
    split
    · rename_i hk; rw [hobk id (.inl hk)]
    · rfl
  · rintro e τ' ⟨rfl, L1, fr1, j1, j2, j3⟩
    refine ⟨rfl, L1, fr1, j1, j2, j3.mono ?_⟩
    rintro e' τ2 ⟨r, st, pend, L2, fr2, j4, j5, j6⟩
    refine ⟨r, st, pend, L2, fr2, j4, j5, KeepOk.mono ?_ j6⟩
    rintro v objs' ⟨rfl, rfl⟩ id o ho hn
    rw [hobk id (.inr (mem_of_look ho))]; exact hn
  · rintro v objs' ⟨rfl, rfl⟩ u w' φ' hg2 hle hsl2
    refine hK _ _ ?_
    simp only [hi, Option.bind_some]
    exact ⟨⟨φ', hg2, (hf.mono hgd'.shaped hle).put (by rw [hNN.1]; exact hd) hsl2, by rw [defers_put]; exact hh.mono hgd'.shaped hle⟩, by rw [size_put]; exact hNN⟩

/-- What stands behind a range over a function. -/
def jumpQ (Q : Exit → St → Prop) (σ : St) : Option Code → Prop
  | none => Q .normal σ
  | some .ret => Q .ret σ
  | some (.exit j) => Q (.exit j) σ
  | _ => False

/-- The statement 'for .. := range g { .. }'. -/
theorem runs_rangeFunc (hT : TblOk C.P C.T) (hF : WF F) (hro : F.round = none) {g : Operand} {ps : Array Tmp} {assign body : Code} {Q : Exit → St → Prop}
    {f : FuncId} {caps : AV} {lc : List AV} (hg : ev C.T 0 σ.fr g = some (.fn f caps)) (hcaps : unpr caps = some lc)
    {fn : Func} {c : Code} (hfn : C.P.funcs[f]? = some fn) (hbody : fn.body = some c) (hname : (fn.name == "runtime.NumGoroutine") = false) {lid mid : Nat} (hne : lid ≠ mid) (hlf : look lid σ.objs = none) (hmf : look mid σ.objs = none)
    (hN : (AV.yld lid :: lc).length ≤ fn.ntmps) {L : LRec} (hL : L = { n := C.N, params := ps, assign := assign, body := body, st := .ready, pend := none }) {objs1 : Objs} (ho1 : objs1 = (lid, .lp L σ.fr) :: (mid, .mark) :: σ.objs) {kp : List Nat} {small : Objs}
    (hs : ∀ id, look id small = if kp.contains id = true then look id objs1 else none) (hcl : ∀ id o, look id small = some o → ∀ j ∈ objIds o, kp.contains j = true) (hl : ∀ v ∈ AV.yld lid :: lc, ∀ j ∈ avIds v, kp.contains j = true)
    (hrun : ∀ w1 : Base, Runs { C with w0 := w1, N := fn.ntmps, as := [] } F.plain (n - 1) c { fr := frOf 0 (AV.yld lid :: lc), objs := small } (RetF C.T kp.contains objs1 fn.results.toList
      (fun _ objs' => ∃ L2 fr2, look lid (objs' ++ objs1) = some (.lp L2 fr2) ∧ (match L2.st with | .busy => False | _ => True) ∧ jumpQ Q { σ with objs := (lid, .dead) :: (objs' ++ objs1), mks := mid :: σ.mks } L2.pend))) :
    Runs C F n (.rangeFunc g ps assign body) σ Q := by
  intro a w hR
  obtain ⟨⟨φ, hgd, hf, hh⟩, hNN⟩ := hR
  refine wpIn_rangeFunc (fun fnId _ => ?_)
  obtain ⟨vc, hfv, hvc⟩ := (ev_slot hf hg).cell rfl (by simp) (by simp)
  have hfv' : a.eval g = .func (.func f) #[] vc.toArray := by simpa using hfv
  -- the two blocks
  have m1 := Good.add hgd hmf (o := .mark) (hdr := .map (some w.heap.size)) (w' := w.alloc (.deferred (some []))) ((Below.refl _ w).alloc (Nat.le_refl _) _) (fun b hb => by simp [blk] at hb; omega) (fun _ b hb => by simp [blk] at hb; subst hb; simp)
    (fun E' hw hφ _ _ => ⟨w.heap.size, hφ, Or.inl hgd.below.size, by rw [hw]; exact heap_new _ _⟩)
  obtain ⟨g1, e1⟩ := m1
  generalize hφ1 : (fun j => if j = mid then Value.map (some w.heap.size) else φ j) = φ1 at g1 e1
  have hlf1 : look lid ((mid, AObj.mark) :: σ.objs) = none := by simp only [look_cons, if_neg hne]; exact hlf
  let l0 : Loop := { state := .ready, pending := none, fn := fnId, tmps := a.tmps, params := ps, assign, body, defers := w.heap.size }
  have m2 := Good.add g1 hlf1 (o := .lp L σ.fr) (hdr := .map (some (w.heap.size + 1))) (w' := (w.alloc (.deferred (some []))).alloc (.loop l0)) ((Below.refl _ _).alloc (Nat.le_refl _) _) (fun b hb => by simp [blk] at hb; simp; omega) (fun _ b hb => by simp [blk] at hb; subst hb; simp)
    (fun E' hw hφ _ hle => ⟨w.heap.size + 1, l0, hφ, Or.inl (Nat.le_trans hgd.below.size (Nat.le_succ _)), by rw [hw]; have := heap_new (w.alloc (.deferred (some []))) (.loop l0); simpa using this, by
      subst hL
      refine ⟨rfl, rfl, rfl, rfl, rfl, hNN.1, fun s av hsl => ?_⟩
      obtain ⟨v, k1, k2⟩ := (hf.mono hgd.shaped e1) s av hsl
      exact ⟨v, k1, Slot.mono g1.shaped hle k2⟩⟩)
  obtain ⟨g2, e2⟩ := m2
  generalize hφ2 : (fun j => if j = lid then Value.map (some (w.heap.size + 1)) else φ1 j) = φ2 at g2 e2
  have hφl : φ2 lid = .map (some (w.heap.size + 1)) := by rw [← hφ2]; simp
  have hφm : φ2 mid = .map (some w.heap.size) := by rw [← hφ2, ← hφ1]; simp [Ne.symm hne]
  rw [← ho1] at g2 e2
  have hlk1 : look lid objs1 = some (.lp L σ.fr) := by rw [ho1]; simp [look_cons]
  have e12 := e1.trans e2
  have hf2 := hf.mono hgd.shaped e12
  obtain ⟨vc2, hfv2, hvc2⟩ := (ev_slot hf2 hg).cell rfl (by simp) (by simp)
  have hvv : vc = vc2 := by
    have h1 : [a.eval g] = [.func (.func f) #[] vc2.toArray] := hfv2
    rw [hfv'] at h1
    simpa using h1
  subst hvv
  obtain ⟨hcl', hcs⟩ := rep_unpr hcaps hvc2
  have hinv : (invoke (Target.fn (.func f) vc.toArray) #[.func (.yield (w.heap.size + 1)) #[] #[]]).run C.P ((w.alloc (.deferred (some []))).alloc (.loop l0)) = .ok (.enter f (Value.func (.yield (w.heap.size + 1)) #[] #[] :: vc).toArray) ((w.alloc (.deferred (some []))).alloc (.loop l0)) := by
    simp only [invoke, callFunc, Sem.run_bind, run_program, Result.andThen_ok, hfn, hname, hbody, Option.isNone_some, Bool.false_eq_true, if_false]
    simp
  refine ⟨w.heap.size + 1, [{ target := .collected w.heap.size, args := #[] }], _, { target := .fn (.func f) vc.toArray, args := #[.func (.yield (w.heap.size + 1)) #[] #[]] }, _, f, _, _, by rw [hro]; exact run_enterLoop_outer fnId a.tmps ps assign body, ?_, fun f' _ => hF.fn f', hinv, fun h => (by rw [hF.depth] at h; cases h), ?_⟩
  · simp only [resolve, List.map_toArray, List.map_cons, List.map_nil, hfv', Deferred.ofValue, Sem.run_pure]
    rfl
  refine call_core hT hF hfn hbody (l := .yld lid :: lc) hN (kp := kp.contains) (small := small) (objs := objs1) hs hcl hl hrun g2 (by simp [hcl']) (fun k av hk => ?_) ?_
  · cases k with
    | zero =>
      simp only [List.getElem?_cons_zero, Option.some.injEq] at hk
      subst hk
      exact ⟨_, by simp, Slot.ofCell ⟨_, hlk1, w.heap.size + 1, rfl, hφl⟩ rfl⟩
    | succ k =>
      obtain ⟨v, k1, k2⟩ := hcs k av (by simpa using hk)
      exact ⟨v, by simpa using k1, k2⟩
  · rintro v objs' ⟨L2, fr2, hlk2, hnb, hj⟩ u w' φ' hg3 hle3 _
    have hφl3 : φ' lid = .map (some (w.heap.size + 1)) := ((hle3.φ lid _ hlk1).1).trans hφl
    obtain ⟨b3, l3, j1, j2, j3, j4⟩ := hg3.obj lid _ hlk2
    have hb3 : b3 = w.heap.size + 1 := by have := j1.symm.trans hφl3; simpa using this
    subst hb3
    obtain ⟨q1, q2, q3, q4, q5, q6, q7⟩ := j4
    have hst : l3.state ≠ .busy := by
      rw [q5]
      intro hbad
      cases hL2 : L2.st <;> rw [hL2] at hbad hnb <;> first | (cases hbad; done) | exact hnb
    have hend := run_endLoop (P := C.P) j3 hst
    obtain ⟨g4, e4⟩ := Good.kill (w' := w'.putObj (w.heap.size + 1) (.loop { l3 with state := .exhausted })) hg3 hlk2 rfl trivial (b := w.heap.size + 1) (by rw [show φ' lid = _ from hφl3]; rfl) rfl rfl rfl (by simp) (fun k hk => World.putObj_heap_other hk)
    have e124 := (e12.trans hle3).trans e4
    have hR' : Rel C.w0 C.N C.as { σ with objs := (lid, .dead) :: (objs' ++ objs1), mks := mid :: σ.mks } { a with defers := [{ target := .collected w.heap.size, args := #[] }] ++ a.defers } (w'.putObj (w.heap.size + 1) (.loop { l3 with state := .exhausted })) := by
      obtain ⟨h1, h2, h3⟩ := hh.mono hgd.shaped e124
      refine ⟨⟨φ', g4, hf.mono hgd.shaped e124, h1, h2, w.heap.size, a.defers, ?_, ?_, rfl, h3⟩, hNN⟩
      · obtain ⟨k1, _⟩ := (hle3.trans e4).φ mid .mark (by show look mid objs1 = _; rw [ho1]; simp [look_cons, Ne.symm hne])
        exact k1.trans hφm
      · obtain ⟨_, o', k2, _⟩ := (hle3.trans e4).φ mid .mark (by show look mid objs1 = _; rw [ho1]; simp [look_cons, Ne.symm hne])
        exact ⟨o', k2⟩
    have fin : ∀ (p : Option Code) (a5 : Act) (w5 : World), jumpQ Q { σ with objs := (lid, .dead) :: (objs' ++ objs1), mks := mid :: σ.mks } p → Rel C.w0 C.N C.as { σ with objs := (lid, .dead) :: (objs' ++ objs1), mks := mid :: σ.mks } a5 w5 →
        (match p with | none => Lift C Q .normal a5 w5 | some c => c.wpIn F n C.P (Lift C Q) a5 w5) := by
      intro p a5 w5 hj hR5
      cases p with
      | none => exact ⟨_, hj, hR5⟩
      | some cd =>
        cases cd <;> try (exact hj.elim)
        · exact wpIn_exit ⟨_, hj, hR5⟩
        · exact wpIn_ret ⟨_, hj, hR5⟩
    exact ⟨_, _, hend, fin _ _ _ (by rw [q4]; exact hj) hR'⟩
end
end
end Go.Ab
