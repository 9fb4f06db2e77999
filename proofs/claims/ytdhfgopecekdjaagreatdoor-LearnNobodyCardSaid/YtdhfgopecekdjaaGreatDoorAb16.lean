/- An abstract executor for the machine: part 16 of its soundness, for every program and table. -/
import Derived.Test.YtdhfgopecekdjaaGreatDoorAb15
namespace Go.Ab
noncomputable section
open Go Go.RowKit

/-! ### Regions on symbolic data: what must be shown is gathered -/
abbrev Tolds := FuncId → List AV → Objs → Option (List Nat × AV × Objs)
def ToldsOk (P : Program) (T : Tbl) (H : Tolds) : Prop := ∀ f l objs kp v objs', H f l objs = some (kp, v, objs') → ∃ l' fn c small, WkL l l' ∧ CallOk P T f l' objs kp v objs' fn c small

def callC (H : Tolds) (l : List AV) (objs : Objs) : Option AV → Option Eff
  | some (.fn f caps) => match unpr caps with
    | some lc => match H f (l ++ lc) objs with
      | some (kp, v, objs') => some (callEff v objs' kp)
      | none => none
    | none => none
  | _ => none
def opC (T : Tbl) (H : Tolds) (o : Oper) (base : Nat) (fr : Fr) (objs : Objs) : Option Eff :=
  match valCall o.op with
  | some (g, args, argTypes) => match Nat.beq args.size argTypes.size, argsAV T fr (args.toList.zip argTypes.toList) with
    | true, some la => callC H la objs (ev T 0 fr g)
    | _, _ => none
  | none => step T base o fr objs
def oneC (T : Tbl) (H : Tolds) (o : Oper) (base : Nat) (fr : Fr) (objs : Objs) : Option Bool → Option Eff
  | some true => opC T H o base fr objs
  | some false => some { v := .tup .un }
  | none => none
/-- A bool that is told beforehand: that it is so must be shown. -/
def pinE (e : Eff) : Option Bool → Eff
  | some c => match e.v with
    | .dat .bool b => { e with v := .dat .bool c, conds := .isB b c :: e.conds }
    | _ => e
  | none => e
noncomputable def pinO (O : List (Nat × Bool)) (e : Eff) : Option Tmp → Eff
  | some d => pinE e (look d O)
  | none => e
theorem pinE_ev {e : Eff} {x : Option Bool} (h : ∀ q ∈ (pinE e x).conds, q.holds) : (pinE e x).ev = e.ev ∧ (pinE e x).v = e.v ∧ (pinE e x).upd = e.upd ∧ ∀ q ∈ e.conds, q.holds := by
  cases x with
  | none => exact ⟨rfl, rfl, rfl, h⟩
  | some c =>
    simp only [pinE] at h ⊢
    split at h
    · rename_i b hv
      have hb : b = c := h (.isB b c) (by simp)
      subst hb
      refine ⟨?_, hv.symm, rfl, fun q hq => h q (by simp [hq])⟩
      simp [Eff.ev, hv]
    · exact ⟨rfl, rfl, rfl, h⟩
theorem pinO_ev {O : List (Nat × Bool)} {e : Eff} {d : Option Tmp} (h : ∀ q ∈ (pinO O e d).conds, q.holds) : (pinO O e d).ev = e.ev ∧ (pinO O e d).v = e.v ∧ (pinO O e d).upd = e.upd ∧ ∀ q ∈ e.conds, q.holds := by
  cases d with
  | none => exact ⟨rfl, rfl, rfl, h⟩
  | some d => exact pinE_ev h
noncomputable def opsC (T : Tbl) (H : Tolds) (O : List (Nat × Bool)) (ops : Array Oper) (N base : Nat) : List Oper → Fr → Objs → Option (List Eff × Fr × Objs)
  | [], fr, objs => some ([], fr, objs)
  | o :: r, fr, objs => match dstB N o.dst, oneC T H o base fr objs (guardSays ops fr o.guard) with
    | true, some e => match opsC T H O ops N base r (putFr o.dst (pinO O e o.dst).v fr) (e.upd ++ objs) with
      | some (es, fr', objs') => some (pinO O e o.dst :: es, fr', objs')
      | none => none
    | _, _ => none
def AllHold : List Eff → Prop
  | [] => True
  | e :: r => (∀ q ∈ e.conds, q.holds) ∧ AllHold r

section
variable {P : Program} {T : Tbl} {H : Tolds} {O : List (Nat × Bool)} {F : Fence} {n N : Nat} {ops : Array Oper} {w0 : Base} {as : List Act}

theorem opC_fires (hT : TblOk P T) (hH : ToldsOk P T H) (hF : WF F) {i : Nat} {o : Oper} (hi : ops[i]? = some o) (hd : ∀ t, o.dst = some t → t < N) {σ : St} (hg : guardSays ops σ.fr o.guard = some true) {base : Nat} {e : Eff}
    (h : opC T H o base σ.fr σ.objs = some e) (hc : ∀ q ∈ e.conds, q.holds) : FiresF ⟨P, T, w0, N, as⟩ F n ops i e.ev σ := by
  unfold opC at h
  split at h
  · rename_i g args argTypes hv
    have hop : o.op = .call { callee := .value g, args, argTypes } := by
      unfold valCall at hv
      split at hv
      · rename_i heq; cases hv; exact heq
      · cases hv
    split at h
    · rename_i la hlen hla
      have hlen' := Nat.eq_of_beq_eq_true hlen
      unfold callC at h
      split at h
      · rename_i f caps hev
        split at h
        · rename_i lc hlc
          split at h
          · rename_i kp v objs' hh
            cases h
            obtain ⟨l', fn, c, small, hwk, h4⟩ := hH _ _ _ _ _ _ hh
            exact call_firesF (C := ⟨P, T, w0, N, as⟩) hT hF hi hop hg hd hev hlc hlen' hla h4.hfn h4.hbody h4.hname hwk h4.hN h4.hs h4.hcl h4.hl (fun w1 => h4.hrun w1 F.plain (n - 1) hF.plain rfl)
          · cases h
        · cases h
      · cases h
    · cases h
  · exact step_firesF (C := ⟨P, T, w0, N, as⟩) hT hF hi hd hg h hc

theorem opsC_ok (hT : TblOk P T) (hH : ToldsOk P T H) (hF : WF F) {esAll : List Eff} {s0 : St} {base : Nat} : ∀ (l : List Oper) (k : Nat) (σ : St) (es : List Eff) (fr' : Fr) (objs' : Objs), (∀ j, l[j]? = ops[k + j]?) → (∀ (j : Nat) (e : Eff), es[j]? = some e → esAll[k + j]? = some e) →
    opsC T H O ops N base l σ.fr σ.objs = some (es, fr', objs') → AllHold es → stOf ops (evsOf esAll) s0 (fun _ => true) k = σ →
    es.length = l.length ∧ (∀ j, j < l.length → FiresF ⟨P, T, w0, N, as⟩ F n ops (k + j) (evsOf esAll (k + j)) (stOf ops (evsOf esAll) s0 (fun _ => true) (k + j))) ∧ stOf ops (evsOf esAll) s0 (fun _ => true) (k + l.length) = { σ with fr := fr', objs := objs' }
  | [], k, σ, es, fr', objs', _, _, h, _, hl => by
    simp only [opsC, Option.some.injEq, Prod.mk.injEq] at h
    obtain ⟨rfl, rfl, rfl⟩ := h
    exact ⟨rfl, fun j hj => by simp at hj, hl⟩
  | o :: r, k, σ, es, fr', objs', hops, hes, h, hah, hl => by
    have hi : ops[k]? = some o := by have := hops 0; simpa using this.symm
    simp only [opsC] at h
    split at h
    · rename_i e hd ho
      split at h
      · rename_i es' fr1 objs1 h1
        cases h
        obtain ⟨hc, hah'⟩ := hah
        obtain ⟨p1, p2, p3, hc⟩ := pinO_ev hc
        rw [p2] at h1
        have hev : evsOf esAll k = e.ev := by rw [← p1]; exact evsOf_some (by have := hes 0 _ rfl; simpa using this)
        have hfire : FiresF ⟨P, T, w0, N, as⟩ F n ops k e.ev σ := by
          unfold oneC at ho
          split at ho
          · rename_i hg; exact opC_fires hT hH hF hi (dstB_ok hd) hg ho hc
          · rename_i hg
            cases ho
            exact skip_firesF (C := ⟨P, T, w0, N, as⟩) hF hi (dstB_ok hd) hg
          · cases ho
        have hnext : stOf ops (evsOf esAll) s0 (fun _ => true) (k + 1) = { σ with fr := putFr o.dst e.v σ.fr, objs := e.upd ++ σ.objs } := by
          simp only [stOf, if_true, hev, hi, Option.bind_some, Ev.app, Eff.ev, hl]
        obtain ⟨h2, h3, h4⟩ := opsC_ok hT hH hF r (k + 1) { σ with fr := putFr o.dst e.v σ.fr, objs := e.upd ++ σ.objs } es' fr' objs' (fun j => by have := hops (j + 1); rw [show k + 1 + j = k + (j + 1) from by omega]; simpa using this)
          (fun j e hj => by have := hes (j + 1) e (by simpa using hj); rw [show k + 1 + j = k + (j + 1) from by omega]; exact this) h1 hah' hnext
        refine ⟨by simp [h2], fun j hj => ?_, ?_⟩
        · cases j with
          | zero => rw [Nat.add_zero, hev, hl]; exact hfire
          | succ j =>
            have := h3 j (by simpa using hj)
            rwa [show k + 1 + j = k + (j + 1) from by omega] at this
        · rw [List.length_cons, show k + (r.length + 1) = k + 1 + r.length from by omega]; exact h4
      · cases h
    · cases h

/-- A region. -/
theorem runs_regC (O : List (Nat × Bool)) (hT : TblOk P T) (hm : P.follows .mixedOrders = true) (hH : ToldsOk P T H) (hF : WF F) {id : Nat} {draw : Bool} (base : Nat) {σ : St} {Q : Exit → St → Prop} {es : List Eff} {fr' : Fr} {objs' : Objs} (h : opsC T H O ops N base ops.toList σ.fr σ.objs = some (es, fr', objs'))
    (hc : AllHold es) (hd : draw = true → drawB ops es = true) (hQ : Q .normal { σ with fr := fr', objs := objs' }) : Runs ⟨P, T, w0, N, as⟩ F n (.region id ops draw) σ Q := by
  obtain ⟨h1, h2, h3⟩ := opsC_ok (F := F) (n := n) (w0 := w0) (as := as) (esAll := es) (s0 := σ) hT hH hF ops.toList 0 σ es fr' objs' (fun j => by simp) (fun j e hj => by simpa using hj) h hc rfl
  have hlen : ops.toList.length = ops.size := by simp
  rw [hlen] at h1 h2 h3
  simp only [Nat.zero_add] at h2 h3
  cases draw with
  | false =>
    obtain ⟨k1, k2⟩ := all_fire (F := F) (n := n) (C := ⟨P, T, w0, N, as⟩) (ops := ops) (evs := evsOf es) (s0 := σ) ops.size 0 (fun j hj => by simpa using h2 j hj)
    rw [Nat.zero_add] at k2
    refine runs_region (l := (List.range' 0 ops.size).map (fun i => (i, evsOf es i))) (by rw [List.map_map, List.range_eq_range']; simp [Function.comp_def]) k1 ?_
    have k2' : runEvs ops ((List.range' 0 ops.size).map (fun i => (i, evsOf es i))) σ = stOf ops (evsOf es) σ (fun _ => true) ops.size := k2
    rw [k2', h3]
    exact hQ
  | true =>
    refine runs_region_any (evs := evsOf es) (bef := Bef ops) hm (drawB_ok h1 (hd rfl)) (fun i hi => by rw [stOf_upto (by omega)]; exact h2 i hi) (fun k id o hk => ?_) (by rw [h3]; exact hQ)
    by_cases hlt : k < ops.size
    · exact (h2 k hlt).1 id o hk
    · have : es[k]? = none := by simp; omega
      simp [evsOf, this] at hk

/-- Less may be known. -/
theorem Rel.less {w0 : Base} {N : Nat} {as : List Act} {σ : St} {a : Act} {w : World} {fr' : Fr} (hR : Rel w0 N as σ a w) (h : ∀ s v, look s fr' = some v → look s σ.fr = some v) : Rel w0 N as { σ with fr := fr' } a w := by
  obtain ⟨⟨φ, hg, hf, hh⟩, hN⟩ := hR
  exact ⟨⟨φ, hg, fun s v hs => hf s v (h s v hs), hh⟩, hN⟩
theorem Runs.less {C : Cx} {F : Fence} {n : Nat} {c : Code} {σ : St} {fr' : Fr} {Q : Exit → St → Prop} (h : ∀ s v, look s fr' = some v → look s σ.fr = some v) (hr : Runs C F n c { σ with fr := fr' } Q) : Runs C F n c σ Q :=
  hr.weaken (fun _ _ hR => hR.less h)
end
end
end Go.Ab

namespace Go.Ab
noncomputable section
open Go Go.RowKit

/-- A function of data: whatever it makes of its own is forgotten. -/
structure PureC (P : Program) (T : Tbl) (f : FuncId) (l : List AV) (v : AV) (fn : Func) (c : Code) : Prop where
  hfn : P.funcs[f]? = some fn
  hbody : fn.body = some c
  hname : (fn.name == "runtime.NumGoroutine") = false
  hN : l.length ≤ fn.ntmps
  hl : ∀ x ∈ l, avIds x = []
  hv : avIds v = []
  hrun : ∀ (w1 : Base) (F : Fence) (n : Nat), WF F → F.round = none → Runs ⟨P, T, w1, fn.ntmps, []⟩ F n c { fr := frOf 0 l, objs := [] } (fun e τ => (e = .normal ∨ e = .ret) ∧ resAV T τ.fr τ.objs fn.results.toList = some v ∧ τ.mks = [])

theorem PureC.call {P : Program} {T : Tbl} {f : FuncId} {l : List AV} {v : AV} {fn : Func} {c : Code} (h : PureC P T f l v fn c) (objs : Objs) : CallOk P T f l objs [] v [] fn c [] where
  hfn := h.hfn
  hbody := h.hbody
  hname := h.hname
  hN := h.hN
  hs := fun id => by simp [look_nil]
  hcl := fun id o ho => by simp [look_nil] at ho
  hl := fun x hx j hj => by rw [h.hl x hx] at hj; cases hj
  hrun := fun w1 F n hF hr => (h.hrun w1 F n hF hr).mono (fun e τ ⟨he, hres, hm⟩ => by
    have : RetOk T (List.contains []) objs fn.results.toList (fun v' o' => v' = v ∧ o' = []) τ := by
      have hd : deads τ.mks ++ τ.objs = τ.objs := by rw [hm]; rfl
      refine ⟨hm ▸ List.nodup_nil, ?_, v, by rw [hd]; exact hres, [], fun _ => false, ?_, ?_, ?_, ?_, ?_, rfl, rfl⟩
      · intro id hid; rw [hm] at hid; cases hid
      · intro id; simp [look_nil]
      · intro id hid; simp at hid
      · intro j hj; rw [h.hv] at hj; cases hj
      · intro id o ho; simp [look_nil] at ho
      · intro id o ho; simp [look_nil] at ho
    rcases he with rfl | rfl
    · exact this
    · exact this)

def AllLook : Fr → Fr → Prop
  | [], _ => True
  | (s, v) :: r, fr => look s fr = some v ∧ AllLook r fr
theorem AllLook.less : ∀ {fr2 fr : Fr}, AllLook fr2 fr → ∀ s v, look s fr2 = some v → look s fr = some v
  | [], _, _, s, v, h => by simp [look_nil] at h
  | (k, u) :: r, fr, hl, s, v, h => by
    rw [look_cons] at h
    split at h
    · rename_i he; subst he; cases h; exact hl.1
    · exact AllLook.less hl.2 s v h

section
variable {P : Program} {T : Tbl} {H : Tolds} {F : Fence} {n N : Nat} {ops : Array Oper} {w0 : Base} {as : List Act}
/-- A region, and what stands behind it: of the temporaries only those of fr2 are told. -/
theorem reg_seq (O : List (Nat × Bool)) (fr2 : Fr) (hT : TblOk P T) (hm : P.follows .mixedOrders = true) (hH : ToldsOk P T H) (hF : WF F) {id : Nat} {draw : Bool} {σ : St} {Q : Exit → St → Prop} {y : Code} {base : Nat} {es : List Eff} {fr' : Fr} {objs' : Objs}
    (h : opsC T H O ops N base ops.toList σ.fr σ.objs = some (es, fr', objs')) (hl : AllLook fr2 fr') (hd : draw = true → drawB ops es = true) (hc : AllHold es) (hQ : Runs ⟨P, T, w0, N, as⟩ F n y { σ with fr := fr2, objs := objs' } Q) :
    Runs ⟨P, T, w0, N, as⟩ F n (.seq (.region id ops draw) y) σ Q :=
  runs_seq (runs_regC O hT hm hH hF base h hc hd (Runs.less (σ := { σ with fr := fr', objs := objs' }) hl.less hQ))
theorem reg_end (O : List (Nat × Bool)) (fr2 : Fr) (hT : TblOk P T) (hm : P.follows .mixedOrders = true) (hH : ToldsOk P T H) (hF : WF F) {id : Nat} {draw : Bool} {σ : St} {Q : Exit → St → Prop} {base : Nat} {es : List Eff} {fr' : Fr} {objs' : Objs}
    (h : opsC T H O ops N base ops.toList σ.fr σ.objs = some (es, fr', objs')) (hl : AllLook fr2 fr') (hd : draw = true → drawB ops es = true) (hc : AllHold es) (hQ : Q .normal { σ with fr := fr2, objs := objs' }) :
    Runs ⟨P, T, w0, N, as⟩ F n (.region id ops draw) σ Q := by
  have h0 : Runs ⟨P, T, w0, N, as⟩ F n (.region id ops draw) σ (fun e τ => e = .normal ∧ τ = { σ with fr := fr', objs := objs' }) := runs_regC O hT hm hH hF base h hc hd ⟨rfl, rfl⟩
  exact fun a w hR => wpIn_mono (h0 a w hR) (fun e a' w' ⟨τ, ⟨h1, h2⟩, h3⟩ => ⟨{ σ with fr := fr2, objs := objs' }, by rw [h1]; exact hQ, by subst h2; exact h3.less hl.less⟩)
theorem seq_via {C : Cx} (fr1 : Fr) {x y : Code} {σ : St} {Q : Exit → St → Prop} (h : Runs C F n y { σ with fr := fr1 } Q → Runs C F n (.seq x y) σ Q) (hk : Runs C F n y { σ with fr := fr1 } Q) : Runs C F n (.seq x y) σ Q := h hk
/-- A loop that counts up to n. -/
theorem runs_count {C : Cx} {c : Code} {Q : Exit → St → Prop} (S : Nat → St) (Inv : Nat → Prop) (n0 : Nat) {i0 : Nat} (h0 : Inv i0) (round : ∀ i, Inv i → Runs C F n c (S i) (qthen (fun τ => τ = S (i + 1) ∧ Inv (i + 1) ∧ i < n0) Q)) : Runs C F n (.loop c) (S i0) Q := by
  have key : ∀ (k i : Nat) (a : Act) (w : World), n0 - i < k → Inv i → Rel C.w0 C.N C.as (S i) a w → Code.roundsIn F n C.P c (Lift C Q) k a w := by
    intro k
    induction k with
    | zero => intro i a w h; omega
    | succ k ih =>
      intro i a w hk hi hR
      rw [roundsIn_succ]
      refine wpIn_mono (round i hi a w hR) (fun e a' w' hh => ?_)
      obtain ⟨τ, h1, h2⟩ := hh
      cases e with
      | normal =>
        obtain ⟨rfl, h3, h4⟩ := h1
        exact ih (i + 1) a' w' (by omega) h3 h2
      | _ => exact ⟨τ, h1, h2⟩
  exact fun a w hR => wpIn_loop_rounds (n0 - i0 + 1) (key _ i0 a w (by omega) h0 hR)
/-- A list in memory is no longer than a number may be. -/
theorem Runs.small {C : Cx} {c : Code} {σ : St} {Q : Exit → St → Prop} {t : Ty} {xs : List t.V} (s : Nat) (hs : look s σ.fr = some (.dat (.lst t) xs)) (h : xs.length ≤ 9223372036854775807 → Runs C F n c σ Q) : Runs C F n c σ Q := by
  intro a w hR
  refine h ?_ a w hR
  obtain ⟨⟨φ, _, hf, _⟩, _⟩ := hR
  obtain ⟨v, _, h2⟩ := hf s _ hs
  obtain ⟨a0, n0, cap, cells, e, h3, h4, h5, _⟩ := h2.cell rfl (by simp) (by simp)
  rw [h3]; omega
theorem Runs.smallS {C : Cx} {c : Code} {σ : St} {Q : Exit → St → Prop} {x : ByteArray} (s : Nat) (hs : look s σ.fr = some (.dat .str x)) (h : ByteArray.size x ≤ 9223372036854775807 → Runs C F n c σ Q) : Runs C F n c σ Q := by
  intro a w hR
  refine h ?_ a w hR
  obtain ⟨⟨φ, _, hf, _⟩, _⟩ := hR
  obtain ⟨v, _, h2⟩ := hf s _ hs
  exact (h2.cell rfl (by simp) (by simp)).2
end
end
end Go.Ab

namespace Go.Ab
noncomputable section
open Go Go.RowKit

section
variable {C : Cx} {F : Fence} {n : Nat} {c : Code} {σ : St} {Q : Exit → St → Prop}
/-- Less may be told of the temporaries. -/
theorem Runs.wk {fr' : Fr} (h : ∀ s v', look s fr' = some v' → ∃ v, look s σ.fr = some v ∧ Wk v v') (hr : Runs C F n c { σ with fr := fr' } Q) : Runs C F n c σ Q :=
  hr.weaken (fun a w hR => by
    obtain ⟨⟨φ, hg, hf, hh⟩, hN⟩ := hR
    exact ⟨⟨φ, hg, fun s v' hs => by
      obtain ⟨v, h1, h2⟩ := h s v' hs
      obtain ⟨u, h3, h4⟩ := hf s v h1
      exact ⟨u, h3, h2.slot h4⟩, hh⟩, hN⟩)
/-- Rows become data. -/
theorem Runs.freeze (ids : List Nat) (hr : Runs C F n c { σ with objs := freeze σ.objs ids ++ σ.objs } Q) : Runs C F n c σ Q :=
  hr.weaken (fun a w hR => by
    obtain ⟨⟨φ, hg, hf, hh⟩, hN⟩ := hR
    obtain ⟨g2, e2⟩ := Good.freeze hg ids
    exact ⟨⟨φ, g2, hf.mono hg.shaped e2, hh.mono hg.shaped e2⟩, hN⟩)
/-- A slice of what never changes is data. -/
theorem Runs.thaw {fr' : Fr} (h : ∀ s v', look s fr' = some v' → look s σ.fr = some v' ∨ ∃ (id : Nat) (t : Ty) (xs : List t.V), look s σ.fr = some (.sl id) ∧ look id σ.objs = some (.frz t xs) ∧ v' = .dat (.lst t) xs)
    (hr : Runs C F n c { σ with fr := fr' } Q) : Runs C F n c σ Q :=
  hr.weaken (fun a w hR => by
    obtain ⟨⟨φ, hg, hf, hh⟩, hN⟩ := hR
    refine ⟨⟨φ, hg, fun s v' hs => ?_, hh⟩, hN⟩
    rcases h s v' hs with h1 | ⟨id, t, xs, h1, h2, rfl⟩
    · exact hf s v' h1
    · obtain ⟨u, h3, h4⟩ := hf s _ h1
      refine ⟨u, h3, Or.inr ⟨rfl, ?_⟩⟩
      obtain ⟨o, k1, _, k3⟩ := h4.cell rfl (by simp) (by simp)
      have : o = .frz t xs := by have := k1.symm.trans h2; cases this; rfl
      subst this
      have k4 : RepC (imm C.w0 w φ σ.objs) w (.lst t) xs [φ id] := hg.obj id _ h2
      have k5 : [u] = [φ id] := k3
      rw [k5]
      exact k4)
/-- What is told may be told otherwise, if it looks the same. -/
theorem Runs.likeSt {τ : St} (hl : Like σ τ) (hr : Runs C F n c τ Q) : Runs C F n c σ Q := hr.start hl
end

/-! ### Functions of data, by a run -/
section
variable (T : Tbl) (P : Array Func)
noncomputable def pureEnd (fn : Func) : Option (XE × XS) → Option AV
  | some (.nrm, τ) => match τ.mks with
    | [] => resAV T (sm τ.fr (resOps fn.results.toList)) τ.objs fn.results.toList
    | _ => none
  | some (.ret, τ) => match τ.mks with
    | [] => resAV T (sm τ.fr (resOps fn.results.toList)) τ.objs fn.results.toList
    | _ => none
  | _ => none
/-- What a function comes to. -/
noncomputable def pureX (n : Nat) (f : FuncId) (l : List AV) : Option AV :=
  match P[f]? with
  | some fn => match fn.body with
    | some c => match fn.name == "runtime.NumGoroutine", Nat.ble l.length fn.ntmps with
      | false, true => pureEnd T fn (exec T P n fn.ntmps false c { fr := trArgs 0 l, objs := [], mks := [], cnt := 0 })
      | _, _ => none
    | none => none
  | none => none
end
theorem pureX_ok {P : Program} {T : Tbl} (hT : TblOk P T) (hm : P.follows .mixedOrders = true) {n : Nat} {f : FuncId} {l : List AV} {v : AV} (h : pureX T P.funcs n f l = some v) (hl : ∀ x ∈ l, avIds x = []) (hv : avIds v = []) : ∃ fn c, PureC P T f l v fn c := by
  unfold pureX at h
  split at h
  · rename_i fn hfn
    split at h
    · rename_i c hb
      split at h
      · rename_i h1 h2
        refine ⟨fn, c, hfn, hb, h1, Nat.le_of_ble_eq_true h2, hl, hv, fun w1 F m hF hr => ?_⟩
        cases hx : exec T P.funcs n fn.ntmps false c { fr := trArgs 0 l, objs := [], mks := [], cnt := 0 } with
        | none => rw [hx] at h; cases h
        | some q =>
          obtain ⟨e, τ⟩ := q
          rw [hx] at h
          have hrun := (exec_sound hT hm n _ _ _ _ _ _ hx w1 [] F m [] hF (fun _ => hr)).start (σ := { fr := frOf 0 l, objs := [] }) ⟨fun s => by simp only [XS.st]; rw [look_trFr, trArgs_get], fun id => rfl, rfl, rfl⟩
          refine hrun.mono ?_
          rintro e' τ' ⟨rfl, rfl⟩
          have fin : ∀ x : Option AV, (match τ.mks with | [] => resAV T (sm τ.fr (resOps fn.results.toList)) τ.objs fn.results.toList | _ => none) = some v → resAV T (trFr τ.fr) τ.objs fn.results.toList = some v ∧ τ.mks = [] := by
            intro _ hh
            split at hh
            · rename_i hmk; rw [resAV_sm] at hh; exact ⟨hh, hmk⟩
            · cases hh
          cases e with
          | nrm => exact ⟨.inl rfl, fin none h⟩
          | ret => exact ⟨.inr rfl, fin none h⟩
          | ext j => cases h
      · cases h
    · cases h
  · cases h
end
end Go.Ab

namespace Go.Ab
noncomputable section
open Go Go.RowKit

section
variable {C : Cx} {F : Fence} {n : Nat} {c : Code} {σ : St} {Q : Exit → St → Prop}
/-- Where nothing is there at the entry, nothing was there at the start. -/
theorem Runs.entry (h0 : σ.objs = []) (h : (∀ id, look id C.w0.start.objs = none) → Runs C F n c σ Q) : Runs C F n c σ Q := by
  intro a w hR
  refine h (fun id => ?_) a w hR
  obtain ⟨⟨φ, _, _, hh⟩, _⟩ := hR
  cases hs : look id C.w0.start.objs with
  | none => rfl
  | some o =>
    obtain ⟨_, o', h2, _⟩ := hh.1.φ id o hs
    rw [h0] at h2
    simp [look_nil] at h2
/-- Less may be told of what lies in a box. -/
theorem Runs.wkBox {k : Nat} {v v' : AV} (hk : look k σ.objs = some (.box v)) (hw : Wk v v') (hr : Runs C F n c { σ with objs := (k, .box v') :: σ.objs } Q) : Runs C F n c σ Q :=
  hr.weaken (fun a w hR => by
    obtain ⟨⟨φ, hg, hf, hh⟩, hN⟩ := hR
    obtain ⟨b, cells, ty, h1, h2, h3, h4⟩ := hg.obj k _ hk
    have hφ : φ k = .pointer (some ⟨b, 0, none⟩) := h1
    obtain ⟨g2, e2⟩ := Good.setObj (o := .box v') (w' := w) hg hk rfl (by simp [Evo]) rfl (b := b) (by rw [hφ]; rfl) rfl rfl rfl rfl (fun _ _ => rfl)
      (fun E' hw' hφ' hle => ⟨b, cells, ty, by rw [hφ']; exact hφ, h2, by rw [hw']; exact h3, hw.rep (Rep.mono hg.shaped hle h4)⟩)
    exact ⟨⟨φ, g2, hf.mono hg.shaped e2, hh.mono hg.shaped e2⟩, hN⟩)
/-- What is not looked at any more may be forgotten. -/
theorem Runs.drop (hst : ∀ id, look id C.w0.start.objs = none) (hh0 : σ.hid = []) (hm0 : σ.mks = []) {objs' : Objs} {keep : Nat → Bool} {fr' : Fr} (hk : ∀ id, look id objs' = if keep id = true then look id σ.objs else none)
    (hcl : ∀ id o, look id objs' = some o → ∀ j ∈ objIds o, keep j = true) (hfr : ∀ s v, look s fr' = some v → look s σ.fr = some v ∧ ∀ j ∈ avIds v, keep j = true) (hr : Runs C F n c { σ with fr := fr', objs := objs' } Q) : Runs C F n c σ Q :=
  hr.weaken (fun a w hR => by
    obtain ⟨⟨φ, hg, hf, hh⟩, hN⟩ := hR
    obtain ⟨g2, hI⟩ := Good.drop hg hk hcl
    refine ⟨⟨φ, g2, fun s v hs => ?_, ⟨fun b hb => hI b (hh.1.I b hb), hh.1.heap, fun id o ho => by rw [hst] at ho; cases ho⟩, by rw [hh0]; trivial, ?_⟩, hN⟩
    · obtain ⟨h1, h2⟩ := hfr s v hs
      obtain ⟨u, h3, h4⟩ := hf s v h1
      refine ⟨u, h3, Slot.only (E := ⟨w, imm C.w0 w φ σ.objs, φ, σ.objs⟩) (E' := ⟨w, imm C.w0 w φ objs', φ, objs'⟩) hI (fun _ _ => rfl) (fun id o _ hid => ⟨rfl, ?_⟩) h4⟩
      show look id objs' = look id σ.objs
      rw [hk, if_pos (h2 id hid)]
    · have := hh.2.2
      rw [hm0] at this ⊢
      exact this)
end
end
end Go.Ab
