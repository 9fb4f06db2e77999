/- An abstract executor for the machine: part 8 of its soundness, for every program and table. -/
import Derived.Test.YtdhfgopecekdjaaGreatDoorAb07
import Derived.WalkSpells
namespace Go.Ab
noncomputable section
open Go Go.RowKit

section
variable {C : Cx} {o : Oper} {σ : St} {e : Eff} {a : Act} {w : World}

theorem MapRep.iff {I : Nat → Prop} {w : World} {k v : Ty} {x : k.V} {y : v.V} {m : List (k.V × v.V)} {es : List MapEntry} : MapRep I w k v ((x, y) :: m) es ↔ ∃ e r, es = e :: r ∧ VR I w k x e.key ∧ VR I w v y e.val ∧ MapRep I w k v m r := Iff.rfl

theorem map_find {P : Program} {T : Tbl} (hT : TblOk P T) {I I2 : Nat → Prop} {w w2 : World} {t : TypeId} {kt vt : Ty} (hck : chkTy T 20 t kt = true) (hfl : kt.flat = true) (de : TypeDesc) {k : kt.V} {v : Value} (hk : VR I w kt k v) (hI2 : ∀ b, I b → I2 b) (hw2 : ∀ b, I b → w2.heap[b]? = w.heap[b]?) :
    ∀ (m : List (kt.V × vt.V)) (es : List MapEntry) (i : Nat), MapRep I w kt vt m es → ∃ r : Option (Nat × Value), (Instr.findNow de v es i = some r ∨ Instr.findNow de v es i = none) ∧ (Instr.findAsking t v es i).run P w = .ok r w ∧
      ((r = none ∧ mget m k = none ∧ ∀ z zv b, VR I2 w2 vt z zv → MapRep I2 w2 kt vt (mput m k z) (es ++ [{ key := v, val := zv, born := b }])) ∨
       (∃ j e y, r = some (i + j, e.val) ∧ mget m k = some y ∧ es[j]? = some e ∧ e.key = v ∧ VR I w vt y e.val ∧
          ∀ z zv, VR I2 w2 vt z zv → MapRep I2 w2 kt vt (mput m k z) (es.modify j fun e => { e with key := v, val := zv })))
  | [], es, i, h => by
    rw [show es = [] from h]
    refine ⟨none, .inl rfl, by simp [Instr.findAsking], .inl ⟨rfl, rfl, fun z zv b hz => ⟨_, [], rfl, hk.mono hI2 hw2, hz, rfl⟩⟩⟩
  | (x, y) :: m, es, i, h => by
    obtain ⟨e, r, rfl, hx, hy, hm⟩ := MapRep.iff.1 h
    have heq : (Op.equal t v e.key).run P w = .ok (kt.veq k x) w := (eq_flat hT I w 20).1 t kt hck 10000 (by omega) k x v e.key hk hx
    have hnow : Instr.sameNow de v e.key = some (kt.veq k x) ∨ Instr.sameNow de v e.key = none := by
      cases hs : Instr.sameNow de v e.key with
      | none => exact .inr rfl
      | some b => rw [sameNow_veq hfl hk hx hs]; exact .inl rfl
    cases hv : kt.veq k x with
    | true =>
      have hkx := veq_eq hfl hv
      subst hkx
      refine ⟨some (i, e.val), ?_, ?_, .inr ⟨0, e, y, rfl, by simp [mget, hv], rfl, (vr_flat_fun hfl hk hx).symm, hy, ?_⟩⟩
      · rcases hnow with h1 | h1
        · left; rw [hv] at h1; simp [Instr.findNow, h1]
        · right; simp [Instr.findNow, h1]
      · simp [Instr.findAsking, heq, hv]
      · intro z zv hz
        simp only [mput, hv, if_true, List.modify_zero_cons]
        exact ⟨_, r, rfl, hk.mono hI2 hw2, hz, hm.mono hI2 hw2⟩
    | false =>
      obtain ⟨r', h1, h2, h3⟩ := map_find hT hck hfl de hk hI2 hw2 m r (i + 1) hm
      refine ⟨r', ?_, ?_, ?_⟩
      · rcases hnow with h4 | h4
        · rw [hv] at h4
          rcases h1 with h1 | h1
          · left; simp [Instr.findNow, h4, h1]
          · right; simp [Instr.findNow, h4, h1]
        · right; simp [Instr.findNow, h4]
      · simp [Instr.findAsking, heq, hv, h2]
      · rcases h3 with ⟨rfl, h4, h5⟩ | ⟨j, e', y', h4, h5, h6, h7, h8, h9⟩
        · refine .inl ⟨rfl, by simp [mget, hv, h4], fun z zv b hz => ?_⟩
          simp only [mput, hv]
          exact ⟨e, _, rfl, hx.mono hI2 hw2, hy.mono hI2 hw2, h5 z zv b hz⟩
        · refine .inr ⟨j + 1, e', y', by rw [h4]; congr 2; omega, by simp [mget, hv, h5], by simpa using h6, h7, h8, fun z zv hz => ?_⟩
          simp only [mput, hv, List.modify_succ_cons]
          exact ⟨e, _, rfl, hx.mono hI2 hw2, hy.mono hI2 hw2, h9 z zv hz⟩

theorem map_findG {P : Program} {T : Tbl} (hT : TblOk P T) {I I2 : Nat → Prop} {w w2 : World} {t : TypeId} {kt : Ty} {β : Type} {W W2 : β → Value → Prop} (hWW : ∀ y v, W y v → W2 y v) (hck : chkTy T 20 t kt = true) (hfl : kt.flat = true) (de : TypeDesc) {k : kt.V} {v : Value} (hk : VR I w kt k v) (hI2 : ∀ b, I b → I2 b) (hw2 : ∀ b, I b → w2.heap[b]? = w.heap[b]?) :
    ∀ (m : List (kt.V × β)) (es : List MapEntry) (i : Nat), MapG (VR I w kt) W m es → ∃ r : Option (Nat × Value), (Instr.findNow de v es i = some r ∨ Instr.findNow de v es i = none) ∧ (Instr.findAsking t v es i).run P w = .ok r w ∧
      ((r = none ∧ mget m k = none ∧ ∀ z zv b, W2 z zv → MapG (VR I2 w2 kt) W2 (mput m k z) (es ++ [{ key := v, val := zv, born := b }])) ∨
       (∃ j e y, r = some (i + j, e.val) ∧ mget m k = some y ∧ es[j]? = some e ∧ e.key = v ∧ W y e.val ∧
          ∀ z zv, W2 z zv → MapG (VR I2 w2 kt) W2 (mput m k z) (es.modify j fun e => { e with key := v, val := zv })))
  | [], es, i, h => by
    rw [show es = [] from h]
    refine ⟨none, .inl rfl, by simp [Instr.findAsking], .inl ⟨rfl, rfl, fun z zv b hz => ⟨_, [], rfl, hk.mono hI2 hw2, hz, rfl⟩⟩⟩
  | (x, y) :: m, es, i, h => by
    obtain ⟨e, r, rfl, hx, hy, hm⟩ := h
    have heq : (Op.equal t v e.key).run P w = .ok (kt.veq k x) w := (eq_flat hT I w 20).1 t kt hck 10000 (by omega) k x v e.key hk hx
    have hnow : Instr.sameNow de v e.key = some (kt.veq k x) ∨ Instr.sameNow de v e.key = none := by
      cases hs : Instr.sameNow de v e.key with
      | none => exact .inr rfl
      | some b => rw [sameNow_veq hfl hk hx hs]; exact .inl rfl
    cases hv : kt.veq k x with
    | true =>
      have hkx := veq_eq hfl hv
      subst hkx
      refine ⟨some (i, e.val), ?_, ?_, .inr ⟨0, e, y, rfl, by simp [mget, hv], rfl, (vr_flat_fun hfl hk hx).symm, hy, ?_⟩⟩
      · rcases hnow with h1 | h1
        · left; rw [hv] at h1; simp [Instr.findNow, h1]
        · right; simp [Instr.findNow, h1]
      · simp [Instr.findAsking, heq, hv]
      · intro z zv hz
        simp only [mput, hv, if_true, List.modify_zero_cons]
        exact ⟨_, r, rfl, hk.mono hI2 hw2, hz, hm.imp (fun _ _ h => VR.mono hI2 hw2 h) (fun p _ v h => hWW p.2 v h)⟩
    | false =>
      obtain ⟨r', h1, h2, h3⟩ := map_findG hT hWW hck hfl de hk hI2 hw2 m r (i + 1) hm
      refine ⟨r', ?_, ?_, ?_⟩
      · rcases hnow with h4 | h4
        · rw [hv] at h4
          rcases h1 with h1 | h1
          · left; simp [Instr.findNow, h4, h1]
          · right; simp [Instr.findNow, h4, h1]
        · right; simp [Instr.findNow, h4]
      · simp [Instr.findAsking, heq, hv, h2]
      · rcases h3 with ⟨rfl, h4, h5⟩ | ⟨j, e', y', h4, h5, h6, h7, h8, h9⟩
        · refine .inl ⟨rfl, by simp [mget, hv, h4], fun z zv b hz => ?_⟩
          simp only [mput, hv]
          exact ⟨e, _, rfl, hx.mono hI2 hw2, hWW _ _ hy, h5 z zv b hz⟩
        · refine .inr ⟨j + 1, e', y', by rw [h4]; congr 2; omega, by simp [mget, hv, h5], by simpa using h6, h7, h8, fun z zv hz => ?_⟩
          simp only [mput, hv, List.modify_succ_cons]
          exact ⟨e, _, rfl, hx.mono hI2 hw2, hWW _ _ hy, h9 z zv hz⟩

theorem run_find {P : Program} {w : World} {t : TypeId} {de : TypeDesc} (hu : P.underlying t = some de) {v : Value} {es : List MapEntry} {r : Option (Nat × Value)} (h1 : Instr.findNow de v es 0 = some r ∨ Instr.findNow de v es 0 = none)
    (h2 : (Instr.findAsking t v es 0).run P w = .ok r w) : (Instr.findKey t v es).run P w = .ok r w := by
  rcases h1 with h1 | h1 <;> simp [Instr.findKey, run_underlying hu, h1, h2]

theorem map_desc {P : Program} {T : Tbl} (hT : TblOk P T) {s : TypeId} {ti : TI} (h : T s = some ti) {kt et : TypeId} (hd : ti.d = .map kt et) : P.underlying s = some (.map kt et) := by
  obtain ⟨d, h1, h2, _⟩ := (hT s ti h).desc
  rw [hd] at h2
  cases d <;> simp only [tdOk] at h2
  obtain ⟨rfl, rfl⟩ := h2
  exact h1
theorem chk_some {T : Tbl} {t : TypeId} {y : Ty} (h : chkTy T 20 t y = true) : ∃ ti, T t = some ti := by
  simp only [chkTy] at h
  cases ht : T t with
  | none => rw [ht] at h; cases h
  | some ti => exact ⟨ti, rfl⟩

/-- A map's cell, seen. -/
theorem map_obj {w0 : Base} {φ : Nat → Value} {objs : Objs} (hg : Good w0 ⟨w, imm w0 w φ objs, φ, objs⟩) {id : Nat} {kt vt : Ty} {m : List (kt.V × vt.V)} (hl : look id objs = some (.map kt vt m)) {v : Value} (hs : Slot ⟨w, imm w0 w φ objs, φ, objs⟩ (.map id) v) :
    ∃ b es clock, φ id = .map (some b) ∧ v = .map (some b) ∧ w0.has b ∧ w.heap[b]? = some (.map es clock) ∧ kt.flat = true ∧ MapRep (imm w0 w φ objs) w kt vt m es.toList := by
  obtain ⟨ob, hob, _, hk⟩ := hs.cell rfl (by simp) (by simp)
  have : ob = .map kt vt m := by have := hob.symm.trans hl; cases this; rfl
  subst this
  obtain ⟨b, es, clock, h1, h2, h3, h4, h5⟩ := hg.obj _ _ hl
  exact ⟨b, es, clock, h1, by have : v = φ id := by simpa using hk
                              rw [this]; exact h1, h2, h3, h4, h5⟩

theorem flat_rows {objs : Objs} : ∀ {t : Ty} {v : AV} {x : t.V}, t.flat = true → toDat objs t v = some x → slIds v = [] := by
  intro t
  induction t with
  | lst t _ => intro v x h; cases h
  | pair a b iha ihb =>
    intro v x hf h
    simp only [Ty.flat, Bool.and_eq_true] at hf
    cases v <;> first | rfl | (simp [toDat] at h; done) | skip
    simp only [toDat] at h
    split at h
    · rename_i h1 h2
      simp only [slIds, iha hf.1 h1, ihb hf.2 h2, List.append_nil]
    · cases h
  | _ => intro v x _ h; cases v <;> first | rfl | (simp [toDat] at h; done)

theorem sound_lookup {x ix : Operand} {t kt0 et : TypeId} {ok : Bool} (hop : o.op = .lookup t x ix ok) (hT : TblOk C.P C.T) (hR : Rel C.w0 C.N C.as σ a w) (hd : ∀ t, o.dst = some t → t < C.N)
    {ti te : TI} (hti : C.T t = some ti) (hds : ti.d = .map kt0 et) (hte : C.T et = some te) {id : Nat} (hx : ev C.T 0 σ.fr x = some (.map id)) {kt vt : Ty} {m : List (kt.V × vt.V)} (hl : look id σ.objs = some (.map kt vt m))
    {kv : AV} (hix : ev C.T kt0 σ.fr ix = some kv) {z : vt.V} (hz : toDat [] vt te.zero = some z) {k : kt.V} (hk : toDat σ.objs kt kv = some k) (hck : chkTy C.T 20 kt0 kt = true) (hok : te.zero.ok = true)
    (he : e = if ok then { v := .tup (.pr (.dat vt (mgetD m k z)) (.pr (.dat .bool (mhas m k)) .un)), rd := id :: slIds kv } else { v := .dat vt (mgetD m k z), rd := id :: slIds kv }) : Outc C σ o e a w := by
  have key : ∀ φ, Good C.w0 ⟨w, imm C.w0 w φ σ.objs, φ, σ.objs⟩ → FrOk ⟨w, imm C.w0 w φ σ.objs, φ, σ.objs⟩ σ.fr a → ∃ u, (Instr.lookup t (a.eval x) (a.eval ix) ok).run C.P w = .ok (if ok then .tuple #[u, .bool (mhas m k)] else u) w ∧ VR (imm C.w0 w φ σ.objs) w vt (mgetD m k z) u := by
    intro φ hg hfo
    obtain ⟨b, es, clock, h1, h2, h3, h4, h5, h6⟩ := map_obj hg hl (ev_slot hfo hx)
    have hkv : VR (imm C.w0 w φ σ.objs) w kt k (a.eval ix) := toDat_vr hg.obj (fun _ h => h) hk (ev_slot hfo hix) (fun j hj => by rw [flat_rows h5 hk] at hj; cases hj)
    obtain ⟨tk, htk⟩ := chk_some hck
    obtain ⟨de, hu, _⟩ := (hT _ _ htk).desc
    obtain ⟨r, q1, q2, q3⟩ := map_find hT hck h5 de hkv (fun _ h => h) (fun _ _ => rfl) m es.toList 0 h6
    have hf := run_find hu q1 q2
    have hc := (check_flat hT (imm C.w0 w φ σ.objs) w es.isEmpty 20).1 kt0 kt hck 10000 (by omega) k _ hkv
    obtain ⟨it, hit, hsz, hby, zv, hzz, hzs, hzr⟩ := (hT et te hte).info
    have hzv : VR (imm C.w0 w φ σ.objs) w vt z zv := toDat_vr (E := ⟨w, imm C.w0 w φ σ.objs, fun _ => undef, []⟩) (base := fun _ => True) (fun id ob h => by cases h) (fun _ h => h) hz (hzr _) (fun id _ e s xs hl => by cases hl)
    have hmu := map_desc hT hti hds
    rcases q3 with ⟨rfl, q4, _⟩ | ⟨j, en, y, rfl, q4, _, _, q5, _⟩
    · refine ⟨zv, ?_, by simp only [mgetD, q4]; exact hzv⟩
      simp only [Instr.lookup, Sem.run_bind, run_underlying hmu, Result.andThen_ok, h2, MapKept.run_getObj_map h4, hc, hf, zeroValue, typeInfo, run_program, hit, hzz, Sem.run_pure, mhas, q4]
    · refine ⟨en.val, ?_, by simp only [mgetD, q4]; exact q5⟩
      simp only [Instr.lookup, Sem.run_bind, run_underlying hmu, Result.andThen_ok, h2, MapKept.run_getObj_map h4, hc, hf, Sem.run_pure, mhas, q4]
  cases ok with
  | false =>
    subst he
    have hR' := hR
    obtain ⟨⟨φ, hg, hfo, _⟩, _⟩ := hR'
    obtain ⟨u, h1, h2⟩ := key φ hg hfo
    refine Outc.value (v := u) hR hd rfl ?_ (fun φ' hg' hfo' => ?_)
    · simp only [execOp, hop, Sem.run_bind, h1, Result.andThen_ok, Sem.run_pure]; rfl
    · obtain ⟨u', h1', h2'⟩ := key φ' hg' hfo'
      rw [h1] at h1'
      simp at h1'
      subst h1'
      exact VR.slot (E := ⟨w, imm C.w0 w φ' σ.objs, φ', σ.objs⟩) h2'
  | true =>
    subst he
    have hR' := hR
    obtain ⟨⟨φ, hg, hfo, _⟩, _⟩ := hR'
    obtain ⟨u, h1, h2⟩ := key φ hg hfo
    refine Outc.value (v := .tuple #[u, .bool (mhas m k)]) hR hd rfl ?_ (fun φ' hg' hfo' => ?_)
    · simp only [execOp, hop, Sem.run_bind, h1, Result.andThen_ok, Sem.run_pure]; rfl
    · obtain ⟨u', h1', h2'⟩ := key φ' hg' hfo'
      rw [h1] at h1'
      simp at h1'
      subst h1'
      refine ⟨[u, .bool (mhas m k)], rfl, u, _, rfl, ?_, .bool (mhas m k), [], rfl, .inr ⟨rfl, rfl⟩, rfl⟩
      rcases h2' with ⟨h3, cs, h4, h5⟩ | ⟨h3, h4⟩
      · exact .inl ⟨h3, cs, h4, h5⟩
      · exact .inr ⟨h3, h4⟩

theorem vmap_obj {w0 : Base} {φ : Nat → Value} {objs : Objs} (hg : Good w0 ⟨w, imm w0 w φ objs, φ, objs⟩) {id : Nat} {kt : Ty} {m : List (kt.V × AV)} (hl : look id objs = some (.vmap kt m)) {v : Value} (hs : Slot ⟨w, imm w0 w φ objs, φ, objs⟩ (.map id) v) :
    ∃ b es clock, φ id = .map (some b) ∧ v = .map (some b) ∧ w0.has b ∧ w.heap[b]? = some (.map es clock) ∧ kt.flat = true ∧ MapG (VR (imm w0 w φ objs) w kt) (fun y v => y.ok = true ∧ Slot ⟨w, imm w0 w φ objs, φ, objs⟩ y v) m es.toList := by
  obtain ⟨ob, hob, _, hk⟩ := hs.cell rfl (by simp) (by simp)
  have : ob = .vmap kt m := by have := hob.symm.trans hl; cases this; rfl
  subst this
  obtain ⟨b, es, clock, h1, h2, h3, h4, h5⟩ := hg.obj _ _ hl
  exact ⟨b, es, clock, h1, by have : v = φ id := by simpa using hk
                              rw [this]; exact h1, h2, h3, h4, h5⟩

theorem slot_pairs {E : Env} {y : AV} {u : Value} {b : Bool} (h : Slot E y u) (hok : y.ok = true) : Slot E (.tup (.pr y (.pr (.dat .bool b) .un))) (.tuple #[u, .bool b]) := by
  refine ⟨[u, .bool b], rfl, u, _, rfl, ?_, .bool b, [], rfl, .inr ⟨rfl, rfl⟩, rfl⟩
  cases ha : y.agg with
  | true => obtain ⟨cs, h1, h2⟩ := h.toAgg ha; exact .inl ⟨rfl, cs, h1, h2⟩
  | false => exact .inr ⟨rfl, h.cell ha (AV.ok_ne hok).1 (AV.ok_ne hok).2⟩

theorem sound_lookup_v {x ix : Operand} {t kt0 et : TypeId} {ok : Bool} (hop : o.op = .lookup t x ix ok) (hT : TblOk C.P C.T) (hR : Rel C.w0 C.N C.as σ a w) (hd : ∀ t, o.dst = some t → t < C.N)
    {ti te : TI} (hti : C.T t = some ti) (hds : ti.d = .map kt0 et) (hte : C.T et = some te) {id : Nat} (hx : ev C.T 0 σ.fr x = some (.map id)) {kt : Ty} {m : List (kt.V × AV)} (hl : look id σ.objs = some (.vmap kt m))
    {kv : AV} (hix : ev C.T kt0 σ.fr ix = some kv) {k : kt.V} (hk : toDat σ.objs kt kv = some k) (hck : chkTy C.T 20 kt0 kt = true) (hok : te.zero.ok = true)
    (he : e = if ok then { v := .tup (.pr (mgetD m k te.zero) (.pr (.dat .bool (mhas m k)) .un)), rd := id :: slIds kv } else { v := mgetD m k te.zero, rd := id :: slIds kv }) : Outc C σ o e a w := by
  have key : ∀ φ, Good C.w0 ⟨w, imm C.w0 w φ σ.objs, φ, σ.objs⟩ → FrOk ⟨w, imm C.w0 w φ σ.objs, φ, σ.objs⟩ σ.fr a → ∃ u, (Instr.lookup t (a.eval x) (a.eval ix) ok).run C.P w = .ok (if ok then .tuple #[u, .bool (mhas m k)] else u) w ∧ (mgetD m k te.zero).ok = true ∧ Slot ⟨w, imm C.w0 w φ σ.objs, φ, σ.objs⟩ (mgetD m k te.zero) u := by
    intro φ hg hfo
    obtain ⟨b, es, clock, h1, h2, h3, h4, h5, h6⟩ := vmap_obj hg hl (ev_slot hfo hx)
    have hkv : VR (imm C.w0 w φ σ.objs) w kt k (a.eval ix) := toDat_vr hg.obj (fun _ h => h) hk (ev_slot hfo hix) (fun j hj => by rw [flat_rows h5 hk] at hj; cases hj)
    obtain ⟨tk, htk⟩ := chk_some hck
    obtain ⟨de, hu, _⟩ := (hT _ _ htk).desc
    obtain ⟨r, q1, q2, q3⟩ := map_findG hT (W2 := fun y v => y.ok = true ∧ Slot ⟨w, imm C.w0 w φ σ.objs, φ, σ.objs⟩ y v) (fun _ _ h => h) hck h5 de hkv (fun _ h => h) (fun _ _ => rfl) m es.toList 0 h6
    have hf := run_find hu q1 q2
    have hc := (check_flat hT (imm C.w0 w φ σ.objs) w es.isEmpty 20).1 kt0 kt hck 10000 (by omega) k _ hkv
    obtain ⟨it, hit, hsz, hby, zv, hzz, hzs, hzr⟩ := (hT et te hte).info
    have hmu := map_desc hT hti hds
    rcases q3 with ⟨rfl, q4, _⟩ | ⟨j, en, y, rfl, q4, _, _, q5, _⟩
    · refine ⟨zv, ?_, by simp only [mgetD, q4]; exact hok, by simp only [mgetD, q4]; exact hzr _⟩
      simp only [Instr.lookup, Sem.run_bind, run_underlying hmu, Result.andThen_ok, h2, MapKept.run_getObj_map h4, hc, hf, zeroValue, typeInfo, run_program, hit, hzz, Sem.run_pure, mhas, q4]
    · refine ⟨en.val, ?_, by simp only [mgetD, q4]; exact q5.1, by simp only [mgetD, q4]; exact q5.2⟩
      simp only [Instr.lookup, Sem.run_bind, run_underlying hmu, Result.andThen_ok, h2, MapKept.run_getObj_map h4, hc, hf, Sem.run_pure, mhas, q4]
  have hR' := hR
  obtain ⟨⟨φ, hg, hfo, _⟩, _⟩ := hR'
  obtain ⟨u, h1, h2, _⟩ := key φ hg hfo
  cases ok with
  | false =>
    subst he
    refine Outc.value (v := u) hR hd rfl ?_ (fun φ' hg' hfo' => ?_)
    · simp only [execOp, hop, Sem.run_bind, h1, Result.andThen_ok, Sem.run_pure]; rfl
    · obtain ⟨u', h1', _, h2'⟩ := key φ' hg' hfo'
      rw [h1] at h1'
      simp at h1'
      subst h1'
      exact h2'
  | true =>
    subst he
    refine Outc.value (v := .tuple #[u, .bool (mhas m k)]) hR hd rfl ?_ (fun φ' hg' hfo' => ?_)
    · simp only [execOp, hop, Sem.run_bind, h1, Result.andThen_ok, Sem.run_pure]; rfl
    · obtain ⟨u', h1', hok', h2'⟩ := key φ' hg' hfo'
      rw [h1] at h1'
      simp at h1'
      subst h1'
      exact slot_pairs h2' hok'

theorem sound_mapUpdate_v {mm k x : Operand} {t : TypeId} (hop : o.op = .mapUpdate t mm k x ∨ o.op = .insert t mm k x) (hT : TblOk C.P C.T) (hR : Rel C.w0 C.N C.as σ a w) (hd : ∀ t, o.dst = some t → t < C.N)
    {ti : TI} {kt0 et : TypeId} (hti : C.T t = some ti) (hds : ti.d = .map kt0 et) {id : Nat} (hid : ev C.T 0 σ.fr mm = some (.map id)) {kt : Ty} {m : List (kt.V × AV)} (hl : look id σ.objs = some (.vmap kt m)) {kv xv : AV} (hkv : ev C.T kt0 σ.fr k = some kv) (hxv : ev C.T et σ.fr x = some xv)
    {kd : kt.V} (hkd : toDat σ.objs kt kv = some kd) (hck : chkTy C.T 20 kt0 kt = true) (hok : xv.ok = true) (he : e = { v := .any, upd := [(id, .vmap kt (mput m kd xv))], rd := slIds kv, wr := [id] }) : Outc C σ o e a w := by
  subst he
  obtain ⟨⟨φ, hg, hfo, hh⟩, hN⟩ := hR
  obtain ⟨b, es, clock, h1, h2, h3, h4, h5, h6⟩ := vmap_obj hg hl (ev_slot hfo hid)
  have hkv' : VR (imm C.w0 w φ σ.objs) w kt kd (a.eval k) := toDat_vr hg.obj (fun _ h => h) hkd (ev_slot hfo hkv) (fun j hj => by rw [flat_rows h5 hkd] at hj; cases hj)
  obtain ⟨tk, htk⟩ := chk_some hck
  obtain ⟨de, hu, _⟩ := (hT _ _ htk).desc
  have hc := (check_flat hT (imm C.w0 w φ σ.objs) w false 20).1 kt0 kt hck 10000 (by omega) kd _ hkv'
  have hmu := map_desc hT hti hds
  have hlt : b < w.heap.size := (Array.getElem?_eq_some_iff.1 h4).1
  have hxv' := ev_slot hfo hxv
  have main : ∃ es' clock', (Instr.mapUpdate t (a.eval mm) (a.eval k) (a.eval x)).run C.P w = .ok () { w with heap := w.heap.setIfInBounds b (.map es' clock') } ∧
      ∀ E' : Env, E'.w = { w with heap := w.heap.setIfInBounds b (.map es' clock') } → EnvLe ⟨w, imm C.w0 w φ σ.objs, φ, σ.objs⟩ E' → MapG (VR E'.I E'.w kt) (fun y v => y.ok = true ∧ Slot E' y v) (mput m kd xv) es'.toList := by
    have fnd := fun (I2 : Nat → Prop) (w2 : World) (W2 : AV → Value → Prop) (hWW : ∀ y v, (y.ok = true ∧ Slot ⟨w, imm C.w0 w φ σ.objs, φ, σ.objs⟩ y v) → W2 y v) (hI2 : ∀ b, imm C.w0 w φ σ.objs b → I2 b) (hw2 : ∀ b, imm C.w0 w φ σ.objs b → w2.heap[b]? = w.heap[b]?) => map_findG hT hWW hck h5 de hkv' hI2 hw2 m es.toList 0 h6
    obtain ⟨r, q1, q2, q3⟩ := fnd _ _ _ (fun _ _ h => h) (fun _ h => h) (fun _ _ => rfl)
    have hf := run_find hu q1 q2
    rcases q3 with ⟨rfl, q4, _⟩ | ⟨j, en, y, hr, q4, q5, q6, q7, _⟩
    · refine ⟨es.push { key := a.eval k, val := a.eval x, born := clock }, clock + 1, ?_, fun E' hw hle' => ?_⟩
      · simp only [Instr.mapUpdate, Sem.run_bind, run_underlying hmu, Result.andThen_ok, h2, MapKept.run_getObj_map h4, hc, hf, MapKept.run_setObj_map _ h4]
      · obtain ⟨r', _, q2', q3'⟩ := fnd E'.I E'.w (fun y v => y.ok = true ∧ Slot E' y v) (fun y v h => ⟨h.1, Slot.mono hg.shaped hle' h.2⟩) hle'.I hle'.heap
        rw [q2] at q2'
        have : r' = none := by simpa using q2'.symm
        subst this
        rcases q3' with ⟨_, _, q⟩ | ⟨j, en, y, hbad, _⟩
        · rw [Array.toList_push]
          exact q xv _ clock ⟨hok, Slot.mono hg.shaped hle' hxv'⟩
        · cases hbad
    · subst hr
      have hj : es[j]? = some en := by simpa using q5
      refine ⟨es.modify j fun e => { e with key := a.eval k, val := a.eval x }, clock, ?_, fun E' hw hle' => ?_⟩
      · have hks : (Instr.keyThatStays (a.eval k) (a.eval k)).run C.P w = .ok (a.eval k) w := by simp [Instr.keyThatStays, vr_same h5 hkv' 9999]
        simp only [Instr.mapUpdate, Sem.run_bind, run_underlying hmu, Result.andThen_ok, h2, MapKept.run_getObj_map h4, hc, hf, Nat.zero_add, hj, Option.map_some, Option.getD_some, q6, hks, MapKept.run_setObj_map _ h4]
      · obtain ⟨r', _, q2', q3'⟩ := fnd E'.I E'.w (fun y v => y.ok = true ∧ Slot E' y v) (fun y v h => ⟨h.1, Slot.mono hg.shaped hle' h.2⟩) hle'.I hle'.heap
        rw [q2] at q2'
        have : r' = some (0 + j, en.val) := by simpa using q2'.symm
        subst this
        rcases q3' with ⟨hbad, _⟩ | ⟨j', en', y', hr', _, _, _, _, q⟩
        · cases hbad
        · have : j' = j := by simp at hr'; omega
          subst this
          rw [Array.toList_modify]
          exact q xv _ ⟨hok, Slot.mono hg.shaped hle' hxv'⟩
  obtain ⟨es', clock', hrun, hrep⟩ := main
  have hrun' : (execOp a.eval o).run C.P w = .ok .skip { w with heap := w.heap.setIfInBounds b (.map es' clock') } := by
    rcases hop with hop | hop <;> simp [execOp, hop, hrun]
  refine Outc.store hrun' hg hfo hh hN hd (ids := []) (b := b) hl (fun h => by cases h) rfl (by simp [Evo]) rfl (by rw [h1]; rfl) rfl rfl rfl (by simp) (fun k hk => by simp [Ne.symm hk]) ?_ rfl rfl
  intro hle' hg2 E' hw hφ hle2
  exact ⟨b, es', clock', by rw [hφ]; exact h1, h3, by rw [hw]; simp [hlt], h5, hrep E' hw (hle'.trans hle2)⟩

theorem sound_mapUpdate {mm k x : Operand} {t : TypeId} (hop : o.op = .mapUpdate t mm k x ∨ o.op = .insert t mm k x) (hT : TblOk C.P C.T) (hR : Rel C.w0 C.N C.as σ a w) (hd : ∀ t, o.dst = some t → t < C.N)
    (he : mapEff C.T σ.fr σ.objs t mm k x = some e) : Outc C σ o e a w := by
  unfold mapEff at he
  split at he <;> try (cases he; done)
  rename_i kt0 et _ _ _ _ _ hti
  split at he <;> try (cases he; done)
  rename_i id hid
  split at he <;> try (cases he; done)
  case h_2 =>
    rename_i kt m hl
    split at he <;> try (cases he; done)
    rename_i kv xv hkv hxv
    split at he <;> try (cases he; done)
    rename_i kd hkd
    split at he <;> try (cases he; done)
    rename_i hck
    simp only [Option.some.injEq] at he
    subst he
    exact sound_mapUpdate_v hop hT hR hd hti rfl hid hl hkv hxv hkd hck.1 hck.2 rfl
  rename_i kt vt m hl
  split at he <;> try (cases he; done)
  rename_i kv xv hkv hxv
  split at he <;> try (cases he; done)
  rename_i kd xd hkd hxd
  split at he <;> try (cases he; done)
  rename_i hck
  simp only [Option.some.injEq] at he
  subst he
  obtain ⟨⟨φ, hg, hfo, hh⟩, hN⟩ := hR
  obtain ⟨b, es, clock, h1, h2, h3, h4, h5, h6⟩ := map_obj hg hl (ev_slot hfo hid)
  have hkv' : VR (imm C.w0 w φ σ.objs) w kt kd (a.eval k) := toDat_vr hg.obj (fun _ h => h) hkd (ev_slot hfo hkv) (fun j hj => by rw [flat_rows h5 hkd] at hj; cases hj)
  obtain ⟨tk, htk⟩ := chk_some hck
  obtain ⟨de, hu, _⟩ := (hT _ _ htk).desc
  have hle := (Good.freeze hg (slIds xv)).2
  have hc := (check_flat hT (imm C.w0 w φ σ.objs) w false 20).1 kt0 kt hck 10000 (by omega) kd _ hkv'
  have hmu := map_desc hT hti rfl
  have hlt : b < w.heap.size := (Array.getElem?_eq_some_iff.1 h4).1
  have hxv' := toDat_frozen_vr hg hxd (ev_slot hfo hxv) (fun _ h => h) (ids := slIds xv)
  have main : ∃ es' clock', (Instr.mapUpdate t (a.eval mm) (a.eval k) (a.eval x)).run C.P w = .ok () { w with heap := w.heap.setIfInBounds b (.map es' clock') } ∧
      ∀ E' : Env, E'.w = { w with heap := w.heap.setIfInBounds b (.map es' clock') } → EnvLe ⟨w, imm C.w0 w φ (freeze σ.objs (slIds xv) ++ σ.objs), φ, freeze σ.objs (slIds xv) ++ σ.objs⟩ E' → MapRep E'.I E'.w kt vt (mput m kd xd) es'.toList := by
    have fnd := fun (I2 : Nat → Prop) (w2 : World) (hI2 : ∀ b, imm C.w0 w φ σ.objs b → I2 b) (hw2 : ∀ b, imm C.w0 w φ σ.objs b → w2.heap[b]? = w.heap[b]?) => map_find hT (vt := vt) hck h5 de hkv' hI2 hw2 m es.toList 0 h6
    obtain ⟨r, q1, q2, q3⟩ := fnd _ _ (fun _ h => h) (fun _ _ => rfl)
    have hf := run_find hu q1 q2
    rcases q3 with ⟨rfl, q4, _⟩ | ⟨j, en, y, hr, q4, q5, q6, q7, _⟩
    · refine ⟨es.push { key := a.eval k, val := a.eval x, born := clock }, clock + 1, ?_, fun E' hw hle' => ?_⟩
      · simp only [Instr.mapUpdate, Sem.run_bind, run_underlying hmu, Result.andThen_ok, h2, MapKept.run_getObj_map h4, hc, hf, MapKept.run_setObj_map _ h4]
      · obtain ⟨r', _, q2', q3'⟩ := fnd E'.I E'.w (fun b hb => hle'.I b (hle.I b hb)) (fun b hb => hle'.heap b (hle.I b hb))
        rw [q2] at q2'
        have : r' = none := by simpa using q2'.symm
        subst this
        rcases q3' with ⟨_, _, q⟩ | ⟨j, en, y, hbad, _⟩
        · rw [Array.toList_push]
          exact q xd _ clock (hxv'.mono hle'.I hle'.heap)
        · cases hbad
    · subst hr
      have hj : es[j]? = some en := by simpa using q5
      refine ⟨es.modify j fun e => { e with key := a.eval k, val := a.eval x }, clock, ?_, fun E' hw hle' => ?_⟩
      · have hks : (Instr.keyThatStays (a.eval k) (a.eval k)).run C.P w = .ok (a.eval k) w := by simp [Instr.keyThatStays, vr_same h5 hkv' 9999]
        simp only [Instr.mapUpdate, Sem.run_bind, run_underlying hmu, Result.andThen_ok, h2, MapKept.run_getObj_map h4, hc, hf, Nat.zero_add, hj, Option.map_some, Option.getD_some, q6, hks, MapKept.run_setObj_map _ h4]
      · obtain ⟨r', _, q2', q3'⟩ := fnd E'.I E'.w (fun b hb => hle'.I b (hle.I b hb)) (fun b hb => hle'.heap b (hle.I b hb))
        rw [q2] at q2'
        have : r' = some (0 + j, en.val) := by simpa using q2'.symm
        subst this
        rcases q3' with ⟨hbad, _⟩ | ⟨j', en', y', hr', _, _, _, _, q⟩
        · cases hbad
        · have : j' = j := by simp at hr'; omega
          subst this
          rw [Array.toList_modify]
          exact q xd _ (hxv'.mono hle'.I hle'.heap)
  obtain ⟨es', clock', hrun, hrep⟩ := main
  have hrun' : (execOp a.eval o).run C.P w = .ok .skip { w with heap := w.heap.setIfInBounds b (.map es' clock') } := by
    rcases hop with hop | hop <;> simp [execOp, hop, hrun]
  refine Outc.store hrun' hg hfo hh hN hd (ids := slIds xv) (b := b) hl (fun _ _ _ _ h => by cases h) rfl (by simp [Evo]) rfl (by rw [h1]; rfl) rfl rfl rfl (by simp) (fun k hk => by simp [Ne.symm hk]) ?_ rfl rfl
  intro hle' hg2 E' hw hφ hle2
  exact ⟨b, es', clock', by rw [hφ]; exact h1, h3, by rw [hw]; simp [hlt], h5, hrep E' hw hle2⟩
end
end
end Go.Ab

namespace Go.Ab
noncomputable section
open Go Go.RowKit

section
variable {C : Cx} {o : Oper} {σ : St} {e : Eff} {a : Act} {w : World}

/-! #### slices of strings and of rows -/
theorem bnd_run {T : Tbl} {E : Env} {fr : Fr} {a : Act} (hf : FrOk E fr a) {z : Int} {lo : Option Operand} {l : Int} (h : bnd T fr z lo = some l) : (lo = none ∧ l = z) ∨ ∃ x k, lo = some x ∧ a.eval x = .int k l := by
  cases lo with
  | none => simp only [bnd, Option.some.injEq] at h; exact .inl ⟨rfl, h.symm⟩
  | some x =>
    simp only [bnd] at h
    split at h
    · rename_i k n hn
      cases h
      exact .inr ⟨x, k, rfl, (ev_slot hf hn).int⟩
    · cases h

theorem sub_str_size (s : ByteArray) (l h : Int) : (subS s l h).size ≤ s.size := by
  simp only [subS, ByteArray.size_extract]; omega

/-- A row's element size and length. -/
def AObj.rowLike : AObj → Option (Nat × Nat)
  | .row _ t xs => some (t.size, xs.length)
  | .vrow _ sz xs => some (sz, xs.length)
  | _ => none
theorem part_view {E : Env} {id lo hi s len : Nat} {o : AObj} {cs : List Value} (h : PartOk E id lo hi cs) (hl : look id E.objs = some o) (hv : o.rowLike = some (s, len)) :
    lo ≤ hi ∧ hi ≤ len ∧ ∃ ad n cap ad', E.φ id = .slice ad n cap ∧ cs = [.slice (some ad') (hi - lo) (cap - lo)] ∧ (cap ≠ lo → some ad' = ad.map (·.add (lo * s))) := by
  obtain ⟨o', ho, _, h⟩ := h
  have : o' = o := by have := ho.symm.trans hl; cases this; rfl
  subst this
  cases o' <;> simp only [AObj.rowLike, Option.some.injEq, Prod.mk.injEq, reduceCtorEq] at hv
  all_goals (obtain ⟨rfl, rfl⟩ := hv; exact h)
theorem part_mk {E : Env} {id lo hi s len : Nat} {o : AObj} {cs : List Value} (hl : look id E.objs = some o) (hv : o.rowLike = some (s, len))
    (h : lo ≤ hi ∧ hi ≤ len ∧ ∃ ad n cap ad', E.φ id = .slice ad n cap ∧ cs = [.slice (some ad') (hi - lo) (cap - lo)] ∧ (cap ≠ lo → some ad' = ad.map (·.add (lo * s)))) : PartOk E id lo hi cs := by
  have h' := h
  obtain ⟨_, _, ad, n, cap, ad', _, h4, _⟩ := h'
  refine ⟨o, hl, ⟨_, _, _, h4⟩, ?_⟩
  cases o <;> simp only [AObj.rowLike, Option.some.injEq, Prod.mk.injEq, reduceCtorEq] at hv
  all_goals (obtain ⟨rfl, rfl⟩ := hv; exact h)
theorem own_view {E : Env} {ow : Nat → Prop} {id s len : Nat} {o : AObj} (h : ObjRep E ow id o) (hv : o.rowLike = some (s, len)) : ∃ el cells, OwnR E.w ow el s (E.φ id) len cells := by
  cases o <;> simp only [AObj.rowLike, Option.some.injEq, Prod.mk.injEq, reduceCtorEq] at hv
  all_goals (obtain ⟨rfl, rfl⟩ := hv; obtain ⟨cells, _, h⟩ := h; exact ⟨_, cells, h⟩)
theorem sl_view {E : Env} {id s len : Nat} {o : AObj} {v : Value} (h : SlOk E id [v]) (hl : look id E.objs = some o) (hv : o.rowLike = some (s, len)) : v = E.φ id := by
  obtain ⟨o', ho, _, h⟩ := h
  have : o' = o := by have := ho.symm.trans hl; cases this; rfl
  subst this
  cases o' <;> simp only [AObj.rowLike, Option.some.injEq, Prod.mk.injEq, reduceCtorEq] at hv
  all_goals simpa using h

theorem sound_slice {t : TypeId} {x : Operand} {lo hi : Option Operand} (hop : o.op = .slice t x lo hi none) (hT : TblOk C.P C.T) (hR : Rel C.w0 C.N C.as σ a w) (hd : ∀ t, o.dst = some t → t < C.N)
    (he : sliceEff C.T σ.fr σ.objs t x lo hi = some e) (hcs : ∀ q ∈ e.conds, q.holds) : Outc C σ o e a w := by
  have hR' := hR
  obtain ⟨⟨φ, hg, hfo, hh⟩, hN⟩ := hR'
  have opt : (execOp a.eval o).run C.P w = ((Instr.sliceAt t (a.eval x) (lo.map a.eval) (hi.map a.eval) none).run C.P w).andThen fun v w => .ok (.value v) w := by
    simp only [execOp, hop, Option.map_none, Sem.run_bind, Sem.run_pure]
  unfold sliceEff at he
  split at he <;> try (cases he; done)
  · -- a string
    rename_i hti
    split at he <;> try (cases he; done)
    rename_i s hx
    split at he <;> try (cases he; done)
    rename_i l h hl hh'
    simp only [Option.some.injEq] at he
    subst he
    obtain ⟨h0, h1, h2⟩ : SubOk l h (ByteArray.size s) := hcs (.subOk l h (ByteArray.size s)) (by simp)
    obtain ⟨hxe, hsm⟩ := (ev_slot hfo hx).str'
    obtain ⟨de, hu, htd, _⟩ := (hT _ _ hti).desc
    have hu' : C.P.underlying t = some .string := by cases de <;> simp only [tdOk] at htd; exact hu
    refine Outc.value (v := .string (subS s l h)) hR hd rfl ?_ (fun _ _ _ => Slot.mkStr _ (Nat.le_trans (sub_str_size s l h) hsm))
    rw [opt, hxe, run_sliceAt_string w t _ _ _ _ hu']
    have h2' : h ≤ (s.size : Int) := h2
    rcases bnd_run hfo hl with ⟨rfl, rfl⟩ | ⟨x1, k1, rfl, e1⟩ <;> rcases bnd_run hfo hh' with ⟨rfl, rfl⟩ | ⟨x2, k2, rfl, e2⟩
    · rw [show (Option.map a.eval (none : Option Operand)) = none from rfl, run_slice_string_all w t s hu']
      rfl
    · rw [Option.map_some, e2, show (Option.map a.eval (none : Option Operand)) = none from rfl, run_slice_string_h w t s hu' k2 h h1 h2']
      rfl
    · rw [Option.map_some, e1, show (Option.map a.eval (none : Option Operand)) = none from rfl, run_slice_string_l w t s hu' k1 l h0 h1]
      rfl
    · rw [Option.map_some, Option.map_some, e1, e2, run_slice_string w t s k1 k2 l h hu' h0 h1 h2']
      rfl
  · rename_i el _ _ _ _ _ hti
    split at he <;> try (cases he; done)
    rename_i te v hte hx
    split at he <;> try (cases he; done)
    rename_i ty hty
    have hty' := (hT el te hte).ty ty hty
    have hu := slice_elem hT hti rfl
    have hel : C.P.elem t = el := by simp [Program.elem, hu]
    have hu' : C.P.underlying t = some (.slice (C.P.elem t)) := by rw [hel]; exact hu
    have hso : (Go.sizeOf (C.P.elem t)).run C.P w = .ok te.size w := by rw [hel]; exact (hT el te hte).sizeOf w
    -- the machine's own
    have hrun : ∀ {ad : Option Addr} {n cap : Nat} {l h : Int}, a.eval x = .slice ad n cap → n ≤ cap → bnd C.T σ.fr 0 lo = some l → bnd C.T σ.fr (n : Nat) hi = some h → 0 ≤ l → l ≤ h → h ≤ n →
        (execOp a.eval o).run C.P w = .ok (.value (sliced ad l.toNat h.toNat cap te.size)) w := by
      intro ad n cap l h hve' hnc hl hh' h0 h1 h2
      rw [opt, hve', run_sliceAt_slice w t _ _ _ _ hu']
      rcases bnd_run hfo hl with ⟨rfl, rfl⟩ | ⟨x1, k1, rfl, e1⟩ <;> rcases bnd_run hfo hh' with ⟨rfl, rfl⟩ | ⟨x2, k2, rfl, e2⟩
      · simp only [Option.map_none]
        rw [run_slice_all w t ad n cap hu', hso]
        rfl
      · simp only [Option.map_none, Option.map_some, e2]
        rw [run_slice_h w t ad n cap hu' k2 h h1 (by omega), hso]
        rfl
      · simp only [Option.map_none, Option.map_some, e1]
        rw [run_slice_l w t ad n cap hu' k1 l h0 (by omega), hso]
        rfl
      · simp only [Option.map_some, e1, e2]
        rw [run_slice_lh w t ad n cap hu' k1 k2 l h h0 h1 (by omega), hso]
        rfl
    -- data
    have dat : ∀ {e : Eff}, sliceDat C.T σ.fr σ.objs ty v lo hi = some e → (∀ q ∈ e.conds, q.holds) → Outc C σ o e a w := by
      intro e he hcs
      unfold sliceDat at he
      split at he <;> try (cases he; done)
      rename_i xs hxs
      split at he <;> try (cases he; done)
      rename_i l h hl hh'
      simp only [Option.some.injEq] at he
      subst he
      obtain ⟨h0, h1, h2⟩ : SubOk l h (List.length (α := ty.V) xs) := hcs (.subOk l h (List.length (α := ty.V) xs)) (by simp)
      have hslot := (ev_slot hfo hx).cell (readL_agg hxs) (AV.ok_ne (toDat_ok hxs)).1 (AV.ok_ne (toDat_ok hxs)).2
      have hfz := toDat_frozen hg hxs hslot (fun _ h => h) (ids := slIds v)
      obtain ⟨g2, l2⟩ := Good.freeze hg (slIds v)
      have hfz' := hfz
      obtain ⟨ad, n, cap, cells, hve, hlen, hnc, hcap, _, _⟩ := hfz
      have hve' : a.eval x = .slice ad n cap := by simpa using hve
      have hlen' : List.length (α := ty.V) xs = n := hlen
      rw [hve'] at hfz'
      have hres := repc_sub hfz' (l := l.toNat) (hi := h.toNat) (by omega) (by omega) (ad2 := if cap = l.toNat then ad else ad.map (·.add (l.toNat * ty.size))) (fun h => by rw [if_neg h])
      have hr := hrun hve' hnc hl (by rw [← hlen']; exact hh') h0 h1 (by omega)
      refine ⟨_, _, w, hr, .inl rfl, Rel.next (φ := φ) (φ' := φ) hg hfo hh hN hd l2 g2 ?_⟩
      rw [← hty'.1]
      exact Slot.ofCell (a := .dat (.lst ty) _) hres rfl
    -- a part of a row
    have part : ∀ {id lo0 hi0 s len : Nat} {ob : AObj} {l h : Int}, ev C.T t σ.fr x = some (.sub id lo0 hi0) → look id σ.objs = some ob → ob.rowLike = some (s, len) → te.size = s → bnd C.T σ.fr 0 lo = some l → bnd C.T σ.fr (hi0 - lo0 : Nat) hi = some h → SubOk l h (hi0 - lo0) →
        e.v = .sub id (lo0 + Int.toNat l) (lo0 + Int.toNat h) → e.upd = [] → Outc C σ o e a w := by
      rintro id lo0 hi0 s len ob l h hx hob hv hsz hl hh' ⟨h0, h1, h2⟩ hev hupd
      obtain ⟨q1, q2, ad, n, cap, ad', q3, q4, q5⟩ := part_view ((ev_slot hfo hx).cell rfl (by simp) (by simp)) hob hv
      have hn : len ≤ cap ∧ n = len := by
        obtain ⟨el, cells, _, hown⟩ := own_view (hg.obj _ _ hob) hv
        rcases hown with ⟨h8, ad', h9⟩ | ⟨g, cap', cur, h9, _, _, h12, _⟩
        · have hφ := h9.symm.trans q3
          simp only [Value.slice.injEq] at hφ
          omega
        · have hφ := h9.symm.trans q3
          simp only [Value.slice.injEq] at hφ
          omega
      have hve' : a.eval x = .slice (some ad') (hi0 - lo0) (cap - lo0) := by simpa using q4
      have hr := hrun hve' (by omega) hl hh' h0 h1 h2
      refine Outc.value (v := _) hR hd hupd hr (fun φ2 hg2 hfo2 => ?_)
      obtain ⟨_, _, ad2, n2, cap2, ad2', q32, q42, q52⟩ := part_view ((ev_slot hfo2 hx).cell rfl (by simp) (by simp)) hob hv
      have hve2 : a.eval x = .slice (some ad2') (hi0 - lo0) (cap2 - lo0) := by simpa using q42
      have hn2 : len ≤ cap2 ∧ (cap2 ≠ 0 → ∃ g, ad2 = some ⟨g, 0, none⟩) := by
        obtain ⟨el, cells, _, hown⟩ := own_view (hg2.obj _ _ hob) hv
        rcases hown with ⟨h8, ad', h9⟩ | ⟨g, cap', cur, h9, _, _, h12, _⟩
        · have hφ := h9.symm.trans q32
          simp only [Value.slice.injEq] at hφ
          exact ⟨by omega, fun h => absurd hφ.2.2.symm h⟩
        · have hφ := h9.symm.trans q32
          simp only [Value.slice.injEq] at hφ
          exact ⟨by omega, fun _ => ⟨g, hφ.1.symm⟩⟩
      have heq := hve'.symm.trans hve2
      simp only [Value.slice.injEq, Option.some.injEq] at heq
      obtain ⟨rfl, _, e2⟩ := heq
      rw [hev]
      refine Slot.ofCell (part_mk (E := ⟨w, imm C.w0 w φ2 σ.objs, φ2, σ.objs⟩) hob hv ⟨by omega, by omega, ad2, n2, cap2, if cap - lo0 = l.toNat then ad' else ad'.add (l.toNat * te.size), q32, ?_, fun hne => ?_⟩) rfl
      · unfold sliced
        simp only [List.cons.injEq, Value.slice.injEq, and_true]
        refine ⟨?_, by omega, by omega⟩
        split <;> rfl
      · have hc0 : cap2 ≠ lo0 := by omega
        have hcc : ¬ cap - lo0 = l.toNat := by omega
        obtain ⟨g, rfl⟩ := hn2.2 (by omega)
        have h5 := q52 hc0
        simp only [Option.map_some, add_at, Nat.zero_add, Option.some.injEq] at h5
        subst h5
        rw [if_neg hcc]
        simp only [Option.map_some, add_at, hsz, Nat.add_mul, Nat.zero_add]
    -- a whole row
    have whole : ∀ {id s len : Nat} {ob : AObj} {l h : Int}, ev C.T t σ.fr x = some (.sl id) → look id σ.objs = some ob → ob.rowLike = some (s, len) → te.size = s → bnd C.T σ.fr 0 lo = some l → bnd C.T σ.fr (len : Nat) hi = some h → SubOk l h len →
        e.v = .sub id (Int.toNat l) (Int.toNat h) → e.upd = [] → Outc C σ o e a w := by
      rintro id s len ob l h hx hob hv hsz hl hh' ⟨h0, h1, h2⟩ hev hupd
      have hd1 : ∀ φ2, Good C.w0 ⟨w, imm C.w0 w φ2 σ.objs, φ2, σ.objs⟩ → FrOk ⟨w, imm C.w0 w φ2 σ.objs, φ2, σ.objs⟩ σ.fr a → ∃ ad cap, φ2 id = .slice (some ad) len cap ∧ a.eval x = .slice (some ad) len cap ∧ len ≤ cap := by
        intro φ2 hg2 hfo2
        have hve : a.eval x = φ2 id := sl_view (E := ⟨w, imm C.w0 w φ2 σ.objs, φ2, σ.objs⟩) ((ev_slot hfo2 hx).cell rfl (by simp) (by simp)) hob hv
        obtain ⟨el, cells, _, hown⟩ := own_view (hg2.obj _ _ hob) hv
        rcases hown with ⟨h8, ad', h9⟩ | ⟨g, cap', cur, h9, _, _, h12, _⟩
        · exact ⟨ad', 0, by rw [h8]; exact h9, by rw [hve, h8]; exact h9, by omega⟩
        · exact ⟨_, _, h9, hve.trans h9, h12⟩
      obtain ⟨ad, cap, q1, q2, q3⟩ := hd1 φ hg hfo
      have hr := hrun q2 q3 hl hh' h0 h1 h2
      refine Outc.value (v := _) hR hd hupd hr (fun φ2 hg2 hfo2 => ?_)
      obtain ⟨ad2, cap2, q12, q22, q32⟩ := hd1 φ2 hg2 hfo2
      have heq := q2.symm.trans q22
      simp only [Value.slice.injEq, Option.some.injEq] at heq
      obtain ⟨rfl, _, rfl⟩ := heq
      rw [hev]
      refine Slot.ofCell (part_mk (E := ⟨w, imm C.w0 w φ2 σ.objs, φ2, σ.objs⟩) hob hv ⟨by omega, by omega, some ad, _, cap, if cap = l.toNat then ad else ad.add (l.toNat * te.size), q12, ?_, fun hne => by rw [if_neg hne, hsz]; rfl⟩) rfl
      unfold sliced
      simp only [List.cons.injEq, Value.slice.injEq, and_true]
      split <;> rfl
    split at he
    · rename_i id lo0 hi0
      split at he <;> try (cases he; done)
      · rename_i hob
        split at he <;> try (cases he; done)
        rename_i hsz
        split at he <;> try (cases he; done)
        rename_i l h hl hh'
        simp only [Option.some.injEq] at he
        exact part hx hob rfl hsz hl hh' (hcs (.subOk l h (hi0 - lo0)) (by rw [← he]; simp)) (by rw [← he]) (by rw [← he])
      · rename_i hob
        split at he <;> try (cases he; done)
        rename_i hsz
        split at he <;> try (cases he; done)
        rename_i l h hl hh'
        simp only [Option.some.injEq] at he
        exact part hx hob rfl hsz hl hh' (hcs (.subOk l h (hi0 - lo0)) (by rw [← he]; simp)) (by rw [← he]) (by rw [← he])
    · split at he <;> try (cases he; done)
      rename_i l h hl hh'
      simp only [Option.some.injEq] at he
      subst he
      obtain ⟨h0, h1, h2⟩ : SubOk l h 0 := hcs (.subOk l h 0) (by simp)
      have hve : a.eval x = .slice none 0 0 := by
        have h : [a.eval x] = [Value.slice none 0 0] := (ev_slot hfo hx).cell rfl (by simp) (by simp)
        simpa using h
      have hr := hrun hve (Nat.le_refl _) hl hh' h0 h1 h2
      have e1 : l.toNat = 0 := by omega
      have e2 : h.toNat = 0 := by omega
      rw [e1, e2] at hr
      exact Outc.value (v := .slice none 0 0) hR hd rfl hr (fun φ2 hg2 hfo2 => Slot.ofCell (show [_] = [_] from rfl) rfl)
    · rename_i id
      split at he <;> try (cases he; done)
      · rename_i xs hob
        split at he <;> try (cases he; done)
        rename_i hsz
        split at he <;> try (cases he; done)
        rename_i l h hl hh'
        simp only [Option.some.injEq] at he
        exact whole hx hob rfl hsz hl hh' (hcs (.subOk l h xs.length) (by rw [← he]; simp)) (by rw [← he]) (by rw [← he])
      · rename_i ty' xs hob
        split at he <;> try (cases he; done)
        rename_i hsz
        split at he <;> try (cases he; done)
        rename_i l h hl hh'
        simp only [Option.some.injEq] at he
        exact whole hx hob rfl hsz hl hh' (hcs (.subOk l h xs.length) (by rw [← he]; simp)) (by rw [← he]) (by rw [← he])
      · exact dat he hcs
    · exact dat he hcs

/-- A slice against nil. -/
theorem sound_nil {op : BinOp} {t t' : TypeId} {x y : Operand} (hop : o.op = .binOp op t x y t') (hT : TblOk C.P C.T) (hR : Rel C.w0 C.N C.as σ a w) (hd : ∀ t, o.dst = some t → t < C.N)
    {u v : AV} (hx : ev C.T t σ.fr x = some u) (hy : ev C.T t' σ.fr y = some v) (he : nilEff C.T σ.objs t op u v = some e) : Outc C σ o e a w := by
  unfold nilEff at he
  split at he <;> try (cases he; done)
  rename_i el _ _ _ _ _ _ hti
  split at he <;> try (cases he; done)
  rename_i r rd hr
  have hu := slice_elem hT hti rfl
  have hR' := hR
  obtain ⟨⟨φ, hg, hfo, hh⟩, hN⟩ := hR'
  have hye : a.eval y = .slice none 0 0 := by
    have h : [a.eval y] = [Value.slice none 0 0] := (ev_slot hfo hy).cell rfl (by simp) (by simp)
    simpa using h
  have hxe : ∃ ad n c, a.eval x = .slice ad n c ∧ ad.isNone = r := by
    have own : ∀ {id s len : Nat} {ob : AObj}, look id σ.objs = some ob → ob.rowLike = some (s, len) → SlOk ⟨w, imm C.w0 w φ σ.objs, φ, σ.objs⟩ id [a.eval x] → ∃ ad n c, a.eval x = .slice ad n c ∧ ad.isNone = false := by
      intro id s len ob hl hv hk
      have hve := sl_view hk hl hv
      obtain ⟨el, cells, _, hown⟩ := own_view (hg.obj _ _ hl) hv
      rcases hown with ⟨h8, ad', h9⟩ | ⟨g, cap', cur, h9, _⟩
      · exact ⟨_, _, _, hve.trans h9, rfl⟩
      · exact ⟨_, _, _, hve.trans h9, rfl⟩
    split at hr <;> try (cases hr; done)
    · simp only [Option.some.injEq, Prod.mk.injEq] at hr
      obtain ⟨rfl, _⟩ := hr
      have h : [a.eval x] = [Value.slice none 0 0] := (ev_slot hfo hx).cell rfl (by simp) (by simp)
      exact ⟨none, 0, 0, by simpa using h, rfl⟩
    · split at hr <;> try (cases hr; done)
      · rename_i hl
        simp only [Option.some.injEq, Prod.mk.injEq] at hr
        obtain ⟨rfl, _⟩ := hr
        exact own hl rfl ((ev_slot hfo hx).cell rfl (by simp) (by simp))
      · rename_i hl
        simp only [Option.some.injEq, Prod.mk.injEq] at hr
        obtain ⟨rfl, _⟩ := hr
        exact own hl rfl ((ev_slot hfo hx).cell rfl (by simp) (by simp))
    · split at hr <;> try (cases hr; done)
      · rename_i hl
        simp only [Option.some.injEq, Prod.mk.injEq] at hr
        obtain ⟨rfl, _⟩ := hr
        obtain ⟨_, _, ad, n, cap, ad', _, q4, _⟩ := part_view ((ev_slot hfo hx).cell rfl (by simp) (by simp)) hl rfl
        exact ⟨some ad', _, _, by simpa using q4, rfl⟩
      · rename_i hl
        simp only [Option.some.injEq, Prod.mk.injEq] at hr
        obtain ⟨rfl, _⟩ := hr
        obtain ⟨_, _, ad, n, cap, ad', _, q4, _⟩ := part_view ((ev_slot hfo hx).cell rfl (by simp) (by simp)) hl rfl
        exact ⟨some ad', _, _, by simpa using q4, rfl⟩
  obtain ⟨ad, n, c, hxe, rfl⟩ := hxe
  have hgd := run_eqGuard (op := op) (t := t) (x := x) (y := y) (u := .slice ad n c) (v := .slice none 0 0) ⟨by simp, by simp⟩ C.P w
  split at he
  · simp only [Option.some.injEq] at he
    subst he
    refine Outc.value (v := .bool ad.isNone) hR hd rfl ?_ (fun _ _ _ => Slot.mkBool _)
    simp only [execOp, hop, hxe, hye, Sem.run_bind, hgd, Result.andThen_ok]
    rw [Lib.run_eql_slice_nil w t _ ad n c 0 0 hu]
    rfl
  · simp only [Option.some.injEq] at he
    subst he
    refine Outc.value (v := .bool (!ad.isNone)) hR hd rfl ?_ (fun _ _ _ => Slot.mkBool _)
    simp only [execOp, hop, hxe, hye, Sem.run_bind, hgd, Result.andThen_ok]
    rw [run_neq_slice_nil_any w t _ ad n c 0 0 hu]
    rfl
  · cases he

/-! #### a string of bytes -/
theorem sound_convStr {x : Operand} {s t el : TypeId} (hop : o.op = .convert s t x) (hT : TblOk C.P C.T) (hR : Rel C.w0 C.N C.as σ a w) (hd : ∀ t, o.dst = some t → t < C.N)
    {ti : TI} (hti : C.T s = some ti) (hds : ti.d = .slice el) (hel : C.P.underlying el = some (.int .u8)) (hdst : C.P.underlying t = some .string) {v : AV} {xs : List Int} (hx : ev C.T s σ.fr x = some v) (hxs : readL σ.objs (.int .u8) v = some xs)
    (he : e = { v := .dat .str (mkStr xs), rd := slIds v }) : Outc C σ o e a w := by
  subst he
  have hu := slice_elem hT hti hds
  have hR' := hR
  obtain ⟨⟨φ, hg, hfo, hh⟩, hN⟩ := hR'
  have hslot := (ev_slot hfo hx).cell (readL_agg hxs) (AV.ok_ne (toDat_ok hxs)).1 (AV.ok_ne (toDat_ok hxs)).2
  obtain ⟨ad, n, cap, cells, hve, hlen, hnm, hrl, hcell⟩ := readL_rep hg.obj hxs hslot
  have hrep : ∀ {ys : List Int} {cs : List Value}, RepL (RepC (imm C.w0 w φ σ.objs) w (.int .u8)) ys cs → cs = ys.map (Value.int .u8) := by
    intro ys
    induction ys with
    | nil => intro cs h; exact h
    | cons y ys ih =>
      rintro cs ⟨c, r, rfl, h1, h2⟩
      rw [show c = [.int .u8 y] from h1, ih h2]; rfl
  have hcs := hrep hrl
  have hlen' : (xs : List Int).length = n := hlen
  refine Outc.value (v := .string (mkStr xs)) hR hd rfl ?_ (fun _ _ _ => Slot.mkStr _ ?_)
  · rcases hcell with h | ⟨b, oo, rfl, hcell⟩
    · have h' : xs = [] := h
      subst h'
      have hn : n = 0 := by rw [← hlen]; rfl
      subst hn
      simp only [execOp, hop, hve, Sem.run_bind]
      rw [run_convert_bytes_string w s t el ad 0 cap hu hel hdst]
      have hload : ∀ ad : Addr, (loadCells ad 0).run C.P w = .ok (([] : List Int).map (Value.int .u8)).toArray w := fun ad => rfl
      cases ad with
      | none => simp [Conv.bytesToString, mkStr, strOfNums]; rfl
      | some ad => rw [run_bytesToString w ad 0 cap [] (hload ad)]; rfl
    · simp only [execOp, hop, hve, Sem.run_bind]
      rw [run_convert_bytes_arg w s el hu hel b oo n cap xs hlen (fun i hi => hcell i _ ?_) t hdst]
      · rfl
      · rw [hcs, List.getElem?_map]
        have hi' : i < xs.length := by rw [hlen']; exact hi
        simp [List.getD, List.getElem?_eq_getElem hi']
  · show (strOfNums xs).size ≤ _
    rw [strOfNums_size, hlen']; exact hnm

/-! #### struct equality -/
theorem sound_eq {op : BinOp} {t t' : TypeId} {x y : Operand} (hop : o.op = .binOp op t x y t') (hT : TblOk C.P C.T) (hR : Rel C.w0 C.N C.as σ a w) (hd : ∀ t, o.dst = some t → t < C.N)
    {u v : AV} (hx : ev C.T t σ.fr x = some u) (hy : ev C.T t' σ.fr y = some v) (he : eqEff C.T t op u v = some e) : Outc C σ o e a w := by
  unfold eqEff at he
  split at he <;> try (cases he; done)
  rename_i ti hti
  split at he <;> try (cases he; done)
  rename_i ty hty
  split at he <;> try (cases he; done)
  rename_i m n hm hn
  split at he <;> try (cases he; done)
  rename_i hk
  obtain ⟨hagg, hfl, hck⟩ := hk
  have hok := hT t ti hti
  have hta : ty.agg = true := (hok.ty ty hty).2.trans hagg
  have hR' := hR
  obtain ⟨⟨φ, hg, hfo, hh⟩, hN⟩ := hR'
  have cl : ∀ {v : AV} {x : ty.V} {u : Value}, toDat [] ty v = some x → Slot ⟨w, imm C.w0 w φ σ.objs, φ, σ.objs⟩ v u → VR (imm C.w0 w φ σ.objs) w ty x u := by
    have conv : ∀ {t : Ty} {v : AV} {x : t.V}, toDat [] t v = some x → toDat σ.objs t v = some x := by
      intro t
      induction t with
      | pair s r ihs ihr =>
        intro v x h
        cases v <;> try (simp only [toDat] at h ⊢; first | exact h | (cases h; done))
        simp only [toDat] at h ⊢
        split at h
        · rename_i h1 h2
          rw [ihs h1, ihr h2]; exact h
        · cases h
      | lst s _ =>
        intro v x h
        cases v <;> first | exact h | (simp only [toDat, look_nil] at h; cases h)
      | _ => intro v x h; cases v <;> first | exact h | (simp only [toDat] at h; cases h)
    intro v x u h hs
    exact toDat_vr hg.obj (fun _ h => h) (conv h) hs (fun j hj => by rw [flat_rows hfl h] at hj; cases hj)
  have h1 := cl hm (ev_slot hfo hx)
  have h2 := cl hn (ev_slot hfo hy)
  rcases h1 with ⟨_, cs, e1, r1⟩ | ⟨h, _⟩
  · rcases h2 with ⟨_, ds, e2, r2⟩ | ⟨h, _⟩
    · have hpl := hok.plain hagg
      have heq := (eq_flat hT (imm C.w0 w φ σ.objs) w 20).1 t ty hck 10000 (by omega) m n _ _ (.inl ⟨hta, cs, rfl, r1⟩) (.inl ⟨hta, ds, rfl, r2⟩)
      have hgd := run_eqGuard_agg (P := C.P) w op t x y cs.toArray ds.toArray hpl.2
      split at he
      · simp only [Option.some.injEq] at he
        subst he
        refine Outc.value (v := .bool (ty.veq m n)) hR hd rfl ?_ (fun _ _ _ => Slot.mkBool _)
        simp only [execOp, hop, e1, e2, Sem.run_bind, hgd, Result.andThen_ok, run_eql_struct, heq, Sem.run_pure]
      · simp only [Option.some.injEq] at he
        subst he
        refine Outc.value (v := .bool (!ty.veq m n)) hR hd rfl ?_ (fun _ _ _ => Slot.mkBool _)
        simp only [execOp, hop, e1, e2, Sem.run_bind, hgd, Result.andThen_ok, run_neq_struct, heq, Sem.run_pure]
      · cases he
    · rw [hta] at h; cases h
  · rw [hta] at h; cases h
end
end
end Go.Ab
