/- An abstract executor for the machine: part 7 of its soundness, for every program and table. -/
import Derived.Test.YtdhfgopecekdjaaGreatDoorAb06
import Derived.Laws.CopyRow
namespace Go.Ab
noncomputable section
open Go Go.RowKit

section
variable {C : Cx} {o : Oper} {σ : St} {e : Eff} {a : Act} {w : World}

/-- One live object turns into another, its block into another block. -/
theorem Good.setObj {w0 : Base} {w w' : World} {φ : Nat → Value} {objs : Objs} (h : Good w0 ⟨w, imm w0 w φ objs, φ, objs⟩) {id b : Nat} {q o : AObj} (hl : look id objs = some q) (hq : q.live = true) (hev : Evo q o) (ho : o.live = true)
    (hb : blk (φ id) = some b) (hos : w'.os = w.os) (htape : w'.tape = w.tape) (hout : w'.output = w.output) (hsz : w'.heap.size = w.heap.size) (hother : ∀ k, k ≠ b → w'.heap[k]? = w.heap[k]?)
    (hobj : ∀ E' : Env, E'.w = w' → E'.φ = φ → EnvLe ⟨w, imm w0 w φ objs, φ, objs⟩ E' → ObjRep E' w0.has id o) :
    Good w0 ⟨w', imm w0 w' φ ((id, o) :: objs), φ, (id, o) :: objs⟩ ∧ EnvLe ⟨w, imm w0 w φ objs, φ, objs⟩ ⟨w', imm w0 w' φ ((id, o) :: objs), φ, (id, o) :: objs⟩ := by
  have back : ∀ j p, look j ((id, o) :: objs) = some p → p.live = true → ∃ p', look j objs = some p' ∧ p'.live = true := by
    intro j p hj hp
    by_cases hji : j = id
    · subst hji; exact ⟨q, hl, hq⟩
    · simp only [look_cons, if_neg hji] at hj; exact ⟨p, hj, hp⟩
  have hle : EnvLe ⟨w, imm w0 w φ objs, φ, objs⟩ ⟨w', imm w0 w' φ ((id, o) :: objs), φ, (id, o) :: objs⟩ := by
    refine ⟨fun k hk => ⟨by rw [hsz]; exact hk.1, hk.2.1, fun j p hj hp => ?_⟩, fun k hk => hother k ?_, fun j p hj => ⟨rfl, ?_⟩⟩
    · obtain ⟨p', h1, h2⟩ := back j p hj hp
      exact hk.2.2 j p' h1 h2
    · rintro rfl
      exact hk.2.2 id q hl hq hb
    · by_cases hji : j = id
      · subst hji
        have : p = q := by have := hj.symm.trans hl; cases this; rfl
        subst this
        exact ⟨o, by simp [look_cons], hev⟩
      · exact ⟨p, by simp only [look_cons, if_neg hji]; exact hj, by cases p <;> simp [Evo]⟩
  refine ⟨Good.next h hle rfl ?_ (fun j p hj => ?_) (fun i j p p' hi hj hij hp hp' => ?_), hle⟩
  · have hbd := (h.blk_lt hl hq hb).1
    exact h.below.next hos htape hout (by rw [hsz]; exact Nat.le_refl _) (fun k hk hno => hother k (by rintro rfl; exact hbd.elim (fun h3 => absurd hk (Nat.not_lt.2 h3)) hno))
  · by_cases hji : j = id
    · subst hji
      have : p = o := by simpa [look_nil, look_cons] using hj.symm
      subst this
      exact .inr (hobj _ rfl rfl hle)
    · have hj' : look j objs = some p := by simpa [look_nil, look_cons, hji] using hj
      refine .inl ⟨hj', rfl, fun hp k hk => hother k ?_⟩
      rintro rfl
      rcases h.dis j id p q hj' hl hji hp hq with h3 | h3
      · rw [show blk (φ j) = none from h3] at hk; cases hk
      · exact h3 (show blk (φ j) = blk (φ id) from hk.trans hb.symm)
  · obtain ⟨r, h1, h2⟩ := back i p hi hp
    obtain ⟨r', h3, h4⟩ := back j p' hj hp'
    exact h.dis i j r r' h1 h3 hij h2 h4

theorem setRow_facts (w : World) (g : Nat) (cs : Array Value) : (w.setRow g cs).os = w.os ∧ (w.setRow g cs).tape = w.tape ∧ (w.setRow g cs).output = w.output := ⟨rfl, rfl, rfl⟩

/-- What a store leaves behind. -/
theorem Outc.store {w' : World} {φ : Nat → Value} (hr : (execOp a.eval o).run C.P w = .ok .skip w') (hg : Good C.w0 ⟨w, imm C.w0 w φ σ.objs, φ, σ.objs⟩) (hfo : FrOk ⟨w, imm C.w0 w φ σ.objs, φ, σ.objs⟩ σ.fr a) (hh : HidOk C.w0.start ⟨w, imm C.w0 w φ σ.objs, φ, σ.objs⟩ σ.hid C.as σ.mks a.defers) (hN : a.tmps.size = C.N ∧ True)
    (hd : ∀ t, o.dst = some t → t < C.N) {ids : List Nat} {id b : Nat} {q ob : AObj} (hl : look id σ.objs = some q) (hid : id ∈ ids → ∀ e t xs, q ≠ .row e t xs) (hq : q.live = true) (hev : Evo q ob) (ho : ob.live = true)
    (hb : blk (φ id) = some b) (hos : w'.os = w.os) (htape : w'.tape = w.tape) (hout : w'.output = w.output) (hsz : w'.heap.size = w.heap.size) (hother : ∀ k, k ≠ b → w'.heap[k]? = w.heap[k]?)
    (hobj : EnvLe ⟨w, imm C.w0 w φ σ.objs, φ, σ.objs⟩ ⟨w, imm C.w0 w φ (freeze σ.objs ids ++ σ.objs), φ, freeze σ.objs ids ++ σ.objs⟩ → Good C.w0 ⟨w, imm C.w0 w φ (freeze σ.objs ids ++ σ.objs), φ, freeze σ.objs ids ++ σ.objs⟩ →
      ∀ E' : Env, E'.w = w' → E'.φ = φ → EnvLe ⟨w, imm C.w0 w φ (freeze σ.objs ids ++ σ.objs), φ, freeze σ.objs ids ++ σ.objs⟩ E' → ObjRep E' C.w0.has id ob)
    (hv : e.v = .any) (hu : e.upd = (id, ob) :: freeze σ.objs ids) : Outc C σ o e a w := by
  obtain ⟨g1, l1⟩ := Good.freeze hg ids
  have hlk : look id (freeze σ.objs ids ++ σ.objs) = some q := by
    rw [look_freeze, hl]
    split
    · rename_i hi
      have := hid hi
      cases q <;> first | rfl | exact absurd rfl (this _ _ _)
    · rfl
  obtain ⟨g2, l2⟩ := Good.setObj g1 hlk hq hev ho hb hos htape hout hsz hother (hobj l1 g1)
  refine ⟨_, undef, w', hr, .inr ⟨rfl, rfl⟩, ?_⟩
  rw [hv, hu]
  exact Rel.next (φ := φ) (φ' := φ) hg hfo hh hN hd (l1.trans l2) g2 trivial

theorem RepL.upd {α : Type} {R : α → List Value → Prop} {k : Nat} (hk : ∀ x c, R x c → c.length = k) : ∀ {xs : List α} {cs : List Value} (i : Nat) (x : α), RepL R xs cs → xs[i]? = some x →
    ∃ pre c post, cs = pre ++ c ++ post ∧ pre.length = i * k ∧ R x c ∧ ∀ y d, R y d → RepL R (xs.set i y) (pre ++ d ++ post)
  | [], _, _, _, _, e => by simp at e
  | y :: ys, _, 0, x, ⟨c, r, e, h1, h2⟩, hx => by
    have : y = x := by simpa using hx
    subst this
    exact ⟨[], c, r, by simpa using e, by simp, h1, fun z d hz => ⟨d, r, by simp, hz, h2⟩⟩
  | y :: ys, _, i + 1, x, ⟨c, r, e, h1, h2⟩, hx => by
    obtain ⟨pre, d, post, e', hl, hr, hu⟩ := RepL.upd hk i x h2 (by simpa using hx)
    refine ⟨c ++ pre, d, post, by rw [e, e']; simp [List.append_assoc], ?_, hr, fun z f hz => ⟨c, pre ++ f ++ post, by simp [List.append_assoc], h1, hu z f hz⟩⟩
    rw [List.length_append, hk _ _ h1, hl, Nat.succ_mul, Nat.add_comm]

theorem tset_rep {E : Env} {w0 : Base} {w : World} {φ : Nat → Value} {objs : Objs} (hE : E = ⟨w, imm w0 w φ objs, φ, objs⟩) (hg : Good w0 E) {ids : List Nat} {u : AV} (hids : ∀ id ∈ slIds u, id ∈ ids) :
    ∀ {t : Ty} {p : List Nat} {x y : t.V} {off : Nat} {cs c : List Value}, tset objs t p u x = some y → tyOff t p = some off → RepC (imm w0 w φ (freeze objs ids ++ objs)) w t x cs → Rep E u false c →
    RepC (imm w0 w φ (freeze objs ids ++ objs)) w t y (cs.take off ++ c ++ cs.drop (off + c.length)) ∧ off + c.length ≤ cs.length := by
  subst hE
  intro t
  have nilCase : ∀ {t : Ty} {x y : t.V} {off : Nat} {cs c : List Value}, tset objs t [] u x = some y → tyOff t [] = some off → RepC (imm w0 w φ (freeze objs ids ++ objs)) w t x cs → Rep ⟨w, imm w0 w φ objs, φ, objs⟩ u false c →
      RepC (imm w0 w φ (freeze objs ids ++ objs)) w t y (cs.take off ++ c ++ cs.drop (off + c.length)) ∧ off + c.length ≤ cs.length := by
    intro t x y off cs c h ho hr hu
    have h1 : toDat objs t u = some y := by cases t <;> exact h
    have h2 : off = 0 := by cases t <;> simp [tyOff] at ho <;> exact ho.symm
    subst h2
    have h3 := toDat_frozen hg h1 hu hids
    have hlen : cs.length = c.length := by rw [hr.len, h3.len]
    refine ⟨?_, by omega⟩
    rw [List.take_zero, Nat.zero_add, List.drop_of_length_le (by omega)]
    simpa using h3
  induction t with
  | pair s r ihs ihr =>
    intro p x y off cs c h ho hr hu
    cases p with
    | nil => exact nilCase h ho hr hu
    | cons n p =>
      obtain ⟨cs1, cs2, rfl, h1, h2⟩ := hr
      cases n with
      | zero =>
        simp only [tset, tyOff] at h ho
        obtain ⟨y1, hy1, rfl⟩ := Option.map_eq_some_iff.1 h
        obtain ⟨q1, q2⟩ := ihs hy1 ho h1 hu
        refine ⟨⟨_, cs2, ?_, q1, h2⟩, by rw [List.length_append]; omega⟩
        rw [List.take_append_of_le_length (by omega), List.drop_append_of_le_length q2]
        simp [List.append_assoc]
      | succ n =>
        simp only [tset, tyOff] at h ho
        obtain ⟨y1, hy1, rfl⟩ := Option.map_eq_some_iff.1 h
        obtain ⟨o', ho', rfl⟩ := Option.map_eq_some_iff.1 ho
        obtain ⟨q1, q2⟩ := ihr hy1 ho' h2 hu
        have e1 := h1.len
        refine ⟨⟨cs1, _, ?_, h1, q1⟩, by rw [List.length_append]; omega⟩
        rw [List.take_append, List.drop_append, List.take_of_length_le (by omega), List.drop_of_length_le (by omega)]
        rw [show s.size + o' - cs1.length = o' from by omega, show s.size + o' + c.length - cs1.length = o' + c.length from by omega]
        simp [List.append_assoc]
  | _ =>
    intro p x y off cs c h ho hr hu
    cases p with
    | nil => exact nilCase h ho hr hu
    | cons n p => cases n <;> simp [tyOff] at ho

theorem sound_store {p x : Operand} {t : TypeId} (hop : o.op = .store t p x) (hT : TblOk C.P C.T) (hR : Rel C.w0 C.N C.as σ a w) (hd : ∀ t, o.dst = some t → t < C.N)
    {pv u : AV} (hp : ev C.T 0 σ.fr p = some pv) (hx : ev C.T t σ.fr x = some u) (he : storeEff C.T σ.objs t u pv = some e) : Outc C σ o e a w := by
  obtain ⟨⟨φ, hg, hfo, hh⟩, hN⟩ := hR
  have hv := ev_slot hfo hp
  have hxs := ev_slot hfo hx
  cases pv with
  | ptr id i off q =>
    simp only [storeEff] at he
    split at he
    · rename_i ti hti
      obtain ⟨ob, hob, hptr⟩ := hv.cell rfl (by simp) (by simp)
      replace hob : look id σ.objs = some ob := hob
      rw [hob] at he
      have fin : ∀ {b oo : Nat} {cur : Array Value} {ty : TypeId}, a.eval p = .pointer (some ⟨b, oo, none⟩) → w.heap[b]? = some (.cells cur ty (0, 0)) → (a.eval x).cells.size = ti.size → oo + (a.eval x).cells.size ≤ cur.size → (∀ v ∈ (a.eval x).cells.toList, v.oneCell' = true) →
          (execOp a.eval o).run C.P w = .ok .skip (w.setRow b (cur.toList.take oo ++ (a.eval x).cells.toList ++ cur.toList.drop (oo + (a.eval x).cells.size)).toArray) := by
        intro b oo cur ty h1 h2 h3 h4 h5
        have hst := run_storeCells_at (P := C.P) b oo ty (a.eval x).cells.toList 0 cur w h2 (by simpa using h4) h5
        simp only [Nat.add_zero, Array.length_toList] at hst
        simp [execOp, hop, h1, Instr.storeAt, Instr.sureAddr, storeVar, (hT t ti hti).sizeOf w, h3] at hst ⊢
        rw [hst]
        rfl
      cases ob with
      | box bv =>
        simp only at he hptr
        split at he
        · rename_i v' o' hst hof
          split at he
          · rename_i hk
            obtain ⟨rfl, ho2, hsz, hok⟩ := hk
            subst ho2
            simp only [Option.some.injEq] at he
            subst he
            obtain ⟨_, b, hφ, hpe⟩ := hptr
            obtain ⟨b', cells, ty, hφ', hbge, hheap, hrep⟩ := hg.obj _ _ hob
            have hbb : b' = b := by have := hφ'.symm.trans hφ; simpa using this
            subst hbb
            have hpe' : a.eval p = .pointer (some ⟨b', o', none⟩) := by simpa using hpe
            have hc := hxs.cells (AV.ok_ne hok).1 (AV.ok_ne hok).2
            obtain ⟨q1, q2, q3, q4⟩ := avSet_rep hst hof hrep hc
            have hcl : (a.eval x).cells.size = ti.size := by have := hc.len; rw [hsz]; simpa using this
            have hrun := fin hpe' hheap hcl (by simpa using q4) (fun v hv => hc.one v hv)
            refine Outc.store hrun hg hfo hh hN hd (ids := []) hob (fun h => by cases h) rfl (by trivial) rfl (b := b') (by rw [hφ]; rfl) rfl rfl rfl (by simp) (fun k hk => setRow_other _ _ _ _ hk) ?_ rfl rfl
            intro hle hg2 E' hw hφE hle'
            refine ⟨b', _, ty, by rw [hφE]; exact hφ, hbge, by rw [hw]; exact setRow_heap _ _ _ _ _ _ hheap, ?_⟩
            have := Rep.mono hg2.shaped hle' (Rep.mono hg.shaped hle q1)
            simpa using this
          · cases he
        · cases he
      | row et r xs =>
        simp only at he hptr
        split at he
        · rename_i y o' hst hof
          split at he
          · rename_i hk
            obtain ⟨ho2, hsz, hok, hni⟩ := hk
            subst ho2
            simp only [Option.some.injEq] at he
            subst he
            obtain ⟨hi, b, n, cap0, hφ, hpe⟩ := hptr
            obtain ⟨cells, hrl, hown⟩ := hg.obj _ _ hob
            obtain ⟨hlen, hown2⟩ := hown
            rcases hown2 with ⟨h1, _⟩ | ⟨g, cap, cur, h1, hbge, hheap, hnc, hcm, hcs, htk⟩
            · rw [h1] at hi; exact absurd hi (Nat.not_lt_zero _)
            have hgb : g = b := by have := h1.symm.trans hφ; simp at this; exact this.1
            subst hgb
            have hpe' : a.eval p = .pointer (some ⟨g, i * r.size + o', none⟩) := by simpa using hpe
            have hc := hxs.cells (AV.ok_ne hok).1 (AV.ok_ne hok).2
            have hcl : (a.eval x).cells.size = ti.size := by have := hc.len; rw [hsz]; simpa using this
            have hle := (Good.freeze hg (slIds u)).2
            have hrl' : RepL (RepC (imm C.w0 w φ (freeze σ.objs (slIds u) ++ σ.objs)) w r) xs cells := RepL.imp (fun _ _ => RepC.mono hle.I (fun _ _ => rfl)) hrl
            obtain ⟨pre, c, post, e1, e2, e3, e4⟩ := RepL.upd (k := r.size) (fun _ _ h => RepC.len h) i (xs.getD i r.dflt) hrl' (by rw [List.getD_eq_getElem?_getD, List.getElem?_eq_getElem hi]; rfl)
            obtain ⟨q1, q2⟩ := tset_rep rfl hg (fun _ h => h) hst hof e3 hc
            have hnew := e4 y _ q1
            have hcel : cells.length ≤ cur.size := by rw [← htk]; simp; omega
            have hol : i * r.size + o' + (a.eval x).cells.size ≤ cells.length := by
              rw [e1, List.length_append, List.length_append, e2]
              have : (a.eval x).cells.toList.length = (a.eval x).cells.size := by simp
              omega
            have hrun := fin hpe' hheap hcl (by omega) (fun v hv => hc.one v hv)
            -- the cells behind the store
            have hcells : (cur.toList.take (i * r.size + o') ++ (a.eval x).cells.toList ++ cur.toList.drop (i * r.size + o' + (a.eval x).cells.size)).take cells.length = pre ++ (c.take o' ++ (a.eval x).cells.toList ++ c.drop (o' + (a.eval x).cells.toList.length)) ++ post := by
              have hcur : cur.toList = cells ++ cur.toList.drop cells.length := by
                conv => lhs; rw [← List.take_append_drop cells.length cur.toList]
                rw [hlen, htk]
              generalize cur.toList.drop cells.length = rest at hcur
              have hql : (a.eval x).cells.toList.length = (a.eval x).cells.size := by simp
              generalize (a.eval x).cells.toList = d at hql q2 ⊢
              rw [← hql] at hol ⊢
              rw [hcur]
              rw [show List.take (i * r.size + o') (cells ++ rest) = List.take (i * r.size + o') cells from List.take_append_of_le_length (by omega), List.drop_append_of_le_length hol]
              rw [← List.append_assoc]
              have e9 : (List.take (i * r.size + o') cells ++ d ++ List.drop (i * r.size + o' + d.length) cells).length = cells.length := by
                simp only [List.length_append, List.length_take, List.length_drop]; omega
              rw [List.take_append_of_le_length (by omega), List.take_of_length_le (by omega)]
              rw [e1, ← e2]
              rw [show (pre ++ c ++ post).take (pre.length + o') = pre ++ c.take o' from by
                rw [List.append_assoc, List.take_append, List.take_of_length_le (by omega), List.take_append_of_le_length (by omega)]
                simp]
              rw [show (pre ++ c ++ post).drop (pre.length + o' + d.length) = c.drop (o' + d.length) ++ post from by
                rw [List.append_assoc, List.drop_append, List.drop_of_length_le (by omega), List.drop_append_of_le_length (by omega)]
                simp [Nat.add_assoc]]
              simp [List.append_assoc]
            refine Outc.store hrun hg hfo hh hN hd (ids := slIds u) hob (fun h => absurd h hni) rfl (by simp [Evo]) rfl (b := g) (by rw [show φ id = _ from h1]; rfl) rfl rfl rfl (by simp) (fun k hk => setRow_other _ _ _ _ hk) ?_ rfl rfl
            intro _ hg2 E' hw hφE hle'
            refine ⟨_, RepL.imp (fun _ _ => RepC.mono hle'.I hle'.heap) hnew, ?_, .inr ⟨g, cap, _, ?_, hbge, by rw [hw]; exact setRow_heap _ _ _ _ _ _ hheap, by simpa using hnc, hcm, ?_, ?_⟩⟩
            · have := hnew.len (k := r.size) (fun _ _ h => RepC.len h)
              simpa using this
            · rw [hφE]; simpa using h1
            · simp only [List.size_toArray, List.length_append, List.length_take, List.length_drop, Array.length_toList]
              omega
            · have hxl : (xs.set i y).length * r.size = cells.length := by simp [hlen]
              rw [hxl]
              exact hcells
          · cases he
        · cases he
      | vrow et sz xs =>
        simp only at he hptr
        split at he
        · rename_i v' o' hst hof
          split at he
          · rename_i hk
            obtain ⟨ho2, hsz, hok⟩ := hk
            subst ho2
            simp only [Option.some.injEq] at he
            subst he
            obtain ⟨hi, b, n, cap0, hφ, hpe⟩ := hptr
            obtain ⟨cells, hrl, hown⟩ := hg.obj _ _ hob
            obtain ⟨hlen, hown2⟩ := hown
            rcases hown2 with ⟨h1, _⟩ | ⟨g, cap, cur, h1, hbge, hheap, hnc, hcm, hcs, htk⟩
            · rw [h1] at hi; exact absurd hi (Nat.not_lt_zero _)
            have hgb : g = b := by have := h1.symm.trans hφ; simp at this; exact this.1
            subst hgb
            have hpe' : a.eval p = .pointer (some ⟨g, i * sz + o', none⟩) := by simpa using hpe
            have hc := hxs.cells (AV.ok_ne hok).1 (AV.ok_ne hok).2
            have hcl : (a.eval x).cells.size = ti.size := by have := hc.len; rw [hsz]; simpa using this
            have hkk : ∀ (x : AV) (c : List Value), (Rep ⟨w, imm C.w0 w φ σ.objs, φ, σ.objs⟩ x false c ∧ x.size = sz) → c.length = sz := fun _ _ h => h.1.len.trans h.2
            obtain ⟨pre, c, post, e1, e2, e3, e4⟩ := RepL.upd (k := sz) hkk i (xs.getD i .any) hrl (by rw [List.getD_eq_getElem?_getD, List.getElem?_eq_getElem hi]; rfl)
            obtain ⟨q1, qs, _, q2⟩ := avSet_rep hst hof e3.1 hc
            have hnew := e4 v' _ ⟨q1, qs.trans e3.2⟩
            have hcel : cells.length ≤ cur.size := by rw [← htk]; simp; omega
            have hol : i * sz + o' + (a.eval x).cells.size ≤ cells.length := by
              rw [e1, List.length_append, List.length_append, e2]
              have : (a.eval x).cells.toList.length = (a.eval x).cells.size := by simp
              omega
            have hrun := fin hpe' hheap hcl (by omega) (fun v hv => hc.one v hv)
            have hcells : (cur.toList.take (i * sz + o') ++ (a.eval x).cells.toList ++ cur.toList.drop (i * sz + o' + (a.eval x).cells.size)).take cells.length = pre ++ (c.take o' ++ (a.eval x).cells.toList ++ c.drop (o' + (a.eval x).cells.toList.length)) ++ post := by
              have hcur : cur.toList = cells ++ cur.toList.drop cells.length := by
                conv => lhs; rw [← List.take_append_drop cells.length cur.toList]
                rw [hlen, htk]
              generalize cur.toList.drop cells.length = rest at hcur
              have hql : (a.eval x).cells.toList.length = (a.eval x).cells.size := by simp
              generalize (a.eval x).cells.toList = d at hql q2 ⊢
              rw [← hql] at hol ⊢
              rw [hcur]
              rw [show List.take (i * sz + o') (cells ++ rest) = List.take (i * sz + o') cells from List.take_append_of_le_length (by omega), List.drop_append_of_le_length hol]
              rw [← List.append_assoc]
              have e9 : (List.take (i * sz + o') cells ++ d ++ List.drop (i * sz + o' + d.length) cells).length = cells.length := by
                simp only [List.length_append, List.length_take, List.length_drop]; omega
              rw [List.take_append_of_le_length (by omega), List.take_of_length_le (by omega)]
              rw [e1, ← e2]
              rw [show (pre ++ c ++ post).take (pre.length + o') = pre ++ c.take o' from by
                rw [List.append_assoc, List.take_append, List.take_of_length_le (by omega), List.take_append_of_le_length (by omega)]
                simp]
              rw [show (pre ++ c ++ post).drop (pre.length + o' + d.length) = c.drop (o' + d.length) ++ post from by
                rw [List.append_assoc, List.drop_append, List.drop_of_length_le (by omega), List.drop_append_of_le_length (by omega)]
                simp [Nat.add_assoc]]
              simp [List.append_assoc]
            refine Outc.store hrun hg hfo hh hN hd (ids := []) hob (fun h => by cases h) rfl (by simp [Evo]) rfl (b := g) (by rw [show φ id = _ from h1]; rfl) rfl rfl rfl (by simp) (fun k hk => setRow_other _ _ _ _ hk) ?_ rfl rfl
            intro hle hg2 E' hw hφE hle'
            refine ⟨_, RepL.imp (fun _ _ h => ⟨Rep.mono hg2.shaped hle' (Rep.mono hg.shaped hle h.1), h.2⟩) hnew, ?_, .inr ⟨g, cap, _, ?_, hbge, by rw [hw]; exact setRow_heap _ _ _ _ _ _ hheap, by simpa using hnc, hcm, ?_, ?_⟩⟩
            · have := hnew.len (k := sz) hkk
              simpa using this
            · rw [hφE]; simpa using h1
            · simp only [List.size_toArray, List.length_append, List.length_take, List.length_drop, Array.length_toList]
              omega
            · have hxl : (xs.set i v').length * sz = cells.length := by simp [hlen]
              rw [hxl]
              exact hcells
          · cases he
        · cases he
      | _ => simp at he
    · cases he
  | _ => simp [storeEff] at he

/-- 'copy' into a part of a row. -/
theorem sound_copyRow {t u : TypeId} {d s : Operand} (hop : o.op = .call { callee := .builtin .copy, args := #[d, s], argTypes := #[t, u] }) (hT : TblOk C.P C.T) (hR : Rel C.w0 C.N C.as σ a w) (hd : ∀ t, o.dst = some t → t < C.N)
    {el : TypeId} {ti : TI} (hti : C.T t = some ti) (hds : ti.d = .slice el) {id lo hi : Nat} {sv : AV} (hs : ev C.T u σ.fr s = some sv) (he : copyRow C.T σ.objs el id lo hi sv = some e)
    (hdv : ∀ φ, Good C.w0 ⟨w, imm C.w0 w φ σ.objs, φ, σ.objs⟩ → FrOk ⟨w, imm C.w0 w φ σ.objs, φ, σ.objs⟩ σ.fr a → ∀ et ty (xs : List (Ty.V ty)), look id σ.objs = some (.row et ty xs) → lo ≤ hi ∧ hi ≤ xs.length ∧
      ∃ ad n cap ad', φ id = .slice ad n cap ∧ a.eval d = .slice (some ad') (hi - lo) (cap - lo) ∧ (cap ≠ lo → some ad' = ad.map (·.add (lo * ty.size)))) : Outc C σ o e a w := by
  unfold copyRow at he
  split at he <;> try (cases he; done)
  rename_i et ty xs hl
  split at he <;> try (cases he; done)
  rename_i te ys hte hy
  split at he <;> try (cases he; done)
  rename_i hk
  obtain ⟨rfl, hsz, hpos⟩ := hk
  simp only [Option.some.injEq] at he
  subst he
  obtain ⟨it, hit, hisz, hbyt, z, hzz, hzs, hzr⟩ := (hT _ te hte).info
  have hu := slice_elem hT hti hds
  have hsize : it.size = ty.size := hisz.trans hsz
  have hms : (C.P.info? et).map (·.size) = some ty.size := by rw [hit]; simp [hsize]
  obtain ⟨⟨φ, hg, hfo, hh⟩, hN⟩ := hR
  obtain ⟨hlo, hhi, ad, n, cap, ad', hφ, hde, had⟩ := hdv φ hg hfo et ty xs hl
  have hxr := (ev_slot hfo hs).cell (readL_agg hy) (AV.ok_ne (toDat_ok hy)).1 (AV.ok_ne (toDat_ok hy)).2
  obtain ⟨sad, m, c, news, hse, hyl, hym, hrn, hcell⟩ := readL_rep hg.obj hy hxr
  have hnl : news.length = m * ty.size := by rw [hrn.len (fun _ _ h => h.len), hyl]
  have hmin : minN (List.length (α := ty.V) ys) (hi - lo) = Nat.min m (hi - lo) := by rw [show List.length (α := ty.V) ys = m from hyl]; unfold minN; simp only [Nat.min_def]
  rw [hmin]
  have hrunx : ∀ w', (Builtin.copy_ #[t, u] o.type #[a.eval d, a.eval s]).run C.P w = .ok (goInt (Nat.min m (hi - lo))) w' → (execOp a.eval o).run C.P w = .ok (.value (.int .i64 ((Nat.min m (hi - lo) : Nat) : Int))) w' := by
    intro w' hr
    simp only [execOp, hop, resolve, invoke, builtin, Sem.run_bind, Sem.run_pure, Result.andThen_ok, List.map_toArray, List.map_cons, List.map_nil, hr]
    rfl
  obtain ⟨cells, hrl, hlen, hown⟩ := hg.obj _ _ hl
  have hkk : ∀ (x : ty.V) (c : List Value), RepC (imm C.w0 w φ σ.objs) w ty x c → c.length = ty.size := fun _ _ h => h.len
  -- the cells that are handed over
  have hnewr : ∀ k, RepL (RepC (imm C.w0 w φ σ.objs) w ty) (copyAt xs ys lo k) (cells.take (lo * ty.size) ++ news.take (k * ty.size) ++ cells.drop ((lo + k) * ty.size)) := fun k =>
    RepL.append (RepL.append (RepL.take hkk lo hrl) (RepL.take hkk k hrn)) (RepL.drop hkk (lo + k) hrl)
  generalize hkm : Nat.min m (hi - lo) = k at hrunx ⊢
  have hk1 : k ≤ m := by rw [← hkm]; exact Nat.min_le_left _ _
  have hk2 : k ≤ hi - lo := by rw [← hkm]; exact Nat.min_le_right _ _
  have hcl : (copyAt xs ys lo k).length = xs.length := by
    have : List.length (α := ty.V) ys = m := hyl
    simp only [copyAt, List.length_append, List.length_take, List.length_drop]
    omega
  by_cases hk0 : k = 0
  · -- nothing
    have hrun : (Builtin.copy_ #[t, u] o.type #[a.eval d, a.eval s]).run C.P w = .ok (goInt k) w := by
      have hsc : (Builtin.firstCells ty.size 0 (.slice sad m c)).run C.P w = .ok #[] w := by cases sad <;> simp [Builtin.firstCells, loadCells, loadCellsFrom]
      rw [hde, hse, ← hkm]
      rw [hkm, hk0]
      simp [Builtin.copy_, run_underlying hu, Builtin.lenOf, hkm, hk0, Go.sizeOf, typeInfo, hit, hsize, hsc, storeCells]
    have hsame : copyAt xs ys lo k = xs := by
      subst hk0; simp [copyAt]
    refine ⟨_, .int .i64 k, w, hrunx w hrun, .inl rfl, ?_⟩
    rw [hsame]
    have hlike : ∀ j, look j ([(id, AObj.row et ty xs)] ++ σ.objs) = look j σ.objs := by
      intro j
      simp only [List.cons_append, List.nil_append, look_cons]
      split
      · rename_i h; subst h; exact hl.symm
      · rfl
    have himm : imm C.w0 w φ ([(id, AObj.row et ty xs)] ++ σ.objs) = imm C.w0 w φ σ.objs := by
      funext b; simp only [imm, hlike]
    have hle : EnvLe ⟨w, imm C.w0 w φ σ.objs, φ, σ.objs⟩ ⟨w, imm C.w0 w φ ([(id, AObj.row et ty xs)] ++ σ.objs), φ, [(id, AObj.row et ty xs)] ++ σ.objs⟩ :=
      ⟨fun b hb => by rw [himm]; exact hb, fun _ _ => rfl, fun j q hj => ⟨rfl, q, (hlike j).trans hj, by cases q <;> simp [Evo]⟩⟩
    have hg' : Good C.w0 ⟨w, imm C.w0 w φ ([(id, AObj.row et ty xs)] ++ σ.objs), φ, [(id, AObj.row et ty xs)] ++ σ.objs⟩ :=
      Good.next hg hle rfl hg.below (fun j q hj => .inl ⟨(hlike j).symm.trans hj, rfl, fun _ _ _ => rfl⟩) (fun i j q q' hi hj => hg.dis i j q q' ((hlike i).symm.trans hi) ((hlike j).symm.trans hj))
    exact Rel.next hg hfo hh hN hd hle hg' (Slot.mkInt _ _)
  · rcases hown with ⟨h1, _⟩ | ⟨g, cap', cur, h1, hbge, hheap, hnc, hcm, hcs, htk⟩
    · omega
    have hφ' := h1.symm.trans hφ
    simp only [Value.slice.injEq] at hφ'
    obtain ⟨rfl, rfl, rfl⟩ := hφ'
    have hade : ad' = ⟨g, lo * ty.size, none⟩ := by
      have := had (by omega)
      simpa [add_at] using this
    subst hade
    have hys : ys ≠ [] := by
      intro h
      have : List.length (α := ty.V) ys = 0 := by rw [h]; rfl
      rw [hyl] at this
      omega
    rcases hcell with h | ⟨sb, so, rfl, hcell⟩
    · exact absurd h hys
    have hcel : cells.length ≤ cur.size := by rw [← htk]; simp; omega
    have hkc : (lo + k) * ty.size ≤ cells.length := by rw [hlen]; exact Nat.mul_le_mul_right _ (by omega)
    have hkn : k * ty.size ≤ news.length := by rw [hnl]; exact Nat.mul_le_mul_right _ hk1
    have hadd : (lo + k) * ty.size = lo * ty.size + k * ty.size := Nat.add_mul _ _ _
    have hncl : (news.take (k * ty.size)).length = k * ty.size := by rw [List.length_take]; omega
    have hn1 : ∀ v ∈ news.take (k * ty.size), v.oneCell' = true := fun v hv => RepL.one hrn v (List.mem_of_mem_take hv)
    have hload := run_loadCells_list (P := C.P) w ⟨sb, so, none⟩ (news.take (k * ty.size)) (fun j v hj => by
      rw [add_at]
      rw [List.getElem?_take] at hj
      split at hj
      · exact hcell j v hj
      · cases hj)
    rw [hncl] at hload
    have hst := run_storeCells_at C.P g (lo * ty.size) et (news.take (k * ty.size)) 0 cur w hheap (by rw [hncl]; omega) hn1
    simp only [Nat.add_zero, hncl] at hst
    have hrun : (Builtin.copy_ #[t, u] o.type #[a.eval d, a.eval s]).run C.P w = .ok (goInt k) (w.setRow g (cur.toList.take (lo * ty.size) ++ news.take (k * ty.size) ++ cur.toList.drop (lo * ty.size + k * ty.size)).toArray) := by
      rw [hde, hse]
      simp [Builtin.copy_, run_underlying hu, Builtin.lenOf, hkm, Builtin.firstCells, Go.sizeOf, typeInfo, hit, hsize, hload, hst]
    have hcells : (cur.toList.take (lo * ty.size) ++ news.take (k * ty.size) ++ cur.toList.drop (lo * ty.size + k * ty.size)).take cells.length = cells.take (lo * ty.size) ++ news.take (k * ty.size) ++ cells.drop ((lo + k) * ty.size) := by
      have hcur : cur.toList = cells ++ cur.toList.drop cells.length := by
        conv => lhs; rw [← List.take_append_drop cells.length cur.toList]
        rw [hlen, htk]
      generalize cur.toList.drop cells.length = rest at hcur
      generalize news.take (k * ty.size) = dd at hncl ⊢
      rw [← hadd, hcur]
      rw [show List.take (lo * ty.size) (cells ++ rest) = List.take (lo * ty.size) cells from List.take_append_of_le_length (by omega), List.drop_append_of_le_length hkc]
      rw [← List.append_assoc]
      have e9 : (List.take (lo * ty.size) cells ++ dd ++ List.drop ((lo + k) * ty.size) cells).length = cells.length := by
        simp only [List.length_append, List.length_take, List.length_drop, hncl]; omega
      rw [List.take_append_of_le_length (by omega), List.take_of_length_le (by omega)]
    obtain ⟨g2, l2⟩ := Good.setObj hg hl rfl (o := .row et ty (copyAt xs ys lo k)) (w' := w.setRow g (cur.toList.take (lo * ty.size) ++ news.take (k * ty.size) ++ cur.toList.drop (lo * ty.size + k * ty.size)).toArray) ⟨rfl, hcl.symm⟩ rfl (b := g) (by rw [show φ id = _ from h1]; rfl) rfl rfl rfl (by simp) (fun q hq => setRow_other _ _ _ _ hq) (fun E' hw hφE hle' => by
      refine ⟨_, RepL.imp (fun _ _ => RepC.mono hle'.I hle'.heap) (hnewr k), ?_⟩
      rw [hcl]
      refine ⟨by rw [(hnewr k).len hkk, hcl], .inr ⟨g, cap', _, by rw [hφE]; exact h1, hbge, by rw [hw]; exact setRow_heap _ _ _ _ _ _ hheap, hnc, hcm, ?_, ?_⟩⟩
      · simp only [List.size_toArray, List.length_append, List.length_take, List.length_drop, Array.length_toList]
        omega
      · rw [← hlen]; exact hcells)
    refine ⟨_, .int .i64 k, _, hrunx _ hrun, .inl rfl, ?_⟩
    exact Rel.next (φ := φ) (φ' := φ) hg hfo hh hN hd l2 g2 (Slot.mkInt _ _)

theorem sound_copy {t u : TypeId} {d s : Operand} (hop : o.op = .call { callee := .builtin .copy, args := #[d, s], argTypes := #[t, u] }) (hT : TblOk C.P C.T) (hR : Rel C.w0 C.N C.as σ a w) (hd : ∀ t, o.dst = some t → t < C.N)
    {dv sv : AV} (hdv : ev C.T t σ.fr d = some dv) (hs : ev C.T u σ.fr s = some sv) (he : copyEff C.T σ.objs t dv sv = some e) : Outc C σ o e a w := by
  unfold copyEff at he
  split at he <;> try (cases he; done)
  rename_i el _ _ _ _ _ hti
  split at he <;> try (cases he; done)
  · rename_i id
    split at he <;> try (cases he; done)
    rename_i e0 ty0 xs0 hl0
    refine sound_copyRow hop hT hR hd hti rfl hs he (fun φ hg hf et ty xs hl => ?_)
    have hq := hl
    rw [hl0] at hq
    cases hq
    clear hl
    have hl := hl0
    generalize xs0 = xs at *
    generalize e0 = et at *
    obtain ⟨ob, hob', _, hk⟩ := (ev_slot hf hdv).cell rfl (by simp) (by simp)
    have : ob = .row et ty0 xs := by have := hob'.symm.trans hl; cases this; rfl
    subst this
    have hve : a.eval d = φ id := by simpa using hk
    obtain ⟨cells, _, _, hown⟩ := hg.obj _ _ hl
    refine ⟨Nat.zero_le _, Nat.le_refl _, ?_⟩
    rcases hown with ⟨h8, ad', h9⟩ | ⟨g, cap', cur, h9, _, _, h12, _⟩
    · exact ⟨some ad', 0, 0, ad', h9, by rw [hve, h8]; exact h9, fun h => absurd rfl h⟩
    · exact ⟨_, _, _, ⟨g, 0, none⟩, h9, by rw [hve]; exact h9, fun _ => by simp [add_at]⟩
  · rename_i id lo hi
    refine sound_copyRow hop hT hR hd hti rfl hs he (fun φ hg hf et ty xs hl => ?_)
    obtain ⟨ob, hob', _, hk⟩ := (ev_slot hf hdv).cell rfl (by simp) (by simp)
    have : ob = .row et ty xs := by have := hob'.symm.trans hl; cases this; rfl
    subst this
    obtain ⟨h2, h3, ad, n, cap, ad', h4, h5, h5'⟩ := hk
    exact ⟨h2, h3, ad, n, cap, ad', h4, by simpa using h5, h5'⟩
end
end
end Go.Ab

namespace Go.Ab
noncomputable section
open Go Go.RowKit

section
variable {C : Cx} {o : Oper} {σ : St} {e : Eff} {a : Act} {w : World}

theorem toDat_agg {objs : Objs} : ∀ {t : Ty} {v : AV} {x : t.V}, toDat objs t v = some x → v.agg = t.agg := by
  intro t v x h
  have dat : ∀ {t t' : Ty} {y : t'.V} {x : t.V}, (if h : t'.eq t = true then some (Ty.cst h y) else none) = some x → (AV.dat t' y).agg = t.agg := by
    intro t t' y x h
    split at h
    · rename_i he; obtain rfl := Ty.eq_eq he; rfl
    · cases h
  cases t <;> cases v <;> first | (simp only [toDat] at h; exact dat h) | rfl | (simp [toDat] at h)

theorem toDat_vr {E : Env} {base : Nat → Prop} (hobj : ∀ id ob, look id E.objs = some ob → ObjRep E base id ob) {I' : Nat → Prop} (hI : ∀ b, E.I b → I' b) {t : Ty} {v : AV} {x : t.V} {u : Value}
    (h : toDat E.objs t v = some x) (hs : Slot E v u) (hr : ∀ id ∈ slIds v, ∀ e s xs, look id E.objs = some (.row e s xs) → ∀ b, blk (E.φ id) = some b → I' b) : VR I' E.w t x u := by
  have ha := toDat_agg h
  cases hg : t.agg with
  | true =>
    obtain ⟨cs, h1, h2⟩ := hs.toAgg (ha.trans hg)
    exact .inl ⟨hg, cs, h1, toDat_rep hobj hI h h2 hr⟩
  | false => exact .inr ⟨hg, toDat_rep hobj hI h (hs.cell (ha.trans hg) (AV.ok_ne (toDat_ok h)).1 (AV.ok_ne (toDat_ok h)).2) hr⟩

theorem toDat_frozen_vr {w0 : Base} {φ : Nat → Value} {objs : Objs} (h : Good w0 ⟨w, imm w0 w φ objs, φ, objs⟩) {ids : List Nat} {t : Ty} {v : AV} {x : t.V} {u : Value}
    (hd : toDat objs t v = some x) (hr : Slot ⟨w, imm w0 w φ objs, φ, objs⟩ v u) (hid : ∀ id ∈ slIds v, id ∈ ids) : VR (imm w0 w φ (freeze objs ids ++ objs)) w t x u := by
  have ha := toDat_agg hd
  cases hg : t.agg with
  | true =>
    obtain ⟨cs, h1, h2⟩ := hr.toAgg (ha.trans hg)
    exact .inl ⟨hg, cs, h1, toDat_frozen h hd h2 hid⟩
  | false => exact .inr ⟨hg, toDat_frozen h hd (hr.cell (ha.trans hg) (AV.ok_ne (toDat_ok hd)).1 (AV.ok_ne (toDat_ok hd)).2) hid⟩

theorem VR.mono {I I' : Nat → Prop} {w w' : World} (hI : ∀ b, I b → I' b) (hw : ∀ b, I b → w'.heap[b]? = w.heap[b]?) {t : Ty} {x : t.V} {v : Value} (h : VR I w t x v) : VR I' w' t x v := by
  rcases h with ⟨h1, cs, h2, h3⟩ | ⟨h1, h2⟩
  · exact .inl ⟨h1, cs, h2, h3.mono hI hw⟩
  · exact .inr ⟨h1, h2.mono hI hw⟩

/-! #### flat data -/
theorem repc_flat {I I' : Nat → Prop} {w w' : World} : ∀ {t : Ty} {x : t.V} {cs : List Value}, t.flat = true → RepC I w t x cs → RepC I' w' t x cs := by
  intro t
  induction t with
  | lst t _ => intro x cs h; cases h
  | pair s r ihs ihr =>
    intro x cs h hr
    simp only [Ty.flat, Bool.and_eq_true] at h
    obtain ⟨c, d, e1, h1, h2⟩ := hr
    exact ⟨c, d, e1, ihs h.1 h1, ihr h.2 h2⟩
  | _ => intro x cs _ h; exact h
theorem vr_flat {I I' : Nat → Prop} {w w' : World} {t : Ty} {x : t.V} {v : Value} (hf : t.flat = true) (h : VR I w t x v) : VR I' w' t x v := by
  rcases h with ⟨h1, cs, h2, h3⟩ | ⟨h1, h2⟩
  · exact .inl ⟨h1, cs, h2, repc_flat hf h3⟩
  · exact .inr ⟨h1, repc_flat hf h2⟩
theorem repc_flat_fun {I : Nat → Prop} {w : World} : ∀ {t : Ty} {x : t.V} {c d : List Value}, t.flat = true → RepC I w t x c → RepC I w t x d → c = d := by
  intro t
  induction t with
  | lst t _ => intro x c d h; cases h
  | pair s r ihs ihr =>
    intro x c d h h1 h2
    simp only [Ty.flat, Bool.and_eq_true] at h
    obtain ⟨c1, d1, rfl, p1, q1⟩ := h1
    obtain ⟨c2, d2, rfl, p2, q2⟩ := h2
    rw [ihs h.1 p1 p2, ihr h.2 q1 q2]
  | str => intro x c d _ h1 h2; rw [show c = _ from h1.1, show d = _ from h2.1]
  | _ => intro x c d _ h1 h2; rw [show c = _ from h1, show d = _ from h2]
theorem vr_flat_fun {I : Nat → Prop} {w : World} {t : Ty} {x : t.V} {u v : Value} (hf : t.flat = true) (h : VR I w t x u) (k : VR I w t x v) : u = v := by
  rcases h with ⟨h1, cs, rfl, h3⟩ | ⟨h1, h2⟩
  · rcases k with ⟨_, ds, rfl, k3⟩ | ⟨k1, _⟩
    · rw [repc_flat_fun hf h3 k3]
    · rw [h1] at k1; cases k1
  · rcases k with ⟨k1, _⟩ | ⟨_, k2⟩
    · rw [h1] at k1; cases k1
    · simpa using repc_flat_fun hf h2 k2
theorem eqI_eq {x y : Int} (h : eqI x y = true) : x = y := eqI_of h
theorem eqB_eq {x y : Bool} (h : eqB x y = true) : x = y := eq_of_beq h
theorem beqS_iff (x y : ByteArray) : (x == y) = true ↔ x = y := by
  obtain ⟨⟨a⟩⟩ := x
  obtain ⟨⟨b⟩⟩ := y
  show ((⟨a⟩ : Array UInt8) == ⟨b⟩) = true ↔ _
  simp
theorem eqS_eq {x y : ByteArray} (h : eqS x y = true) : x = y := (beqS_iff x y).1 h
theorem veq_eq : ∀ {t : Ty} {x y : t.V}, t.flat = true → t.veq x y = true → x = y := by
  intro t
  induction t with
  | lst t _ => intro x y h; cases h
  | pair s r ihs ihr =>
    intro x y h hv
    simp only [Ty.flat, Bool.and_eq_true] at h
    simp only [Ty.veq, Bool.and_eq_true] at hv
    exact Prod.ext (ihs h.1 hv.1) (ihr h.2 hv.2)
  | int k => intro x y _ h; exact eqI_eq h
  | bool => intro x y _ h; exact eqB_eq h
  | str => intro x y _ h; exact eqS_eq h
  | unit => intro x y _ h; rfl
theorem cell_same {I : Nat → Prop} {w : World} : ∀ {t : Ty} {x : t.V} {cs : List Value}, t.flat = true → RepC I w t x cs → ∀ v ∈ cs, ∀ n, Instr.sameBits n v v = true := by
  intro t
  induction t with
  | lst t _ => intro x cs h; cases h
  | pair s r ihs ihr =>
    intro x cs h hr v hv n
    simp only [Ty.flat, Bool.and_eq_true] at h
    obtain ⟨c, d, rfl, h1, h2⟩ := hr
    rcases List.mem_append.1 hv with hv | hv
    · exact ihs h.1 h1 v hv n
    · exact ihr h.2 h2 v hv n
  | unit => intro x cs _ h v hv; rw [show cs = _ from h] at hv; cases hv
  | int k => intro x cs _ h v hv n; rw [show cs = _ from h] at hv; simp at hv; subst hv; cases n <;> simp only [Instr.sameBits, beq_self_eq_true, Bool.true_and] <;> exact beq_self_eq_true (α := Int) x
  | bool => intro x cs _ h v hv n; rw [show cs = _ from h] at hv; simp at hv; subst hv; cases n <;> exact beq_self_eq_true (α := Bool) x
  | str => intro x cs _ h v hv n; rw [show cs = _ from h.1] at hv; simp at hv; subst hv; cases n <;> exact (beqS_iff x x).2 rfl
theorem zip_self_all {f : Value × Value → Bool} : ∀ (l : List Value), (∀ v ∈ l, f (v, v) = true) → (l.zip l).all f = true
  | [], _ => rfl
  | v :: r, h => by simp [h v (by simp), zip_self_all r (fun u hu => h u (by simp [hu]))]
theorem vr_same {I : Nat → Prop} {w : World} {t : Ty} {x : t.V} {v : Value} (hf : t.flat = true) (h : VR I w t x v) (n : Nat) : Instr.sameBits (n + 1) v v = true := by
  rcases h with ⟨h1, cs, rfl, h3⟩ | ⟨h1, h2⟩
  · simp only [Instr.sameBits, beq_self_eq_true, Bool.true_and]
    exact zip_self_all _ (fun v hv => cell_same hf h3 v hv n)
  · exact cell_same hf h2 v (by simp) _

theorem sameNow_veq {I : Nat → Prop} {w : World} {t : Ty} {x z : t.V} {u v : Value} {de : TypeDesc} {b : Bool} (hf : t.flat = true) (h : VR I w t x u) (k : VR I w t z v) (hs : Instr.sameNow de u v = some b) : b = t.veq x z := by
  rcases h with ⟨h1, cs, rfl, h3⟩ | ⟨h1, h2⟩
  · cases de <;> simp [Instr.sameNow] at hs
  · rcases k with ⟨k1, _⟩ | ⟨_, k2⟩
    · rw [h1] at k1; cases k1
    · cases t with
      | int kk =>
        obtain rfl : u = .int kk x := by simpa [RepC] using h2
        obtain rfl : v = .int kk z := by simpa [RepC] using k2
        cases de <;> simp [Instr.sameNow] at hs
        subst hs
        exact beq_eqI x z
      | bool =>
        obtain rfl : u = .bool x := by simpa [RepC] using h2
        obtain rfl : v = .bool z := by simpa [RepC] using k2
        cases de <;> simp [Instr.sameNow] at hs
        exact hs.symm
      | str =>
        obtain rfl : u = .string x := by simpa using h2.1
        obtain rfl : v = .string z := by simpa using k2.1
        cases de <;> simp [Instr.sameNow] at hs
        exact hs.symm
      | lst t => cases hf
      | pair a b => cases h1
      | unit => cases h1

/-! #### checkKey -/
theorem check_flat {P : Program} {T : Tbl} (hT : TblOk P T) (I : Nat → Prop) (w : World) (em : Bool) : ∀ d : Nat,
    (∀ t y, chkTy T d t y = true → ∀ k, d ≤ k → ∀ (x : y.V) (vx : Value), VR I w y x vx → (Instr.checkKey em k t vx).run P w = .ok () w) ∧
    (∀ fs off y, chkFs T d fs off y = true → ∀ k, d ≤ k → ∀ (fields : List Field), fields.map (fun f => (f.type, f.offset)) = fs → (∀ f ∈ fields, f.name ≠ "_") →
      ∀ (xs : Array Value) (x : y.V) (c1 : List Value), xs.toList.drop off = c1 → RepC I w y x c1 →
        (do for f in fields do if f.name ≠ "_" then Instr.checkKey em k f.type (← part f.type xs f.offset) : Sem Unit).run P w = .ok () w) ∧
    (∀ n i e y, chkArr T d n i e y = true → ∀ k s, d ≤ k → (∀ ti, T e = some ti → ti.size = s) →
      ∀ (xs : Array Value) (x : y.V) (c1 : List Value), xs.toList.drop (i * s) = c1 → RepC I w y x c1 →
        (do for j in List.range' i n do Instr.checkKey em k e (← part e xs (j * (← Go.sizeOf e))) : Sem Unit).run P w = .ok () w) := by
  intro d
  induction d with
  | zero => exact ⟨fun _ _ h => by simp [chkTy] at h, fun _ _ _ h => by simp [chkFs] at h, fun _ _ _ _ h => by simp [chkArr] at h⟩
  | succ d ih =>
    obtain ⟨ih1, ih2, ih3⟩ := ih
    refine ⟨?_, ?_, ?_⟩
    · intro t y hk k hdk x vx hx
      obtain ⟨k, rfl⟩ : ∃ m, k = m + 1 := ⟨k - 1, by omega⟩
      simp only [chkTy] at hk
      cases ht : T t with
      | none => rw [ht] at hk; cases hk
      | some ti =>
        rw [ht] at hk
        simp only [Bool.and_eq_true, beq_iff_eq] at hk
        obtain ⟨⟨hs, ha⟩, hk⟩ := hk
        have hok := hT t ti ht
        obtain ⟨de, hu, htd, hda⟩ := hok.desc
        rw [Instr.checkKey]
        simp only [Sem.run_bind, run_underlying hu, Result.andThen_ok]
        split at hk
        · rename_i k1 k2 hd1
          rw [hd1] at htd
          cases de <;> simp only [tdOk] at htd
          cases vx <;> rfl
        · rename_i hd1
          rw [hd1] at htd
          cases de <;> simp only [tdOk] at htd
          cases vx <;> rfl
        · rename_i hd1
          rw [hd1] at htd
          cases de <;> simp only [tdOk] at htd
          cases vx <;> rfl
        · rename_i fs hd1
          rw [hd1] at htd
          cases de with
          | struct fields => ?_
          | _ => simp [tdOk] at htd
          obtain ⟨hfs, hnm⟩ := htd
          have hagg := ha.symm.trans hda.symm
          simp only at hagg
          rcases hx with ⟨_, cx, rfl, hx⟩ | ⟨h, _⟩
          · simp only
            rw [← Array.forIn_toList]
            exact ih2 fs 0 _ hk k (by omega) fields.toList hfs.symm hnm _ x cx (by simp) hx
          · rw [hagg] at h; cases h
        · rename_i n e hd1
          rw [hd1] at htd
          cases de with
          | array n' e' => ?_
          | _ => simp [tdOk] at htd
          obtain ⟨rfl, rfl⟩ := htd
          have hagg := ha.symm.trans hda.symm
          simp only at hagg
          rcases hx with ⟨_, cx, rfl, hx⟩ | ⟨h, _⟩
          · split at hk
            · rename_i te hte
              simp only
              simp only [Std.Legacy.Range.forIn_eq_forIn_range', Std.Legacy.Range.size, Nat.sub_zero, Nat.add_one_sub_one, Nat.div_one]
              exact ih3 n 0 e _ hk k te.size (by omega) (fun ti' h' => by rw [hte] at h'; cases h'; rfl) _ x cx (by simp) hx
            · cases hk
          · rw [hagg] at h; cases h
        · cases hk
    · intro fs off y hk k hdk fields hf hnm xs x c1 h1 hx
      cases fs with
      | nil =>
        cases fields with
        | nil => simp
        | cons f r => simp at hf
      | cons p fs =>
        obtain ⟨ft, fo⟩ := p
        cases y <;> simp only [chkFs] at hk <;> first | cases hk | skip
        rename_i ya yb
        simp only [Bool.and_eq_true, beq_iff_eq] at hk
        obtain ⟨⟨rfl, hka⟩, hkb⟩ := hk
        cases fields with
        | nil => simp at hf
        | cons f r =>
          simp only [List.map_cons, List.cons.injEq, Prod.mk.injEq] at hf
          obtain ⟨⟨rfl, rfl⟩, hf⟩ := hf
          obtain ⟨ca, cb, e1, hxa, hxb⟩ := hx
          cases d with
          | zero => simp [chkTy] at hka
          | succ d =>
          have hti : ∃ ti, T f.type = some ti ∧ ti.size = ya.size ∧ ti.agg = ya.agg := by
            simp only [chkTy] at hka
            cases ht : T f.type with
            | none => rw [ht] at hka; cases hka
            | some ti =>
              rw [ht] at hka
              simp only [Bool.and_eq_true, beq_iff_eq] at hka
              exact ⟨ti, rfl, hka.1.1, hka.1.2⟩
          obtain ⟨ti, ht, hs, ha⟩ := hti
          obtain ⟨u1, p1, v1⟩ := run_part (hT _ _ ht) hs ha (h1.trans e1) hxa
          have q1 := ih1 f.type ya hka k (by omega) _ u1 v1
          have hd2 : xs.toList.drop (f.offset + ya.size) = cb := by
            rw [← List.drop_drop, h1, e1, ← hxa.len, List.drop_left]
          have hnf := hnm f (by simp)
          simp only [List.forIn_cons, Sem.run_bind, hnf, ne_eq, not_false_eq_true, if_true, Result.andThen_ok, p1, q1, Sem.run_pure]
          have := ih2 fs _ yb hkb k (by omega) r hf (fun g hg => hnm g (by simp [hg])) xs x.2 cb hd2 hxb
          simpa only [Sem.run_bind, Sem.run_pure] using this
    · intro n i e y hk k s hdk hs xs x c1 h1 hx
      cases n with
      | zero => simp
      | succ n =>
        cases y <;> simp only [chkArr] at hk <;> first | cases hk | skip
        rename_i ya yb
        simp only [Bool.and_eq_true] at hk
        obtain ⟨hka, hkb⟩ := hk
        obtain ⟨ca, cb, e1, hxa, hxb⟩ := hx
        cases d with
        | zero => simp [chkTy] at hka
        | succ d =>
        have hti : ∃ ti, T e = some ti ∧ ti.size = ya.size ∧ ti.agg = ya.agg := by
          simp only [chkTy] at hka
          cases ht : T e with
          | none => rw [ht] at hka; cases hka
          | some ti =>
            rw [ht] at hka
            simp only [Bool.and_eq_true, beq_iff_eq] at hka
            exact ⟨ti, rfl, hka.1.1, hka.1.2⟩
        obtain ⟨ti, ht, hs', ha⟩ := hti
        have hss := hs ti ht
        subst hss
        obtain ⟨u1, p1, v1⟩ := run_part (hT _ _ ht) hs' ha (h1.trans e1) hxa
        have q1 := ih1 e ya hka k (by omega) _ u1 v1
        have hd2 : xs.toList.drop ((i + 1) * ti.size) = cb := by
          rw [Nat.succ_mul, hs', ← List.drop_drop, ← hs', h1, e1, hs', ← hxa.len, List.drop_left]
        simp only [List.range'_succ, List.forIn_cons, Sem.run_bind, (hT _ _ ht).sizeOf w, Result.andThen_ok, p1, q1, Sem.run_pure]
        have := ih3 n (i + 1) e yb hkb k ti.size (by omega) hs xs x.2 cb hd2 hxb
        simpa only [Sem.run_bind, Sem.run_pure] using this
end
end
end Go.Ab
