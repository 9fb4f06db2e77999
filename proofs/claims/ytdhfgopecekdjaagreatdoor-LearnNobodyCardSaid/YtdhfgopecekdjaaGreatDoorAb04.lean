/- An abstract executor for the machine: part 4 of its soundness, for every program and table. -/
import Derived.Test.YtdhfgopecekdjaaGreatDoorAb03
import Derived.Laws.BytesArg
import Derived.Laws.BytesString
import Derived.Laws.Tables
namespace Go.Ab
noncomputable section
open Go Go.RowKit

section
variable {C : Cx} {o : Oper} {σ : St} {e : Eff} {a : Act} {w : World}

theorem run_fieldAt' {P : Program} {T : Tbl} (hT : TblOk P T) {s : TypeId} {fields : Array Field} (hu : P.underlying s = some (.struct fields)) {f : Nat} {ft : TypeId} {fo : Nat}
    (hf : (fields.toList.map (fun f => (f.type, f.offset)))[f]? = some (ft, fo)) {tf : TI} (hft : T ft = some tf) (hz : tf.size ≠ 0) (ad : Addr) (w : World) :
    (Instr.fieldAt s (.pointer (some ad)) f).run P w = .ok (.pointer (some (ad.add fo))) w := by
  rw [List.getElem?_map] at hf
  cases hq : fields.toList[f]? with
  | none => rw [hq] at hf; cases hf
  | some fl =>
    rw [hq] at hf
    simp only [Option.map_some, Option.some.injEq, Prod.mk.injEq] at hf
    obtain ⟨rfl, rfl⟩ := hf
    have hq' : fields[f]? = some fl := by simpa using hq
    simp [Instr.fieldAt, run_underlying hu, hq', Instr.sureAddr, fieldPlace, (hT _ _ hft).sizeOf w, hz]

/-- A pointer into an object, moved on. -/
theorem PtrOk.move {E : Env} {id i off : Nat} {v : Value} (h : PtrOk E id i off [v]) : ∃ ad : Addr, v = .pointer (some ad) ∧ ∀ n, PtrOk E id i (off + n) [.pointer (some (ad.add n))] := by
  obtain ⟨ob, hob, h⟩ := h
  cases ob with
  | box bv =>
    obtain ⟨hi, b, hφ, hp⟩ := h
    refine ⟨⟨b, off, none⟩, by simpa using hp, fun n => ⟨_, hob, hi, b, hφ, by rw [add_at]⟩⟩
  | row et t xs =>
    obtain ⟨hi, b, m, c, hφ, hp⟩ := h
    refine ⟨⟨b, i * t.size + off, none⟩, by simpa using hp, fun n => ⟨_, hob, hi, b, m, c, hφ, by rw [add_at, Nat.add_assoc]⟩⟩
  | vrow et sz xs =>
    obtain ⟨hi, b, m, c, hφ, hp⟩ := h
    refine ⟨⟨b, i * sz + off, none⟩, by simpa using hp, fun n => ⟨_, hob, hi, b, m, c, hφ, by rw [add_at, Nat.add_assoc]⟩⟩
  | _ =>
    obtain ⟨ad, hp⟩ := h
    exact ⟨ad, by simpa using hp, fun n => ⟨_, hob, _, rfl⟩⟩

theorem sound_fieldAddr {x : Operand} {s : TypeId} {f : Nat} (hop : o.op = .fieldAddr s x f) (hT : TblOk C.P C.T) (hR : Rel C.w0 C.N C.as σ a w) (hd : ∀ t, o.dst = some t → t < C.N)
    {id i off : Nat} {p : List Nat} {ti tf : TI} {fs : List (TypeId × Nat)} {ft : TypeId} {fo : Nat} (hx : ev C.T 0 σ.fr x = some (.ptr id i off p)) (hs : C.T s = some ti) (hds : ti.d = .struct fs) (hf : fs[f]? = some (ft, fo)) (hft : C.T ft = some tf) (hz : tf.size ≠ 0)
    (he : e = { v := .ptr id i (off + fo) (p ++ [f]) }) : Outc C σ o e a w := by
  subst he
  obtain ⟨fields, hu, rfl⟩ := field_off hT hs hds
  have hR' := hR
  obtain ⟨⟨φ, hg, hff, hh⟩, hN⟩ := hR'
  obtain ⟨ad, h1, h2⟩ := PtrOk.move ((ev_slot hff hx).cell rfl (by simp) (by simp))
  refine ⟨_, .pointer (some (ad.add fo)), w, ?_, .inl rfl, Rel.next hg hff hh hN hd (EnvLe.refl _) hg (Slot.ofCell (h2 fo) rfl)⟩
  simp [execOp, hop, h1, run_fieldAt' hT hu hf hft hz]

theorem sound_fieldPim {x : Operand} {s : TypeId} {f : Nat} (hop : o.op = .fieldAddr s x f) (hT : TblOk C.P C.T) (hR : Rel C.w0 C.N C.as σ a w) (hd : ∀ t, o.dst = some t → t < C.N)
    {t u : Ty} {y : t.V} {z : u.V} {ti tf : TI} {fs : List (TypeId × Nat)} {ft : TypeId} {fo : Nat} (hx : ev C.T 0 σ.fr x = some (.pim t y)) (hs : C.T s = some ti) (hds : ti.d = .struct fs) (hf : fs[f]? = some (ft, fo)) (hft : C.T ft = some tf) (hz : tf.size ≠ 0)
    (hgt : datGet t y [f] = some (.dat u z)) (hof : tyOff t [f] = some fo) (he : e = { v := .pim u z }) : Outc C σ o e a w := by
  subst he
  obtain ⟨fields, hu, rfl⟩ := field_off hT hs hds
  have hR' := hR
  obtain ⟨⟨φ, hg, hff, hh⟩, hN⟩ := hR'
  obtain ⟨b, oo, c, h1, hI, hr, hc⟩ := (ev_slot hff hx).cell rfl (by simp) (by simp)
  obtain ⟨u', z', c', pre, post, hz', hcs, hl, hr'⟩ := datGet_rep hgt hof hr
  cases hz'
  refine ⟨_, .pointer (some ⟨b, oo + fo, none⟩), w, ?_, .inl rfl, Rel.next hg hff hh hN hd (EnvLe.refl _) hg (Slot.ofCell ⟨b, oo + fo, c', rfl, hI, hr', fun j v hj => ?_⟩ rfl)⟩
  · have h1' : a.eval x = .pointer (some ⟨b, oo, none⟩) := by simpa using h1
    simp [execOp, hop, h1', run_fieldAt' hT hu hf hft hz, add_at]
  · have := hc _ v (by have := mid_at hcs hj; exact this)
    rw [hl] at this
    rwa [Nat.add_assoc]

theorem sound_field {x : Operand} {s : TypeId} {f : Nat} (hop : o.op = .field s x f) (hT : TblOk C.P C.T) (hR : Rel C.w0 C.N C.as σ a w) (hd : ∀ t, o.dst = some t → t < C.N)
    {v u : AV} {ti tf : TI} {fs : List (TypeId × Nat)} {ft : TypeId} {fo : Nat} (hx : ev C.T 0 σ.fr x = some v) (hs : C.T s = some ti) (hds : ti.d = .struct fs) (hf : fs[f]? = some (ft, fo)) (hft : C.T ft = some tf)
    (hgt : avGet v [f] = some u) (hof : avOff v [f] = some fo) (hag : v.agg = true) (hsz : tf.size = u.size) (hua : tf.agg = u.agg) (he : e = { v := u }) : Outc C σ o e a w := by
  subst he
  obtain ⟨fields, hu, rfl⟩ := field_off hT hs hds
  have hR' := hR
  obtain ⟨⟨φ, hg, hff, hh⟩, hN⟩ := hR'
  obtain ⟨cs, h1, hr⟩ := (ev_slot hff hx).toAgg hag
  obtain ⟨c, pre, post, hcs, hl, hr'⟩ := avGet_rep hgt hof hr
  have hq : ∃ fl, fields[f]? = some fl ∧ fl.type = ft ∧ fl.offset = fo := by
    rw [List.getElem?_map] at hf
    cases hq : fields.toList[f]? with
    | none => rw [hq] at hf; cases hf
    | some fl =>
      rw [hq] at hf
      simp only [Option.map_some, Option.some.injEq, Prod.mk.injEq] at hf
      exact ⟨fl, by simpa using hq, hf.1, hf.2⟩
  obtain ⟨fl, hq1, rfl, rfl⟩ := hq
  have hp : ∃ v', (part fl.type cs.toArray fl.offset).run C.P w = .ok v' w ∧ Slot ⟨w, imm C.w0 w φ σ.objs, φ, σ.objs⟩ u v' := by
    have hdrop : cs.drop fl.offset = c ++ post := by rw [hcs, ← hl, List.append_assoc, List.drop_left]
    cases hy : u.agg with
    | true =>
      refine ⟨.agg (cs.toArray.extract fl.offset (fl.offset + tf.size)), by simp [part, (hT _ _ hft).isAgg w, hua, hy, (hT _ _ hft).sizeOf w], ?_⟩
      have : cs.toArray.extract fl.offset (fl.offset + tf.size) = c.toArray := by
        apply Array.ext'
        rw [Array.toList_extract, List.extract_eq_take_drop]
        simp only [hdrop, hsz, ← hr'.len, Nat.add_sub_cancel_left, List.take_left]
      rw [this]
      exact Slot.ofAgg hr' hy
    | false =>
      have h1 := hr'.len
      rw [AV.size_cell hy] at h1
      match c, h1 with
      | [q], _ =>
        refine ⟨q, ?_, Slot.ofCell hr' hy⟩
        have hv : cs[fl.offset]? = some q := by
          have : (cs.drop fl.offset)[0]? = some q := by rw [hdrop]; rfl
          rw [List.getElem?_drop] at this
          simpa using this
        simp [part, (hT _ _ hft).isAgg w, hua, hy, hv]
  obtain ⟨v', hp1, hp2⟩ := hp
  refine ⟨_, v', w, ?_, .inl rfl, Rel.next hg hff hh hN hd (EnvLe.refl _) hg hp2⟩
  simp [execOp, hop, h1, Instr.field, run_underlying hu, hq1, asAgg, hp1]

/-! #### elements -/
theorem slice_elem {P : Program} {T : Tbl} (hT : TblOk P T) {s : TypeId} {ti : TI} (h : T s = some ti) {el : TypeId} (hd : ti.d = .slice el) : P.underlying s = some (.slice el) := by
  obtain ⟨d, hu, htd, _⟩ := (hT s ti h).desc
  rw [hd] at htd
  cases d <;> simp only [tdOk] at htd
  subst htd
  exact hu

theorem run_indexAt {P : Program} {t el : TypeId} {te : TI} (hu : P.underlying t = some (.slice el)) (hte : TIOk P el te) {b oo n cap : Nat} {k : IntKind} {i : Int} (hi : InRange i n) (w : World) :
    (Instr.indexAt t (.slice (some ⟨b, oo, none⟩) n cap) (.int k i)).run P w = .ok (.pointer (some ⟨b, oo + i.toNat * te.size, none⟩)) w := by
  have h0 : 0 ≤ i ∧ i < n := hi
  simp [Instr.indexAt, asIntOf, run_underlying hu, h0, hte.sizeOf w, add_at]

theorem sound_index_dat {x ix : Operand} {t el : TypeId} (hop : o.op = .indexAddr t x ix) (hT : TblOk C.P C.T) (hR : Rel C.w0 C.N C.as σ a w) (hd : ∀ t, o.dst = some t → t < C.N)
    {ty : Ty} {xs : List ty.V} {k : IntKind} {i : Int} {ti te : TI} (hx : ev C.T t σ.fr x = some (.dat (.lst ty) xs)) (hi : ev C.T 0 σ.fr ix = some (.dat (.int k) i)) (ht : C.T t = some ti) (hds : ti.d = .slice el) (hte : C.T el = some te) (hsz : te.size = ty.size)
    (he : e = { v := .pim ty (xs.getD i.toNat ty.dflt), conds := [.inRange i xs.length] }) (hc : ∀ q ∈ e.conds, q.holds) : Outc C σ o e a w := by
  subst he
  have hin : InRange i xs.length := hc (.inRange i xs.length) (by simp)
  have hR' := hR
  obtain ⟨⟨φ, hg, hf, hh⟩, hN⟩ := hR'
  obtain ⟨b, n, cap, cells, h1, h2, h3, h4, hr, hm⟩ := (ev_slot hf hx).cell rfl (by simp) (by simp)
  have hii := (ev_slot hf hi).int
  have hlt : i.toNat < xs.length := by obtain ⟨h5, h6⟩ := hin; omega
  rcases hm with hm | ⟨bb, oo, rfl, hI, hcell⟩
  · rw [show xs = [] from hm] at hlt; simp at hlt
  · obtain ⟨pre, c, post, hcs, hpl, hrc⟩ := RepL.get (k := ty.size) (fun _ _ h => RepC.len h) i.toNat (xs.getD i.toNat ty.dflt) hr (by rw [List.getD_eq_getElem?_getD, List.getElem?_eq_getElem hlt]; rfl)
    have hxv : a.eval x = .slice (some ⟨bb, oo, none⟩) xs.length cap := by rw [show xs.length = n from h2]; simpa using h1
    refine ⟨_, .pointer (some ⟨bb, oo + i.toNat * te.size, none⟩), w, ?_, .inl rfl, Rel.next hg hf hh hN hd (EnvLe.refl _) hg (Slot.ofCell ⟨bb, oo + i.toNat * te.size, c, rfl, hI, hrc, fun j v hj => ?_⟩ rfl)⟩
    · simp [execOp, hop, hxv, hii, run_indexAt (slice_elem hT ht hds) (hT _ _ hte) hin]
    · have h5 := hcell _ v (mid_at hcs hj)
      rw [hpl] at h5
      rw [hsz, Nat.add_assoc]; exact h5

theorem sound_index_sl {x ix : Operand} {t el : TypeId} (hop : o.op = .indexAddr t x ix) (hT : TblOk C.P C.T) (hR : Rel C.w0 C.N C.as σ a w) (hd : ∀ t, o.dst = some t → t < C.N)
    {id : Nat} {et : TypeId} {ty : Ty} {xs : List ty.V} {k : IntKind} {i : Int} {ti te : TI} (hx : ev C.T t σ.fr x = some (.sl id)) (hi : ev C.T 0 σ.fr ix = some (.dat (.int k) i)) (ht : C.T t = some ti) (hds : ti.d = .slice el) (hte : C.T el = some te) (hsz : te.size = ty.size)
    (hob : look id σ.objs = some (.row et ty xs)) (he : e = { v := .ptr id i.toNat 0 [], conds := [.inRange i xs.length], rd := [id] }) (hc : ∀ q ∈ e.conds, q.holds) : Outc C σ o e a w := by
  subst he
  have hin : InRange i xs.length := hc (.inRange i xs.length) (by simp)
  have hR' := hR
  obtain ⟨⟨φ, hg, hf, hh⟩, hN⟩ := hR'
  obtain ⟨ob, hob', _, h1⟩ := (ev_slot hf hx).cell rfl (by simp) (by simp)
  replace hob' : look id σ.objs = some ob := hob'
  rw [hob] at hob'; cases hob'
  have hii := (ev_slot hf hi).int
  have hlt : i.toNat < xs.length := by obtain ⟨h5, h6⟩ := hin; omega
  obtain ⟨cells, _, _, hown⟩ := hg.obj _ _ hob
  rcases hown with ⟨h3, h4⟩ | ⟨g, cap, cur, h3, _⟩
  · omega
  · have hxv : a.eval x = .slice (some ⟨g, 0, none⟩) xs.length (cap + 1) := by
      have h1' : a.eval x = φ id := by simpa using h1
      exact h1'.trans h3
    refine ⟨_, .pointer (some ⟨g, 0 + i.toNat * te.size, none⟩), w, ?_, .inl rfl, Rel.next hg hf hh hN hd (EnvLe.refl _) hg (Slot.ofCell ⟨_, hob, hlt, g, xs.length, cap + 1, h3, by rw [hsz]; simp⟩ rfl)⟩
    simp [execOp, hop, hxv, hii, run_indexAt (slice_elem hT ht hds) (hT _ _ hte) hin]

theorem sound_index_frz {x ix : Operand} {t el : TypeId} (hop : o.op = .indexAddr t x ix) (hT : TblOk C.P C.T) (hR : Rel C.w0 C.N C.as σ a w) (hd : ∀ t, o.dst = some t → t < C.N)
    {id : Nat} {ty : Ty} {xs : List ty.V} {k : IntKind} {i : Int} {ti te : TI} (hx : ev C.T t σ.fr x = some (.sl id)) (hi : ev C.T 0 σ.fr ix = some (.dat (.int k) i)) (ht : C.T t = some ti) (hds : ti.d = .slice el) (hte : C.T el = some te) (hsz : te.size = ty.size)
    (hob : look id σ.objs = some (.frz ty xs)) (he : e = { v := .pim ty (xs.getD i.toNat ty.dflt), conds := [.inRange i xs.length], rd := [id] }) (hc : ∀ q ∈ e.conds, q.holds) : Outc C σ o e a w := by
  subst he
  have hin : InRange i xs.length := hc (.inRange i xs.length) (by simp)
  have hR' := hR
  obtain ⟨⟨φ, hg, hf, hh⟩, hN⟩ := hR'
  obtain ⟨ob, hob', _, h1⟩ := (ev_slot hf hx).cell rfl (by simp) (by simp)
  replace hob' : look id σ.objs = some ob := hob'
  rw [hob] at hob'; cases hob'
  have hii := (ev_slot hf hi).int
  have hlt : i.toNat < xs.length := by obtain ⟨h5, h6⟩ := hin; omega
  obtain ⟨b, n, cap, cells, h1', h2, h3, h4, hr, hm⟩ := hg.obj _ _ hob
  rcases hm with hm | ⟨bb, oo, rfl, hI, hcell⟩
  · rw [show xs = [] from hm] at hlt; simp at hlt
  · obtain ⟨pre, c, post, hcs, hpl, hrc⟩ := RepL.get (k := ty.size) (fun _ _ h => RepC.len h) i.toNat (xs.getD i.toNat ty.dflt) hr (by rw [List.getD_eq_getElem?_getD, List.getElem?_eq_getElem hlt]; rfl)
    have hxv : a.eval x = .slice (some ⟨bb, oo, none⟩) xs.length cap := by
      have q1 : a.eval x = φ id := by simpa using h1
      rw [show xs.length = n from h2]
      have q2 : φ id = .slice (some ⟨bb, oo, none⟩) n cap := by simpa using h1'
      exact q1.trans q2
    refine ⟨_, .pointer (some ⟨bb, oo + i.toNat * te.size, none⟩), w, ?_, .inl rfl, Rel.next hg hf hh hN hd (EnvLe.refl _) hg (Slot.ofCell ⟨bb, oo + i.toNat * te.size, c, rfl, hI, hrc, fun j v hj => ?_⟩ rfl)⟩
    · simp [execOp, hop, hxv, hii, run_indexAt (slice_elem hT ht hds) (hT _ _ hte) hin]
    · have h5 := hcell _ v (mid_at hcs hj)
      rw [hpl] at h5
      rw [hsz, Nat.add_assoc]; exact h5

theorem sound_index_sub {x ix : Operand} {t el : TypeId} (hop : o.op = .indexAddr t x ix) (hT : TblOk C.P C.T) (hR : Rel C.w0 C.N C.as σ a w) (hd : ∀ t, o.dst = some t → t < C.N)
    {id lo hi : Nat} {et : TypeId} {ty : Ty} {xs : List ty.V} {k : IntKind} {i : Int} {ti te : TI} (hx : ev C.T t σ.fr x = some (.sub id lo hi)) (hi' : ev C.T 0 σ.fr ix = some (.dat (.int k) i)) (ht : C.T t = some ti) (hds : ti.d = .slice el) (hte : C.T el = some te) (hsz : te.size = ty.size)
    (hob : look id σ.objs = some (.row et ty xs)) (he : e = { v := .ptr id (lo + i.toNat) 0 [], conds := [.inRange i (hi - lo)], rd := [id] }) (hc : ∀ q ∈ e.conds, q.holds) : Outc C σ o e a w := by
  subst he
  have hin : InRange i (hi - lo) := hc (.inRange i (hi - lo)) (by simp)
  obtain ⟨⟨φ, hg, hf, hh⟩, hN⟩ := hR
  obtain ⟨ob, hob', _, h1⟩ := (ev_slot hf hx).cell rfl (by simp) (by simp)
  have : ob = .row et ty xs := by have := hob'.symm.trans hob; cases this; rfl
  subst this
  obtain ⟨h2, h3, ad, n, cap, ad', h4, h5, h5'⟩ := h1
  have hii := (ev_slot hf hi').int
  obtain ⟨h6, h7⟩ := hin
  have hlt : lo + i.toNat < xs.length := by omega
  obtain ⟨cells, _, _, hown⟩ := hg.obj _ _ hob
  rcases hown with ⟨h8, _⟩ | ⟨g, cap', cur, h8, _, _, h9, _⟩
  · omega
  · have hφ := h8.symm.trans h4
    simp only [Value.slice.injEq] at hφ
    obtain ⟨rfl, rfl, rfl⟩ := hφ
    have hne : ¬ cap' + 1 = lo := by omega
    have hxv : a.eval x = .slice (some ⟨g, lo * ty.size, none⟩) (hi - lo) (cap' + 1 - lo) := by
      have h6 := h5' hne
      simp only [Option.map_some, add_at, Nat.zero_add] at h6
      rw [h6] at h5
      simpa using h5
    refine ⟨_, .pointer (some ⟨g, lo * ty.size + i.toNat * te.size, none⟩), w, ?_, .inl rfl, Rel.next hg hf hh hN hd (EnvLe.refl _) hg (Slot.ofCell ⟨_, hob, hlt, g, xs.length, cap' + 1, h8, by rw [hsz, Nat.add_mul]; simp⟩ rfl)⟩
    simp [execOp, hop, hxv, hii, run_indexAt (slice_elem hT ht hds) (hT _ _ hte) (show InRange i (hi - lo) from ⟨h6, h7⟩)]

theorem sound_index_slv {x ix : Operand} {t el : TypeId} (hop : o.op = .indexAddr t x ix) (hT : TblOk C.P C.T) (hR : Rel C.w0 C.N C.as σ a w) (hd : ∀ t, o.dst = some t → t < C.N)
    {id : Nat} {et : TypeId} {sz : Nat} {xs : List AV} {k : IntKind} {i : Int} {ti te : TI} (hx : ev C.T t σ.fr x = some (.sl id)) (hi : ev C.T 0 σ.fr ix = some (.dat (.int k) i)) (ht : C.T t = some ti) (hds : ti.d = .slice el) (hte : C.T el = some te) (hsz : te.size = sz)
    (hob : look id σ.objs = some (.vrow et sz xs)) (he : e = { v := .ptr id i.toNat 0 [], conds := [.inRange i xs.length], rd := [id] }) (hc : ∀ q ∈ e.conds, q.holds) : Outc C σ o e a w := by
  subst he
  have hin : InRange i xs.length := hc (.inRange i xs.length) (by simp)
  have hR' := hR
  obtain ⟨⟨φ, hg, hf, hh⟩, hN⟩ := hR'
  obtain ⟨ob, hob', _, h1⟩ := (ev_slot hf hx).cell rfl (by simp) (by simp)
  replace hob' : look id σ.objs = some ob := hob'
  rw [hob] at hob'; cases hob'
  have hii := (ev_slot hf hi).int
  have hlt : i.toNat < xs.length := by obtain ⟨h5, h6⟩ := hin; omega
  obtain ⟨cells, _, _, hown⟩ := hg.obj _ _ hob
  rcases hown with ⟨h3, h4⟩ | ⟨g, cap, cur, h3, _⟩
  · omega
  · have hxv : a.eval x = .slice (some ⟨g, 0, none⟩) xs.length (cap + 1) := by
      have h1' : a.eval x = φ id := by simpa using h1
      exact h1'.trans h3
    refine ⟨_, .pointer (some ⟨g, 0 + i.toNat * te.size, none⟩), w, ?_, .inl rfl, Rel.next hg hf hh hN hd (EnvLe.refl _) hg (Slot.ofCell ⟨_, hob, hlt, g, xs.length, cap + 1, h3, by rw [hsz]; simp⟩ rfl)⟩
    simp [execOp, hop, hxv, hii, run_indexAt (slice_elem hT ht hds) (hT _ _ hte) hin]

theorem sound_index_subv {x ix : Operand} {t el : TypeId} (hop : o.op = .indexAddr t x ix) (hT : TblOk C.P C.T) (hR : Rel C.w0 C.N C.as σ a w) (hd : ∀ t, o.dst = some t → t < C.N)
    {id lo hi : Nat} {et : TypeId} {sz : Nat} {xs : List AV} {k : IntKind} {i : Int} {ti te : TI} (hx : ev C.T t σ.fr x = some (.sub id lo hi)) (hi' : ev C.T 0 σ.fr ix = some (.dat (.int k) i)) (ht : C.T t = some ti) (hds : ti.d = .slice el) (hte : C.T el = some te) (hsz : te.size = sz)
    (hob : look id σ.objs = some (.vrow et sz xs)) (he : e = { v := .ptr id (lo + i.toNat) 0 [], conds := [.inRange i (hi - lo)], rd := [id] }) (hc : ∀ q ∈ e.conds, q.holds) : Outc C σ o e a w := by
  subst he
  have hin : InRange i (hi - lo) := hc (.inRange i (hi - lo)) (by simp)
  obtain ⟨⟨φ, hg, hf, hh⟩, hN⟩ := hR
  obtain ⟨ob, hob', _, h1⟩ := (ev_slot hf hx).cell rfl (by simp) (by simp)
  have : ob = .vrow et sz xs := by have := hob'.symm.trans hob; cases this; rfl
  subst this
  obtain ⟨h2, h3, ad, n, cap, ad', h4, h5, h5'⟩ := h1
  have hii := (ev_slot hf hi').int
  obtain ⟨h6, h7⟩ := hin
  have hlt : lo + i.toNat < xs.length := by omega
  obtain ⟨cells, _, _, hown⟩ := hg.obj _ _ hob
  rcases hown with ⟨h8, _⟩ | ⟨g, cap', cur, h8, _, _, h9, _⟩
  · omega
  · have hφ := h8.symm.trans h4
    simp only [Value.slice.injEq] at hφ
    obtain ⟨rfl, rfl, rfl⟩ := hφ
    have hne : ¬ cap' + 1 = lo := by omega
    have hxv : a.eval x = .slice (some ⟨g, lo * sz, none⟩) (hi - lo) (cap' + 1 - lo) := by
      have h6 := h5' hne
      simp only [Option.map_some, add_at, Nat.zero_add] at h6
      rw [h6] at h5
      simpa using h5
    refine ⟨_, .pointer (some ⟨g, lo * sz + i.toNat * te.size, none⟩), w, ?_, .inl rfl, Rel.next hg hf hh hN hd (EnvLe.refl _) hg (Slot.ofCell ⟨_, hob, hlt, g, xs.length, cap' + 1, h8, by rw [hsz, Nat.add_mul]; simp⟩ rfl)⟩
    simp [execOp, hop, hxv, hii, run_indexAt (slice_elem hT ht hds) (hT _ _ hte) (show InRange i (hi - lo) from ⟨h6, h7⟩)]
end
end
end Go.Ab

namespace Go.Ab
noncomputable section
open Go Go.RowKit

section
variable {C : Cx} {o : Oper} {σ : St} {e : Eff} {a : Act} {w : World}

theorem array_elem {P : Program} {T : Tbl} (hT : TblOk P T) {s : TypeId} {ti : TI} (h : T s = some ti) {n : Nat} {el : TypeId} (hd : ti.d = .array n el) : P.underlying s = some (.array n el) := by
  obtain ⟨d, hu, htd, _⟩ := (hT s ti h).desc
  rw [hd] at htd
  cases d <;> simp only [tdOk] at htd
  obtain ⟨rfl, rfl⟩ := htd
  exact hu

theorem run_indexAt_array {P : Program} {t el : TypeId} {n : Nat} {te : TI} (hu : P.underlying t = some (.array n el)) (hte : TIOk P el te) {ad : Addr} {k : IntKind} {i : Int} (h0 : 0 ≤ i) (hi : i.toNat < n) (w : World) :
    (Instr.indexAt t (.pointer (some ad)) (.int k i)).run P w = .ok (.pointer (some (ad.add (i.toNat * te.size)))) w := by
  have h1 : 0 ≤ i ∧ i < (n : Int) := ⟨h0, by omega⟩
  simp [Instr.indexAt, asIntOf, run_underlying hu, Instr.sureAddr, h1, hte.sizeOf w]

theorem eqI_nonneg {j : Int} (h : eqI (Int.ofNat (Int.toNat j)) j = true) : 0 ≤ j := by
  rw [eqI_dec] at h
  have := of_decide_eq_true h
  rw [← this]
  exact Int.natCast_nonneg _

theorem sound_index_ptr {x ix : Operand} {t el : TypeId} (hop : o.op = .indexAddr t x ix) (hT : TblOk C.P C.T) (hR : Rel C.w0 C.N C.as σ a w) (hd : ∀ t, o.dst = some t → t < C.N)
    {id i off : Nat} {p : List Nat} {k : IntKind} {j : Int} {ti te : TI} {n : Nat} (hx : ev C.T t σ.fr x = some (.ptr id i off p)) (hi : ev C.T 0 σ.fr ix = some (.dat (.int k) j)) (ht : C.T t = some ti) (hds : ti.d = .array n el) (hte : C.T el = some te)
    (hj : j.toNat < n) (hj0 : eqI (Int.ofNat (Int.toNat j)) j = true) (he : e = { v := .ptr id i (off + j.toNat * te.size) (p ++ [j.toNat]) }) : Outc C σ o e a w := by
  subst he
  have hR' := hR
  obtain ⟨⟨φ, hg, hff, hh⟩, hN⟩ := hR'
  obtain ⟨ad, h1, h2⟩ := PtrOk.move ((ev_slot hff hx).cell rfl (by simp) (by simp))
  have hii := (ev_slot hff hi).int
  refine ⟨_, .pointer (some (ad.add (j.toNat * te.size))), w, ?_, .inl rfl, Rel.next hg hff hh hN hd (EnvLe.refl _) hg (Slot.ofCell (h2 _) rfl)⟩
  simp [execOp, hop, h1, hii, run_indexAt_array (array_elem hT ht hds) (hT _ _ hte) (eqI_nonneg hj0) hj]

theorem sound_index_pim {x ix : Operand} {t el : TypeId} (hop : o.op = .indexAddr t x ix) (hT : TblOk C.P C.T) (hR : Rel C.w0 C.N C.as σ a w) (hd : ∀ t, o.dst = some t → t < C.N)
    {u r : Ty} {y : u.V} {z : r.V} {k : IntKind} {j : Int} {ti te : TI} {n : Nat} (hx : ev C.T t σ.fr x = some (.pim u y)) (hi : ev C.T 0 σ.fr ix = some (.dat (.int k) j)) (ht : C.T t = some ti) (hds : ti.d = .array n el) (hte : C.T el = some te)
    (hj : j.toNat < n) (hj0 : eqI (Int.ofNat (Int.toNat j)) j = true) (hgt : datGet u y [j.toNat] = some (.dat r z)) (hof : tyOff u [j.toNat] = some (j.toNat * te.size)) (he : e = { v := .pim r z }) : Outc C σ o e a w := by
  subst he
  have hR' := hR
  obtain ⟨⟨φ, hg, hff, hh⟩, hN⟩ := hR'
  obtain ⟨b, oo, c, h1, hI, hr, hc⟩ := (ev_slot hff hx).cell rfl (by simp) (by simp)
  have hii := (ev_slot hff hi).int
  obtain ⟨u', z', c', pre, post, hz', hcs, hl, hr'⟩ := datGet_rep hgt hof hr
  cases hz'
  have h1' : a.eval x = .pointer (some ⟨b, oo, none⟩) := by simpa using h1
  refine ⟨_, .pointer (some ⟨b, oo + j.toNat * te.size, none⟩), w, ?_, .inl rfl, Rel.next hg hff hh hN hd (EnvLe.refl _) hg (Slot.ofCell ⟨b, _, c', rfl, hI, hr', fun q v hq => ?_⟩ rfl)⟩
  · simp [execOp, hop, h1', hii, run_indexAt_array (array_elem hT ht hds) (hT _ _ hte) (eqI_nonneg hj0) hj, add_at]
  · have := hc _ v (mid_at hcs hq)
    rw [hl] at this
    rwa [Nat.add_assoc]

theorem sound_index_str {x ix : Operand} {t : TypeId} (hop : o.op = .index t x ix) (hu : C.P.underlying t = some .string) (hR : Rel C.w0 C.N C.as σ a w) (hd : ∀ t, o.dst = some t → t < C.N)
    {s : ByteArray} {k : IntKind} {i : Int} (hx : ev C.T t σ.fr x = some (.dat .str s)) (hi : ev C.T 0 σ.fr ix = some (.dat (.int k) i)) (he : e = { v := .dat (.int .u8) (byteAt s i), conds := [.inRange i s.size] }) (hc : ∀ q ∈ e.conds, q.holds) : Outc C σ o e a w := by
  subst he
  have hin : InRange i s.size := hc (.inRange i s.size) (by simp)
  have hin' : 0 ≤ i ∧ i < (s.size : Int) := hin
  have hR' := hR
  obtain ⟨⟨φ, hg, hff, hh⟩, hN⟩ := hR'
  have h1 := (ev_slot hff hx).str
  have hii := (ev_slot hff hi).int
  refine ⟨_, .int .u8 (byteAt s i), w, ?_, .inl rfl, Rel.next hg hff hh hN hd (EnvLe.refl _) hg (Slot.mkInt _ _)⟩
  have hb : (s[i.toNat]'(by omega)).toNat = (s.data.toList.getD i.toNat 0).toNat := by
    have hlt : i.toNat < s.data.toList.length := by rw [Array.length_toList]; have : s.data.size = s.size := rfl; omega
    rw [List.getD_eq_getElem?_getD, List.getElem?_eq_getElem hlt]
    rfl
  have hrun := run_index_string (P := C.P) w t s k i hu
  rw [dif_pos hin'] at hrun
  simp [execOp, hop, h1, hii, hrun, byteAt, hb]

theorem sound_convInt {x : Operand} {s t : TypeId} (hop : o.op = .convert s t x) (hR : Rel C.w0 C.N C.as σ a w) (hd : ∀ t, o.dst = some t → t < C.N) {k j : IntKind} (hs : ∃ d, C.P.underlying s = some d) (hu : C.P.underlying t = some (.int k))
    {n : Int} (hx : ev C.T 0 σ.fr x = some (.dat (.int j) n)) (he : e = { v := .dat (.int k) n, conds := [.inR k n] }) (hc : ∀ q ∈ e.conds, q.holds) : Outc C σ o e a w := by
  subst he
  obtain ⟨d, hs⟩ := hs
  have hR' := hR
  obtain ⟨⟨φ, hg, hff, hh⟩, hN⟩ := hR'
  have h1 := (ev_slot hff hx).int
  refine ⟨_, .int k n, w, ?_, .inl rfl, Rel.next hg hff hh hN hd (EnvLe.refl _) hg (Slot.mkInt _ _)⟩
  simp [execOp, hop, h1, convert, run_underlying hs, run_underlying hu, Conv.intToInt, wrap_in (hc (.inR k n) (by simp))]

/-! #### structs that are built -/
theorem datSet_rep {E : Env} : ∀ {t : Ty} {x : t.V} {p : List Nat} {u v' : AV} {off : Nat} {cs c : List Value}, datSet t x p u = some v' → tyOff t p = some off → RepC E.I E.w t x cs → Rep E u false c →
    Rep E v' false (cs.take off ++ c ++ cs.drop (off + c.length)) ∧ v'.size = t.size ∧ v'.agg = t.agg ∧ off + c.length ≤ cs.length := by
  intro t
  have nilCase : ∀ {t : Ty} {x : t.V} {u v' : AV} {off : Nat} {cs c : List Value}, datSet t x [] u = some v' → tyOff t [] = some off → RepC E.I E.w t x cs → Rep E u false c →
      Rep E v' false (cs.take off ++ c ++ cs.drop (off + c.length)) ∧ v'.size = t.size ∧ v'.agg = t.agg ∧ off + c.length ≤ cs.length := by
    intro t x u v' off cs c h ho hr hu
    have h1 : u.size = t.size ∧ u.agg = t.agg ∧ v' = u := by
      have : (if u.size = t.size ∧ u.agg = t.agg then some u else none) = some v' := by cases t <;> exact h
      split at this
      · rename_i hq; cases this; exact ⟨hq.1, hq.2, rfl⟩
      · cases this
    have h2 : off = 0 := by cases t <;> simp [tyOff] at ho <;> exact ho.symm
    obtain ⟨h3, h4, rfl⟩ := h1
    subst h2
    have hlen : cs.length = c.length := by rw [hr.len, hu.len, h3]
    refine ⟨?_, h3, h4, by omega⟩
    rw [List.take_zero, Nat.zero_add, List.drop_of_length_le (by omega)]
    simpa using hu
  induction t with
  | pair s r ihs ihr =>
    intro x p u v' off cs c h ho hr hu
    cases p with
    | nil => exact nilCase h ho hr hu
    | cons n p =>
      obtain ⟨cs1, cs2, rfl, h1, h2⟩ := hr
      cases n with
      | zero =>
        simp only [datSet, tyOff, Option.map_eq_some_iff] at h ho
        obtain ⟨v1, hv1, rfl⟩ := h
        obtain ⟨q1, q2, q3, q4⟩ := ihs hv1 ho h1 hu
        have hoff := q4
        refine ⟨?_, by simp [AV.size, Ty.size, q2], rfl, by rw [List.length_append]; omega⟩
        refine ⟨_, cs2, ?_, q1, h2⟩
        rw [List.take_append_of_le_length (by omega), List.drop_append_of_le_length hoff]
        simp [List.append_assoc]
      | succ n =>
        simp only [datSet, tyOff, Option.map_eq_some_iff] at h ho
        obtain ⟨v1, hv1, rfl⟩ := h
        obtain ⟨o', ho', rfl⟩ := ho
        obtain ⟨q1, q2, q3, q4⟩ := ihr hv1 ho' h2 hu
        refine ⟨?_, by simp [AV.size, Ty.size, q2], rfl, by rw [List.length_append]; have e1 := h1.len; omega⟩
        refine ⟨cs1, _, ?_, h1, q1⟩
        have e1 := h1.len
        rw [List.take_append, List.drop_append, List.take_of_length_le (by omega), List.drop_of_length_le (by omega)]
        rw [show s.size + o' - cs1.length = o' from by omega, show s.size + o' + c.length - cs1.length = o' + c.length from by omega]
        simp [List.append_assoc]
  | _ =>
    intro x p u v' off cs c h ho hr hu
    cases p with
    | nil => exact nilCase h ho hr hu
    | cons n p => cases n <;> simp [tyOff] at ho

theorem avSet_rep {E : Env} : ∀ {v : AV} {p : List Nat} {u v' : AV} {off : Nat} {cs c : List Value}, avSet v p u = some v' → avOff v p = some off → Rep E v false cs → Rep E u false c →
    Rep E v' false (cs.take off ++ c ++ cs.drop (off + c.length)) ∧ v'.size = v.size ∧ v'.agg = v.agg ∧ off + c.length ≤ cs.length := by
  intro v
  have nilCase : ∀ {v : AV} {u v' : AV} {off : Nat} {cs c : List Value}, avSet v [] u = some v' → avOff v [] = some off → Rep E v false cs → Rep E u false c →
      Rep E v' false (cs.take off ++ c ++ cs.drop (off + c.length)) ∧ v'.size = v.size ∧ v'.agg = v.agg ∧ off + c.length ≤ cs.length := by
    intro v u v' off cs c h ho hr hu
    have h1 : u.size = v.size ∧ u.agg = v.agg ∧ v' = u := by
      have : (if u.size = v.size ∧ u.agg = v.agg then some u else none) = some v' := by cases v <;> exact h
      split at this
      · rename_i hq; cases this; exact ⟨hq.1, hq.2, rfl⟩
      · cases this
    have h2 : off = 0 := by cases v <;> simp [avOff] at ho <;> exact ho.symm
    obtain ⟨h3, h4, rfl⟩ := h1
    subst h2
    have hlen : cs.length = c.length := by rw [hr.len, hu.len, h3]
    refine ⟨?_, h3, h4, by omega⟩
    rw [List.take_zero, Nat.zero_add, List.drop_of_length_le (by omega)]
    simpa using hu
  induction v with
  | pr s r ihs ihr =>
    intro p u v' off cs c h ho hr hu
    cases p with
    | nil => exact nilCase h ho hr hu
    | cons n p =>
      obtain ⟨cs1, cs2, rfl, h1, h2⟩ := hr
      cases n with
      | zero =>
        simp only [avSet, avOff, Option.map_eq_some_iff] at h ho
        obtain ⟨v1, hv1, rfl⟩ := h
        obtain ⟨q1, q2, q3, q4⟩ := ihs hv1 ho h1 hu
        have hoff := q4
        refine ⟨?_, by simp [AV.size, q2], rfl, by rw [List.length_append]; omega⟩
        refine ⟨_, cs2, ?_, q1, h2⟩
        rw [List.take_append_of_le_length (by omega), List.drop_append_of_le_length hoff]
        simp [List.append_assoc]
      | succ n =>
        simp only [avSet, avOff, Option.map_eq_some_iff] at h ho
        obtain ⟨v1, hv1, rfl⟩ := h
        obtain ⟨o', ho', rfl⟩ := ho
        obtain ⟨q1, q2, q3, q4⟩ := ihr hv1 ho' h2 hu
        refine ⟨?_, by simp [AV.size, q2], rfl, by rw [List.length_append]; have e1 := h1.len; omega⟩
        refine ⟨cs1, _, ?_, h1, q1⟩
        have e1 := h1.len
        rw [List.take_append, List.drop_append, List.take_of_length_le (by omega), List.drop_of_length_le (by omega)]
        rw [show s.size + o' - cs1.length = o' from by omega, show s.size + o' + c.length - cs1.length = o' + c.length from by omega]
        simp [List.append_assoc]
  | dat t x =>
    intro p u v' off cs c h ho hr hu
    cases p with
    | nil => exact nilCase h ho hr hu
    | cons n p =>
      simp only [avSet, avOff] at h ho
      exact datSet_rep h ho hr hu
  | _ =>
    intro p u v' off cs c h ho hr hu
    cases p with
    | nil => exact nilCase h ho hr hu
    | cons n p => simp [avSet] at h
end
end
end Go.Ab

namespace Go.Ab
noncomputable section
open Go Go.RowKit

section
variable {C : Cx} {o : Oper} {σ : St} {e : Eff} {a : Act} {w : World}

theorem foldl_put (off : Nat) : ∀ (vs : List Value) (k : Nat) (cs : Array Value), off + k + vs.length ≤ cs.size →
    ((vs.zipIdx k).foldl (fun (cs : Array Value) (p : Value × Nat) => cs.setIfInBounds (off + p.2) p.1) cs).toList = cs.toList.take (off + k) ++ vs ++ cs.toList.drop (off + k + vs.length)
  | [], k, cs, _ => by simp
  | v :: vs, k, cs, h => by
    simp only [List.length_cons] at h
    rw [List.zipIdx_cons, List.foldl_cons, foldl_put off vs (k + 1) _ (by simp; omega)]
    simp only [Array.toList_setIfInBounds]
    rw [show off + (k + 1) = off + k + 1 from by omega]
    rw [List.take_set, List.drop_set_of_lt (by omega)]
    have hlt : off + k < cs.toList.length := by rw [Array.length_toList]; omega
    have e1 : (cs.toList.take (off + k + 1)).set (off + k) v = cs.toList.take (off + k) ++ [v] := by
      rw [List.take_succ_eq_append_getElem hlt, List.set_append_right _ _ (by simp; omega)]
      have hm : off + k - min (off + k) cs.size = 0 := by omega
      simp [hm]
    rw [e1, List.length_cons, show off + k + 1 + vs.length = off + k + (vs.length + 1) from by omega]
    simp [List.append_assoc]

theorem fill_step (off : Nat) (v : Array Value) (cs : Array Value) (h : off + v.size ≤ cs.size) :
    (v.zipIdx.foldl (fun (cs : Array Value) (p : Value × Nat) => cs.setIfInBounds (off + p.2) p.1) cs).toList = cs.toList.take off ++ v.toList ++ cs.toList.drop (off + v.size) := by
  rw [← Array.foldl_toList, Array.toList_zipIdx]
  have := foldl_put off v.toList 0 cs (by simpa using h)
  simpa using this

theorem fill_rep {T : Tbl} {E : Env} {fr : Fr} {a : Act} (hf : FrOk E fr a) {place : Nat → Option (Nat × Nat)} {ft : Nat → Option (TypeId × Nat)}
    (hp : ∀ i t fo ti, ft i = some (t, fo) → T t = some ti → place i = some (fo, ti.size)) :
    ∀ (parts : List (Nat × Operand)) (z z' : AV) (cs : Array Value), setFields T fr z parts ft = some z' → Rep E z false cs.toList →
      ∃ cs' : Array Value, Instr.fill place cs (parts.map fun p => (p.1, a.eval p.2)) = some cs' ∧ Rep E z' false cs'.toList ∧ z'.size = z.size ∧ z'.agg = z.agg
  | [], z, z', cs, h, hr => by
    simp only [setFields, Option.some.injEq] at h
    subst h
    exact ⟨cs, rfl, hr, rfl, rfl⟩
  | (i, x) :: r, z, z', cs, h, hr => by
    simp only [setFields] at h
    split at h
    · rename_i t fo hft
      split at h
      · rename_i v ti off hv hti hoff
        split at h
        · rename_i hk
          obtain ⟨rfl, hsz, hok⟩ := hk
          split at h
          · rename_i z1 hz1
            have hs := ev_slot hf hv
            have hc := hs.cells (AV.ok_ne hok).1 (AV.ok_ne hok).2
            obtain ⟨q1, q2, q3, q4⟩ := avSet_rep hz1 hoff hr hc
            have hl : (a.eval x).cells.size = v.size := by have := hc.len; simpa using this
            have hb : off + (a.eval x).cells.size ≤ cs.size := by simpa using q4
            have hst := fill_step off (a.eval x).cells cs hb
            obtain ⟨cs', f1, f2, f3, f4⟩ := fill_rep hf hp r z1 z' ((a.eval x).cells.zipIdx.foldl (fun (cs : Array Value) (p : Value × Nat) => cs.setIfInBounds (off + p.2) p.1) cs) h (by rw [hst]; simpa using q1)
            refine ⟨cs', ?_, f2, f3.trans q2, f4.trans q3⟩
            simp only [List.map_cons, Instr.fill, hp i t off ti hft hti]
            rw [if_neg (by
              intro hbad
              have hbad' : ¬(a.eval x).cells.size = ti.size ∨ cs.size < off + (a.eval x).cells.size := by simpa using hbad
              rcases hbad' with h1 | h1
              · exact h1 (by rw [hl, hsz])
              · omega)]
            exact f1
          · cases h
        · cases h
      · cases h
    · cases h

theorem sound_build {t : TypeId} {parts : Array (Nat × Operand)} (hop : o.op = .build t parts) (hT : TblOk C.P C.T) (hR : Rel C.w0 C.N C.as σ a w) (hd : ∀ t, o.dst = some t → t < C.N)
    {ti : TI} (hti : C.T t = some ti) (hagg : ti.agg = true) {v : AV}
    (hv : (∃ fs, ti.d = .struct fs ∧ setFields C.T σ.fr ti.zero parts.toList (fun i => fs[i]?) = some v) ∨
      (∃ n el te, ti.d = .array n el ∧ C.T el = some te ∧ setFields C.T σ.fr ti.zero parts.toList (fun i => some (el, i * te.size)) = some v)) (he : e = { v }) : Outc C σ o e a w := by
  subst he
  have hR' := hR
  obtain ⟨⟨φ, hg, hf, hh⟩, hN⟩ := hR'
  have hok := hT t ti hti
  obtain ⟨it, hit, hsz, hby, z, hz, hzs, hzr⟩ := hok.info
  have hzr2 := (hzr ⟨w, imm C.w0 w φ σ.objs, φ, σ.objs⟩).toAgg (hok.zero.2.trans hagg)
  obtain ⟨zc, hze, hzr2⟩ := hzr2
  subst hze
  have parts_eq : (parts.map fun (i, x) => (i, a.eval x)).toList = parts.toList.map fun p => (p.1, a.eval p.2) := by simp
  have key : ∃ cells : Array Value, C.P.built t (parts.map fun (i, x) => (i, a.eval x)).toList = some cells ∧ Rep ⟨w, imm C.w0 w φ σ.objs, φ, σ.objs⟩ v false cells.toList ∧ v.agg = true := by
    rw [parts_eq]
    rcases hv with ⟨fs, hds, hset⟩ | ⟨n, el, te, hds, hte, hset⟩
    · obtain ⟨fields, hu, rfl⟩ := field_off hT hti hds
      have hpl : ∃ places : List (Nat × Nat), fields.toList.mapM (fun f => (C.P.info? f.type).map fun i => (f.offset, i.size)) = some places ∧ ∀ (i : Nat) (f : Field), fields.toList[i]? = some f → ∃ fi : TypeInfo, C.P.info? f.type = some fi ∧ (places : List (Nat × Nat))[i]? = some (f.offset, fi.size) := by
        have hfi := hok.fields fields hu
        clear hset hu hds
        generalize fields.toList = l at hfi
        induction l with
        | nil => exact ⟨[], rfl, fun i f h => by simp at h⟩
        | cons f l ih =>
          obtain ⟨ps, h1, h2⟩ := ih (fun g hg => hfi g (by simp [hg]))
          obtain ⟨fi, hfi'⟩ := Option.isSome_iff_exists.1 (hfi f (by simp))
          refine ⟨(f.offset, fi.size) :: ps, by simp [List.mapM_cons, hfi', h1], fun i g hi => ?_⟩
          cases i with
          | zero => simp at hi; subst hi; exact ⟨fi, hfi', rfl⟩
          | succ i => obtain ⟨gi, h3, h4⟩ := h2 i g (by simpa using hi); exact ⟨gi, h3, by simpa using h4⟩
      obtain ⟨places, hp1, hp2⟩ := hpl
      obtain ⟨cs', f1, f2, f3, f4⟩ := fill_rep (T := C.T) (E := ⟨w, imm C.w0 w φ σ.objs, φ, σ.objs⟩) hf (place := (places.toArray[·]?)) (fun i t' fo ti' h1 h2 => by
        rw [List.getElem?_map] at h1
        cases hq : fields.toList[i]? with
        | none => rw [hq] at h1; cases h1
        | some f =>
          rw [hq] at h1
          simp only [Option.map_some, Option.some.injEq, Prod.mk.injEq] at h1
          obtain ⟨rfl, rfl⟩ := h1
          obtain ⟨fi, h3, h4⟩ := hp2 i f hq
          obtain ⟨i', h5, h6, _⟩ := (hT _ _ h2).info
          rw [h3] at h5; cases h5
          simpa [h6] using h4) parts.toList ti.zero v zc.toArray hset hzr2
      exact ⟨cs', by simp only [Program.built, hit, hu, hz, hp1]; exact f1, f2, f4.trans (hok.zero.2.trans hagg)⟩
    · have hu := array_elem hT hti hds
      obtain ⟨ie, hie, hies, _⟩ := (hT _ _ hte).info
      obtain ⟨cs', f1, f2, f3, f4⟩ := fill_rep (T := C.T) (E := ⟨w, imm C.w0 w φ σ.objs, φ, σ.objs⟩) hf (place := fun i => some (i * ie.size, ie.size)) (fun i t' fo ti' h1 h2 => by
        simp only [Option.some.injEq, Prod.mk.injEq] at h1
        obtain ⟨rfl, rfl⟩ := h1
        rw [hte] at h2; cases h2
        rw [hies]) parts.toList ti.zero v zc.toArray hset hzr2
      exact ⟨cs', by simp only [Program.built, hit, hu, hz, hie]; exact f1, f2, f4.trans (hok.zero.2.trans hagg)⟩
  obtain ⟨cells, hb, hr, ha⟩ := key
  refine ⟨_, .agg cells, w, ?_, .inl rfl, Rel.next hg hf hh hN hd (EnvLe.refl _) hg (by have := Slot.ofAgg hr ha; simpa using this)⟩
  have := run_build (P := C.P) w t _ cells hb
  simp only [execOp, hop, Sem.run_bind, this, Result.andThen_ok, Sem.run_pure]

/-! #### functions -/
theorem caps_rep {T : Tbl} {E : Env} {fr : Fr} {a : Act} (hf : FrOk E fr a) : ∀ (xs : List Operand) (c : AV), capsAV T fr xs = some c → Rep E c true (xs.map a.eval)
  | [], c, h => by simp only [capsAV, Option.some.injEq] at h; subst h; rfl
  | x :: r, c, h => by
    simp only [capsAV] at h
    split at h
    · rename_i v cr hv hc
      split at h
      · rename_i hok
        simp only [Option.some.injEq] at h
        subst h
        have hs := ev_slot hf hv
        refine ⟨a.eval x, r.map a.eval, rfl, ?_, caps_rep hf r cr hc⟩
        cases ha : v.agg with
        | true => obtain ⟨cs, h1, h2⟩ := hs.toAgg ha; exact .inl ⟨rfl, cs, h1, h2⟩
        | false => exact .inr ⟨rfl, hs.cell ha (AV.ok_ne hok).1 (AV.ok_ne hok).2⟩
      · cases h
    · cases h

theorem sound_makeFunc {g : FuncId} {caps : Array Operand} (hop : o.op = .makeFunc (.func g) #[] caps) (hR : Rel C.w0 C.N C.as σ a w) (hd : ∀ t, o.dst = some t → t < C.N)
    {c : AV} (hc : capsAV C.T σ.fr caps.toList = some c) (he : e = { v := .fn g c }) : Outc C σ o e a w := by
  subst he
  refine Outc.value (v := .func (.func g) #[] (caps.map a.eval)) hR hd rfl ?_ (fun φ hg hf => ?_)
  · simp [execOp, hop, Instr.makeFunc]
  · have h := caps_rep hf _ _ hc
    have : (caps.map a.eval) = (caps.toList.map a.eval).toArray := by apply Array.ext'; simp
    rw [this]
    exact Slot.ofCell ⟨_, rfl, h⟩ rfl
end
end
end Go.Ab
