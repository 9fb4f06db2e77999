/- An abstract executor for the machine: part 10 of its soundness, for every program and table. -/
import Derived.Test.YtdhfgopecekdjaaGreatDoorAb09
import Derived.OrdersIn
namespace Go.Ab
noncomputable section
open Go

section
variable {T : Tbl} {fr : Fr} {objs objs' : Objs} {e : Eff}

theorem litElems_obj {el : TypeId} {ty : Ty} : ∀ {parts : List (Nat × Operand)} {k : Nat} {ys : List ty.V} {ids : List Nat}, litElems T fr objs el ty k parts = some (ys, ids) → (∀ id ∈ ids, look id objs' = look id objs) → litElems T fr objs' el ty k parts = some (ys, ids)
  | [], k, ys, ids, h, _ => h
  | (i, x) :: r, k, ys, ids, h, hi => by
    simp only [litElems] at h ⊢
    split at h
    · rename_i hik
      rw [if_pos hik]
      split at h
      · rename_i v hv
        split at h
        · rename_i y zs js hy hz
          simp only [Option.some.injEq, Prod.mk.injEq] at h
          obtain ⟨rfl, rfl⟩ := h
          have h1 : toDat objs' ty v = some y := by rw [toDat_congr (fun id hid => hi id (by simp [hid]))]; exact hy
          have h2 := litElems_obj hz (fun id hid => hi id (by simp [hid]))
          simp only [h1, h2]
        · cases h
      · cases h
    · cases h

theorem lenEff_obj {v : AV} (hs : lenEff objs v = some e) (h : ∀ id, id ∈ e.rd ∨ id ∈ e.wr → look id objs' = look id objs) : lenEff objs' v = some e := by
  cases v <;> first | exact hs | skip
  · rename_i t x; cases t <;> exact hs
  · rename_i id
    have hid : look id objs' = look id objs := h id (by
      simp only [lenEff] at hs
      split at hs <;> first | (cases hs; done) | skip
      all_goals (simp only [Option.some.injEq] at hs; subst hs; simp))
    simpa only [lenEff, hid] using hs
  · rename_i id lo hi
    have hid : look id objs' = look id objs := h id (by
      simp only [lenEff] at hs
      split at hs <;> first | (cases hs; done) | skip
      all_goals (simp only [Option.some.injEq] at hs; subst hs; simp))
    simpa only [lenEff, hid] using hs
  · rename_i id
    have hid : look id objs' = look id objs := h id (by
      simp only [lenEff] at hs
      split at hs <;> first | (cases hs; done) | skip
      all_goals (simp only [Option.some.injEq] at hs; subst hs; simp))
    simpa only [lenEff, hid] using hs

theorem readA_congr {v : AV} (h : ∀ id ∈ slIds v, look id objs' = look id objs) : readA objs' v = readA objs v := by
  cases v <;> try (simp only [readA]; done)
  · rename_i t x; cases t <;> simp only [readA]
  · rename_i id; simp only [readA]; rw [h id (by simp [slIds])]
  · rename_i id lo hi; simp only [readA]; rw [h id (by simp [slIds])]
theorem appTyped_obj {fn d : Nat} {el : TypeId} {b : Nat} {t : Ty} {s : AV} {ys : List t.V} {rd : List Nat} (hs : appTyped fn d objs el b t s ys rd = some e) (h : ∀ id, id ∈ e.rd ∨ id ∈ e.wr → look id objs' = look id objs) : appTyped fn d objs' el b t s ys rd = some e ∧ ∀ id ∈ rd, id ∈ e.rd := by
  unfold appTyped at hs ⊢
  split at hs <;> try (cases hs; done)
  rename_i hk
  split at hs <;> try (cases hs; done)
  · split at hs
    · simp only [Option.some.injEq] at hs
      subst hs
      have h1 : fresh (newId fn d) objs' = fresh (newId fn d) objs := fresh_congr (h _ (by simp))
      rw [if_pos ⟨h1.trans hk.1, hk.2⟩]
      exact ⟨rfl, fun id hi => by simp [hi]⟩
    · simp only [Option.some.injEq] at hs
      subst hs
      have h1 : fresh (newId fn d) objs' = fresh (newId fn d) objs := fresh_congr (h _ (by simp))
      rw [if_pos ⟨h1.trans hk.1, hk.2⟩]
      exact ⟨rfl, fun id hi => hi⟩
  · rename_i id
    split at hs <;> try (cases hs; done)
    rename_i e' t' xs hl
    split at hs <;> try (cases hs; done)
    rename_i hh
    simp only [Option.some.injEq] at hs
    subst hs
    have h1 : fresh (newId fn d) objs' = fresh (newId fn d) objs := fresh_congr (h _ (by simp))
    have h3 : look id objs' = look id objs := h id (by simp)
    rw [if_pos ⟨h1.trans hk.1, hk.2⟩]
    simp only [h3, hl, dif_pos hh]
    exact ⟨trivial, fun id hi => hi⟩
  · rename_i id hi
    split at hs <;> try (cases hs; done)
    rename_i e' t' xs hl
    split at hs <;> try (cases hs; done)
    rename_i hh
    simp only [Option.some.injEq] at hs
    subst hs
    have h1 : fresh (newId fn d) objs' = fresh (newId fn d) objs := fresh_congr (h _ (by simp))
    have h3 : look id objs' = look id objs := h id (by simp)
    rw [if_pos ⟨h1.trans hk.1, hk.2⟩]
    simp only [h3, hl, dif_pos hh]
    exact ⟨trivial, fun id hi => hi⟩
theorem vappEff_obj {fn d : Nat} {el : TypeId} {ti : TI} {s x : AV} (hs : vappEff fn d objs el ti s x = some e) (h : ∀ id, id ∈ e.rd ∨ id ∈ e.wr → look id objs' = look id objs) : vappEff fn d objs' el ti s x = some e := by
  unfold vappEff at hs ⊢
  split at hs <;> try (cases hs; done)
  rename_i hk
  split at hs <;> try (cases hs; done)
  rename_i ys hys
  split at hs <;> try (cases hs; done)
  rename_i hall
  have fin : (∀ id ∈ slIds x, id ∈ e.rd) → (newId fn d ∈ e.rd ∨ newId fn d ∈ e.wr) → fresh (newId fn d) objs' = true ∧ readA objs' x = some ys := fun h1 h2 =>
    ⟨(fresh_congr (h _ h2)).trans hk.1, (readA_congr (fun id hi => h id (.inl (h1 id hi)))).trans hys⟩
  split at hs <;> try (cases hs; done)
  · split at hs
    · simp only [Option.some.injEq] at hs
      subst hs
      obtain ⟨h1, h2⟩ := fin (fun id hi => by simp [hi]) (by simp)
      rw [if_pos ⟨h1, hk.2⟩, h2]
      simp only [hall, if_true]
    · simp only [Option.some.injEq] at hs
      subst hs
      obtain ⟨h1, h2⟩ := fin (fun id hi => by simp [hi]) (by simp)
      rw [if_pos ⟨h1, hk.2⟩, h2]
      simp only [hall, if_true]
  · rename_i id
    split at hs <;> try (cases hs; done)
    rename_i e' sz xs hl
    split at hs <;> try (cases hs; done)
    rename_i hh
    simp only [Option.some.injEq] at hs
    subst hs
    obtain ⟨h1, h2⟩ := fin (fun id hi => by simp [hi]) (by simp)
    have h3 : look id objs' = look id objs := h id (by simp)
    rw [if_pos ⟨h1, hk.2⟩, h2]
    simp only [hall, if_true, h3, hl, hh, and_self]
  · rename_i id hi
    split at hs <;> try (cases hs; done)
    rename_i e' sz xs hl
    split at hs <;> try (cases hs; done)
    rename_i hh
    simp only [Option.some.injEq] at hs
    subst hs
    obtain ⟨h1, h2⟩ := fin (fun id hi => by simp [hi]) (by simp)
    have h3 : look id objs' = look id objs := h id (by simp)
    rw [if_pos ⟨h1, hk.2⟩, h2]
    simp only [hall, if_true, h3, hl, hh, and_self]
theorem appendEff_obj {fn d : Nat} {t : TypeId} {s x : AV} (hs : appendEff T fn d objs t s x = some e) (h : ∀ id, id ∈ e.rd ∨ id ∈ e.wr → look id objs' = look id objs) : appendEff T fn d objs' t s x = some e := by
  unfold appendEff at hs ⊢
  split at hs <;> try (cases hs; done)
  split at hs <;> try (cases hs; done)
  rename_i ti hte
  split at hs
  · rename_i ty hty
    split at hs <;> try (cases hs; done)
    rename_i ys hys
    obtain ⟨h1, h2⟩ := appTyped_obj hs h
    have h3 : readL objs' ty x = some ys := by rw [readL_congr (fun id hid => h id (.inl (h2 id hid)))]; exact hys
    simp only [h3]
    exact h1
  · try simp only [hte]
    exact vappEff_obj hs h
theorem appendEff2_obj {fn d : Nat} {t u : TypeId} {s x : AV} (hs : appendEff2 T fn d objs t u s x = some e) (h : ∀ id, id ∈ e.rd ∨ id ∈ e.wr → look id objs' = look id objs) : appendEff2 T fn d objs' t u s x = some e := by
  unfold appendEff2 at hs ⊢
  split at hs <;> try (cases hs; done)
  · split at hs <;> try (cases hs; done)
    rename_i hte
    split at hs <;> try (cases hs; done)
    rename_i hk
    try simp only [hte]
    rw [if_pos hk]
    exact (appTyped_obj hs h).1
  · split at hs <;> try (cases hs; done)
    rename_i hte
    split at hs <;> try (cases hs; done)
    rename_i hty
    split at hs <;> try (cases hs; done)
    rename_i hz
    split at hs <;> try (cases hs; done)
    rename_i hk
    simp only [Option.some.injEq] at hs
    subst hs
    have h1 : fresh (newId fn d) objs' = fresh (newId fn d) objs := fresh_congr (h _ (by simp))
    try simp only [hte, hz]
    rw [if_pos ⟨h1.trans hk.1, hk.2⟩]
theorem copyRow_obj {el : TypeId} {id lo hi : Nat} {s : AV} (hs : copyRow T objs el id lo hi s = some e) (h : ∀ id, id ∈ e.rd ∨ id ∈ e.wr → look id objs' = look id objs) : copyRow T objs' el id lo hi s = some e ∧ look id objs' = look id objs := by
  unfold copyRow at hs ⊢
  split at hs <;> try (cases hs; done)
  rename_i et ty xs hl
  split at hs <;> try (cases hs; done)
  rename_i te ys hte hy
  split at hs <;> try (cases hs; done)
  rename_i hk
  simp only [Option.some.injEq] at hs
  subst hs
  have h1 : look id objs' = look id objs := h id (by simp)
  have h3 : readL objs' ty s = some ys := by rw [readL_congr (fun j hj => h j (by simp [hj]))]; exact hy
  refine ⟨?_, h1⟩
  simp only [h1, hl, hte, h3]
  rw [if_pos hk]
theorem copyEff_obj {t : TypeId} {d s : AV} (hs : copyEff T objs t d s = some e) (h : ∀ id, id ∈ e.rd ∨ id ∈ e.wr → look id objs' = look id objs) : copyEff T objs' t d s = some e := by
  unfold copyEff at hs ⊢
  split at hs <;> try (cases hs; done)
  split at hs <;> try (cases hs; done)
  · split at hs <;> try (cases hs; done)
    rename_i hl
    obtain ⟨h1, h2⟩ := copyRow_obj hs h
    simp only [h2, hl]
    exact h1
  · exact (copyRow_obj hs h).1
theorem nilEff_obj {t : TypeId} {op : BinOp} {a b : AV} (hs : nilEff T objs t op a b = some e) (h : ∀ id, id ∈ e.rd ∨ id ∈ e.wr → look id objs' = look id objs) : nilEff T objs' t op a b = some e := by
  unfold nilEff at hs ⊢
  split at hs <;> try (cases hs; done)
  split at hs <;> try (cases hs; done)
  rename_i r rd hr
  have hrd : e.rd = rd := by
    split at hs <;> first | (cases hs; done) | (simp only [Option.some.injEq] at hs; subst hs; rfl)
  split at hr <;> try (cases hr; done)
  · simp only [Option.some.injEq, Prod.mk.injEq] at hr
    obtain ⟨rfl, rfl⟩ := hr
    exact hs
  · rename_i id
    have h1 : look id objs' = look id objs := h id (by
      left; rw [hrd]
      split at hr <;> first | (cases hr; done) | (simp only [Option.some.injEq, Prod.mk.injEq] at hr; rw [← hr.2]; simp))
    simp only [h1, hr]
    exact hs
  · rename_i id _ _
    have h1 : look id objs' = look id objs := h id (by
      left; rw [hrd]
      split at hr <;> first | (cases hr; done) | (simp only [Option.some.injEq, Prod.mk.injEq] at hr; rw [← hr.2]; simp))
    simp only [h1, hr]
    exact hs

theorem loadEff_obj {t : TypeId} {p : AV} (hs : loadEff T objs t p = some e) (h : ∀ id, id ∈ e.rd ∨ id ∈ e.wr → look id objs' = look id objs) : loadEff T objs' t p = some e := by
  cases p <;> first | exact hs | skip
  rename_i id i off q
  have hid : look id objs' = look id objs := h id (by
    simp only [loadEff] at hs
    repeat' (split at hs <;> try (cases hs; done))
    all_goals (simp only [Option.some.injEq] at hs; subst hs; simp))
  simpa only [loadEff, hid] using hs

theorem tset_congr {u : AV} (h : ∀ id ∈ slIds u, look id objs' = look id objs) : ∀ {t : Ty} {p : List Nat} {x : t.V}, tset objs' t p u x = tset objs t p u x := by
  intro t
  have nilc : ∀ {t : Ty} {x : t.V}, tset objs' t [] u x = tset objs t [] u x := by
    intro t x
    have : toDat objs' t u = toDat objs t u := toDat_congr h
    cases t <;> exact this
  induction t with
  | pair a b iha ihb =>
    intro p x
    cases p with
    | nil => exact nilc
    | cons n p =>
      cases n with
      | zero => simp only [tset, iha]
      | succ n => simp only [tset, ihb]
  | _ =>
    intro p x
    cases p with
    | nil => exact nilc
    | cons n p => cases n <;> rfl

theorem storeEff_obj {t : TypeId} {u p : AV} (hs : storeEff T objs t u p = some e) (h : ∀ id, id ∈ e.rd ∨ id ∈ e.wr → look id objs' = look id objs) : storeEff T objs' t u p = some e := by
  cases p <;> first | exact hs | skip
  rename_i id i off q
  simp only [storeEff] at hs ⊢
  split at hs <;> try (cases hs; done)
  rename_i ti hti
  cases hl : look id objs with
  | none => rw [hl] at hs; cases hs
  | some ob =>
    rw [hl] at hs
    cases ob with
    | box bv =>
      simp only at hs
      split at hs <;> try (cases hs; done)
      rename_i v' o' h1 h2
      split at hs <;> try (cases hs; done)
      rename_i hk
      simp only [Option.some.injEq] at hs
      subst hs
      have hid : look id objs' = some (.box bv) := (h id (by simp)).trans hl
      simp only [hid, h1, h2, hk, and_self, if_true]
    | row el r xs =>
      simp only at hs
      split at hs <;> try (cases hs; done)
      rename_i y o' h1 h2
      split at hs <;> try (cases hs; done)
      rename_i hk
      simp only [Option.some.injEq] at hs
      subst hs
      have hid : look id objs' = some (.row el r xs) := (h id (by simp)).trans hl
      have hsl : ∀ j ∈ slIds u, look j objs' = look j objs := fun j hj => h j (by simp [hj])
      simp only [hid, tset_congr hsl, h1, h2, freeze_congr hsl]
      rw [if_pos hk]
    | vrow el sz xs =>
      simp only at hs
      split at hs <;> try (cases hs; done)
      rename_i v' o' h1 h2
      split at hs <;> try (cases hs; done)
      rename_i hk
      simp only [Option.some.injEq] at hs
      subst hs
      have hid : look id objs' = some (.vrow el sz xs) := (h id (by simp)).trans hl
      simp only [hid, h1, h2, hk, and_self, if_true]
    | _ => cases hs

theorem mapEff_obj {t : TypeId} {m k x : Operand} (hs : mapEff T fr objs t m k x = some e) (h : ∀ id, id ∈ e.rd ∨ id ∈ e.wr → look id objs' = look id objs) : mapEff T fr objs' t m k x = some e := by
  unfold mapEff at hs ⊢
  split at hs <;> try (cases hs; done)
  split at hs <;> try (cases hs; done)
  rename_i id hid
  split at hs <;> try (cases hs; done)
  · rename_i kt vt mm hl
    split at hs <;> try (cases hs; done)
    rename_i kv xv hkv hxv
    split at hs <;> try (cases hs; done)
    rename_i kd xd hkd hxd
    split at hs <;> try (cases hs; done)
    rename_i hck
    simp only [Option.some.injEq] at hs
    subst hs
    have h1 : look id objs' = some (.map kt vt mm) := (h id (by simp)).trans hl
    have h2 : toDat objs' kt kv = some kd := by rw [toDat_congr (fun j hj => h j (by simp [hj]))]; exact hkd
    have h3 : toDat objs' vt xv = some xd := by rw [toDat_congr (fun j hj => h j (by simp [hj]))]; exact hxd
    have h4 : freeze objs' (slIds xv) = freeze objs (slIds xv) := freeze_congr (fun j hj => h j (by simp [hj]))
    simp only [h1, h2, h3, h4, hck, if_true]
  · rename_i kt mm hl
    split at hs <;> try (cases hs; done)
    rename_i kv xv hkv hxv
    split at hs <;> try (cases hs; done)
    rename_i kd hkd
    split at hs <;> try (cases hs; done)
    rename_i hck
    simp only [Option.some.injEq] at hs
    subst hs
    have h1 : look id objs' = some (.vmap kt mm) := (h id (by simp)).trans hl
    have h2 : toDat objs' kt kv = some kd := by rw [toDat_congr (fun j hj => h j (by simp [hj]))]; exact hkd
    simp only [h1, h2, hck, and_self, if_true]

theorem sliceDat_obj {ty : Ty} {v : AV} {lo hi : Option Operand} (hs : sliceDat T fr objs ty v lo hi = some e) (h : ∀ id, id ∈ e.rd ∨ id ∈ e.wr → look id objs' = look id objs) : sliceDat T fr objs' ty v lo hi = some e := by
  unfold sliceDat at hs ⊢
  split at hs <;> try (cases hs; done)
  rename_i xs hxs
  split at hs <;> try (cases hs; done)
  rename_i l hh h1 h2
  simp only [Option.some.injEq] at hs
  subst hs
  have h3 : readL objs' ty v = some xs := by rw [readL_congr (fun j hj => h j (by simp [hj]))]; exact hxs
  have h4 : freeze objs' (slIds v) = freeze objs (slIds v) := freeze_congr (fun j hj => h j (by simp [hj]))
  simp only [h3, h1, h2, h4]
theorem sliceEff_obj {t : TypeId} {x : Operand} {lo hi : Option Operand} (hs : sliceEff T fr objs t x lo hi = some e) (h : ∀ id, id ∈ e.rd ∨ id ∈ e.wr → look id objs' = look id objs) : sliceEff T fr objs' t x lo hi = some e := by
  unfold sliceEff at hs ⊢
  split at hs <;> try (cases hs; done)
  · exact hs
  · split at hs <;> try (cases hs; done)
    rename_i te v hte hv
    split at hs <;> try (cases hs; done)
    rename_i ty hty
    split at hs
    · rename_i id lo0 hi0
      split at hs <;> try (cases hs; done)
      all_goals
        rename_i hl
        split at hs <;> try (cases hs; done)
        rename_i hsz
        split at hs <;> try (cases hs; done)
        rename_i h1 h2
        simp only [Option.some.injEq] at hs
        subst hs
        have h3 := (h id (by simp)).trans hl
        simp only [h3, hsz, if_true]
    · exact hs
    · rename_i id
      split at hs <;> try (cases hs; done)
      case h_3 =>
        rename_i hl
        have h5 := sliceDat_obj hs h
        have h3 : look id objs' = look id objs := h id (by
          unfold sliceDat at hs
          split at hs <;> try (cases hs; done)
          split at hs <;> try (cases hs; done)
          simp only [Option.some.injEq] at hs
          subst hs
          simp [slIds])
        simp only [h3, hl]
        exact h5
      all_goals
        rename_i hl
        split at hs <;> try (cases hs; done)
        rename_i hsz
        split at hs <;> try (cases hs; done)
        rename_i h1 h2
        simp only [Option.some.injEq] at hs
        subst hs
        have h3 := (h id (by simp)).trans hl
        simp only [h3, hsz, if_true, h1, h2]
    · exact sliceDat_obj hs h

theorem step_obj {fn : Nat} {o : Oper} (hs : step T fn o fr objs = some e) (h : ∀ id, id ∈ e.rd ∨ id ∈ e.wr → look id objs' = look id objs) : step T fn o fr objs' = some e := by
  cases hop : o.op <;> simp only [step, hop] at hs ⊢ <;> try (first | exact hs | (cases hs; done))
  case alloc t =>
    split at hs <;> try (cases hs; done)
    rename_i ti d hti hd
    split at hs <;> try (cases hs; done)
    rename_i hk
    simp only [Option.some.injEq] at hs
    subst hs
    have h1 : fresh (newId fn d) objs' = fresh (newId fn d) objs := fresh_congr (h _ (by simp))
    simp only [h1, hk, and_self, if_true]
  case box t x =>
    split at hs <;> try (cases hs; done)
    rename_i d v hd hv
    split at hs <;> try (cases hs; done)
    rename_i hk
    simp only [Option.some.injEq] at hs
    subst hs
    have h1 : fresh (newId fn d) objs' = fresh (newId fn d) objs := fresh_congr (h _ (by simp))
    simp only [h1, hk, and_self, if_true]
  case buildSlice t n ps =>
    split at hs <;> try (cases hs; done)
    rename_i d hti hd
    split at hs <;> try (cases hs; done)
    rename_i te hte
    split at hs
    · rename_i ty hty
      split at hs <;> try (cases hs; done)
      rename_i xs ids hl
      split at hs <;> try (cases hs; done)
      rename_i hk
      simp only [Option.some.injEq] at hs
      subst hs
      have h1 : fresh (newId fn d) objs' = fresh (newId fn d) objs := fresh_congr (h _ (by simp))
      have h2 := litElems_obj (objs' := objs') hl (fun j hj => h j (by simp [hj]))
      have h3 : freeze objs' ids = freeze objs ids := freeze_congr (fun j hj => h j (by simp [hj]))
      simp only [h2, h1, h3]
      rw [if_pos hk]
    · split at hs <;> try (cases hs; done)
      rename_i xs hl
      split at hs <;> try (cases hs; done)
      rename_i hk
      simp only [Option.some.injEq] at hs
      subst hs
      have h1 : fresh (newId fn d) objs' = fresh (newId fn d) objs := fresh_congr (h _ (by simp))
      simp only [h1]
      rw [if_pos hk]
  case load t x =>
    split at hs <;> try (cases hs; done)
    exact loadEff_obj hs h
  case store t x y =>
    split at hs <;> try (cases hs; done)
    exact storeEff_obj hs h
  case binOp op t x y t' =>
    split at hs <;> try (cases hs; done)
    rename_i u v hu hv
    try simp only
    cases u <;> first | exact nilEff_obj hs h | exact hs
  case convert s d x =>
    split at hs <;> try (cases hs; done)
    · exact hs
    · split at hs <;> try (cases hs; done)
      rename_i v he hx
      split at hs <;> try (cases hs; done)
      rename_i xs hxs
      simp only [Option.some.injEq] at hs
      subst hs
      have h3 : readL objs' (.int .u8) v = some xs := by rw [readL_congr (fun j hj => h j (by simp [hj]))]; exact hxs
      simp only [h3]
  case makeMap t r =>
    split at hs <;> try (cases hs; done)
    split at hs <;> try (cases hs; done)
    rename_i d hti hd
    split at hs <;> try (cases hs; done)
    rename_i tk te htk hte
    split at hs <;> try (cases hs; done)
    all_goals
      split at hs <;> try (cases hs; done)
      rename_i hk
      simp only [Option.some.injEq] at hs
      subst hs
      have h3 : fresh (newId fn d) objs' = fresh (newId fn d) objs := fresh_congr (h _ (by simp))
      simp only [and_self, if_true, *]
  case makeSlice t l c =>
    split at hs <;> try (cases hs; done)
    rename_i d hti hd
    split at hs <;> try (cases hs; done)
    rename_i te hte
    split at hs
    · rename_i ty hty
      split at hs <;> try (cases hs; done)
      rename_i n m z hl hcc hz
      split at hs <;> try (cases hs; done)
      rename_i hk
      simp only [Option.some.injEq] at hs
      subst hs
      have h3 : fresh (newId fn d) objs' = fresh (newId fn d) objs := fresh_congr (h _ (by simp))
      simp only [h3]
      rw [if_pos hk]
    · split at hs <;> try (cases hs; done)
      rename_i n m hl hcc
      split at hs <;> try (cases hs; done)
      rename_i hk
      simp only [Option.some.injEq] at hs
      subst hs
      have h3 : fresh (newId fn d) objs' = fresh (newId fn d) objs := fresh_congr (h _ (by simp))
      simp only [h3]
      rw [if_pos hk]
  case slice t x lo hi mx =>
    split at hs
    · exact sliceEff_obj hs h
    · exact hs
  case indexAddr t x ix =>
    split at hs <;> try (cases hs; done)
    · exact hs
    · rename_i id k i hx hix
      split at hs <;> try (cases hs; done)
      rename_i hti
      split at hs <;> try (cases hs; done)
      all_goals
        rename_i hte hl
        split at hs <;> try (cases hs; done)
        rename_i hz
        simp only [Option.some.injEq] at hs
        subst hs
        have h1 := (h id (by simp)).trans hl
        simp only [hte, h1, hz, if_true]
    · rename_i id lo hi k i hx hix
      split at hs <;> try (cases hs; done)
      rename_i hti
      split at hs <;> try (cases hs; done)
      all_goals
        rename_i hte hl
        split at hs <;> try (cases hs; done)
        rename_i hz
        simp only [Option.some.injEq] at hs
        subst hs
        have h1 := (h id (by simp)).trans hl
        simp only [hte, h1, hz, if_true]
    · exact hs
    · exact hs
  case lookup t x ix ok =>
    split at hs <;> try (cases hs; done)
    split at hs <;> try (cases hs; done)
    rename_i te id hte hx
    split at hs <;> try (cases hs; done)
    case h_2 =>
      rename_i kt m hl
      split at hs <;> try (cases hs; done)
      rename_i kv hkv
      split at hs <;> try (cases hs; done)
      rename_i k hk
      split at hs <;> try (cases hs; done)
      rename_i hq
      cases ok with
      | true =>
        simp only [if_true, Option.some.injEq] at hs
        subst hs
        have h1 := (h id (by simp)).trans hl
        have h2 : toDat objs' kt kv = some k := by rw [toDat_congr (fun j hj => h j (by simp [hj]))]; exact hk
        simp only [h1, h2, hq, and_self, if_true]
      | false =>
        simp only [Bool.false_eq_true, if_false, Option.some.injEq] at hs
        subst hs
        have h1 := (h id (by simp)).trans hl
        have h2 : toDat objs' kt kv = some k := by rw [toDat_congr (fun j hj => h j (by simp [hj]))]; exact hk
        simp only [h1, h2, hq, and_self, if_true, Bool.false_eq_true, if_false]
    rename_i kt vt m hl
    split at hs <;> try (cases hs; done)
    rename_i kv z hkv hz
    split at hs <;> try (cases hs; done)
    rename_i k hk
    split at hs <;> try (cases hs; done)
    rename_i hq
    cases ok with
    | true =>
      simp only [if_true, Option.some.injEq] at hs
      subst hs
      have h1 := (h id (by simp)).trans hl
      have h2 : toDat objs' kt kv = some k := by rw [toDat_congr (fun j hj => h j (by simp [hj]))]; exact hk
      simp only [h1, hkv, hz, h2, hq, and_self, if_true]
    | false =>
      simp only [Bool.false_eq_true, if_false, Option.some.injEq] at hs
      subst hs
      have h1 := (h id (by simp)).trans hl
      have h2 : toDat objs' kt kv = some k := by rw [toDat_congr (fun j hj => h j (by simp [hj]))]; exact hk
      simp only [h1, hkv, hz, h2, hq, and_self, if_true, Bool.false_eq_true, if_false]
  case mapUpdate t m k x => exact mapEff_obj hs h
  case insert t m k x => exact mapEff_obj hs h
  case call c =>
    obtain ⟨callee, args, argTypes⟩ := c
    cases callee with
    | builtin b =>
      cases b with
      | len =>
        simp only at hs ⊢
        split at hs <;> try (cases hs; done)
        split at hs <;> try (cases hs; done)
        rename_i t x _ _ _ _ ti v hti hv
        split at hs <;> try (cases hs; done)
        rename_i hk
        simp only [hk, if_true]
        exact lenEff_obj hs h
      | append =>
        cases hd : o.dst with
        | none => simp [hd] at hs
        | some d =>
          simp only [hd] at hs ⊢
          split at hs <;> try (cases hs; done)
          rename_i t t' s x ht hx
          split at hs
          · rename_i htt
            split at hs <;> try (cases hs; done)
            rename_i sv xv hsv hxv
            subst htt
            simp only [if_true, hsv, hxv]
            exact appendEff_obj hs h
          · rename_i htt
            split at hs <;> try (cases hs; done)
            rename_i sv xv hsv hxv
            simp only [if_neg htt, hsv]
            exact appendEff2_obj hs h
      | cap => exact hs
      | copy =>
        simp only at hs ⊢
        split at hs <;> try (cases hs; done)
        split at hs <;> try (cases hs; done)
        rename_i hdv hsv
        try simp only [hdv, hsv]
        exact copyEff_obj hs h
      | _ => cases hs
    | _ => cases hs
end
end
end Go.Ab

namespace Go.Ab
noncomputable section
open Go Go.RowKit

/-! ### States that look alike -/
def Like (σ τ : St) : Prop := (∀ s, look s τ.fr = look s σ.fr) ∧ (∀ id, look id τ.objs = look id σ.objs) ∧ τ.hid = σ.hid ∧ τ.mks = σ.mks

theorem Like.refl (σ : St) : Like σ σ := ⟨fun _ => rfl, fun _ => rfl, rfl, rfl⟩
theorem imm_like {w0 : Base} {w : World} {φ : Nat → Value} {objs objs' : Objs} (h : ∀ id, look id objs' = look id objs) : imm w0 w φ objs' = imm w0 w φ objs := by
  funext b
  simp only [imm, h]
theorem envLe_like {w0 : Base} {w : World} {φ : Nat → Value} {objs objs' : Objs} (h : ∀ id, look id objs' = look id objs) :
    EnvLe ⟨w, imm w0 w φ objs, φ, objs⟩ ⟨w, imm w0 w φ objs', φ, objs'⟩ := by
  refine ⟨fun b hb => by rw [imm_like h]; exact hb, fun _ _ => rfl, fun id o ho => ⟨rfl, o, (h id).trans ho, by cases o <;> simp [Evo]⟩⟩
theorem Good.like {w0 : Base} {w : World} {φ : Nat → Value} {objs objs' : Objs} (hg : Good w0 ⟨w, imm w0 w φ objs, φ, objs⟩) (h : ∀ id, look id objs' = look id objs) :
    Good w0 ⟨w, imm w0 w φ objs', φ, objs'⟩ := by
  refine Good.next hg (envLe_like h) rfl hg.below (fun id o ho => .inl ⟨(h id).symm.trans ho, rfl, fun _ _ _ => rfl⟩) (fun i j o o' hi hj => ?_)
  exact hg.dis i j o o' ((h i).symm.trans hi) ((h j).symm.trans hj)
theorem Rel.like {w0 : Base} {N : Nat} {as : List Act} {σ τ : St} {a : Act} {w : World} (hR : Rel w0 N as σ a w) (h : Like σ τ) : Rel w0 N as τ a w := by
  obtain ⟨⟨φ, hg, hf, hh⟩, hN, hD⟩ := hR
  obtain ⟨h1, h2, h3, h4⟩ := h
  refine ⟨⟨φ, hg.like h2, fun s av hs => ?_, ?_⟩, hN, trivial⟩
  · rw [h1] at hs
    exact (hf.mono hg.shaped (envLe_like h2)) s av hs
  · rw [h3, h4]
    exact hh.mono hg.shaped (envLe_like h2)
/-- The number of draws says nothing. -/
theorem Good.drew {w0 : Base} {w : World} {φ : Nat → Value} {objs : Objs} (hg : Good w0 ⟨w, imm w0 w φ objs, φ, objs⟩) : Good w0 ⟨w.drew, imm w0 w.drew φ objs, φ, objs⟩ := by
  refine Good.next hg ⟨fun b hb => hb, fun _ _ => rfl, fun id o ho => ⟨rfl, o, ho, by cases o <;> simp [Evo]⟩⟩ rfl (hg.below.next rfl rfl rfl (Nat.le_refl _) (fun _ _ _ => rfl)) (fun id o ho => .inl ⟨ho, rfl, fun _ _ _ => rfl⟩) hg.dis
theorem Rel.drew {w0 : Base} {N : Nat} {as : List Act} {σ : St} {a : Act} {w : World} (hR : Rel w0 N as σ a w) : Rel w0 N as σ a w.drew := by
  obtain ⟨⟨φ, hg, hf, hh⟩, hN⟩ := hR
  have hle : EnvLe ⟨w, imm w0 w φ σ.objs, φ, σ.objs⟩ ⟨w.drew, imm w0 w.drew φ σ.objs, φ, σ.objs⟩ := ⟨fun b hb => hb, fun _ _ => rfl, fun id o ho => ⟨rfl, o, ho, by cases o <;> simp [Evo]⟩⟩
  exact ⟨⟨φ, hg.drew, hf.mono hg.shaped hle, hh.mono hg.shaped hle⟩, hN⟩

/-! ### Operations as actions on abstract states -/
/-- What an operation comes to: the value, what is new of the objects, what it looks at, what it turns. -/
structure Ev where
  v : AV
  upd : Objs := []
  rd : Nat → Bool := fun _ => false
  wr : Nat → Bool := fun _ => false
def Ev.app (d : Option Tmp) (e : Ev) (σ : St) : St := { σ with fr := putFr d e.v σ.fr, objs := e.upd ++ σ.objs }

structure WF (F : Fence) : Prop where
  fn : ∀ f, F.fn f
  depth : F.depth = none

section
variable (C : Cx) (F : Fence) (n : Nat) (ops : Array Oper)

/-- From this state the operation goes through, and comes to e. -/
def Fires (i : Nat) (e : Ev) (σ : St) : Prop :=
  ∀ (a : Act) (w : World) (Q : Exit → Act → World → Prop) (K : Act → World → Prop), Rel C.w0 C.N C.as σ a w →
    (∀ a' w', Rel C.w0 C.N C.as (e.app ((ops[i]?).bind (·.dst)) σ) a' w' → K a' w') → wpOpIn F n C.P ops Q i K a w
/-- The slots that an operation looks at. -/
def slotsOf (i : Nat) : List Nat := match ops[i]? with | some o => o.looksAt ops | none => []
/-- The same from every state that agrees with this one where the operation looks. -/
def FiresF (i : Nat) (e : Ev) (σ : St) : Prop :=
  (∀ id o, (id, o) ∈ e.upd → e.wr id = true) ∧
  ∀ τ : St, (∀ s ∈ slotsOf ops i, look s τ.fr = look s σ.fr) → (∀ id, e.rd id = true ∨ e.wr id = true → look id τ.objs = look id σ.objs) → τ.hid = σ.hid → Fires C F n ops i e τ
end

section
variable {C : Cx} {F : Fence} {n : Nat} {ops : Array Oper}
theorem FiresF.fires {i : Nat} {e : Ev} {σ : St} (h : FiresF C F n ops i e σ) : Fires C F n ops i e σ := h.2 σ (fun _ _ => rfl) (fun _ _ => rfl) rfl

/-- One behind the other. -/
def runEvs (ops : Array Oper) : List (Nat × Ev) → St → St
  | [], σ => σ
  | (i, e) :: r, σ => runEvs ops r (e.app ((ops[i]?).bind (·.dst)) σ)
def AllFire (C : Cx) (F : Fence) (n : Nat) (ops : Array Oper) : List (Nat × Ev) → St → Prop
  | [], _ => True
  | (i, e) :: r, σ => Fires C F n ops i e σ ∧ AllFire C F n ops r (e.app ((ops[i]?).bind (·.dst)) σ)
theorem seq_run {Q : Exit → Act → World → Prop} : ∀ (l : List (Nat × Ev)) (σ : St) (a : Act) (w : World), AllFire C F n ops l σ → Rel C.w0 C.N C.as σ a w →
    (∀ a' w', Rel C.w0 C.N C.as (runEvs ops l σ) a' w' → Q .normal a' w') → wpOpsIn F n C.P ops Q (l.map (·.1)) a w
  | [], σ, a, w, _, hR, hQ => hQ a w hR
  | (i, e) :: r, σ, a, w, h, hR, hQ => by
    rw [List.map_cons, wpOpsIn_cons]
    exact h.1 a w Q _ hR (fun a' w' hR' => seq_run r _ a' w' h.2 hR' hQ)

/-! #### any order -/
/-- The state behind the operations of a set, in the order of the text. -/
def stOf (ops : Array Oper) (evs : Nat → Ev) (σ : St) (D : Nat → Bool) : Nat → St
  | 0 => σ
  | k + 1 => if D k then (evs k).app ((ops[k]?).bind (·.dst)) (stOf ops evs σ D k) else stOf ops evs σ D k

/-- An operation turns a slot. -/
abbrev wrS (ops : Array Oper) (k s : Nat) : Prop := (ops[k]?).bind (·.dst) = some s

variable {evs : Nat → Ev} {σ : St}
theorem look_putFr {d : Option Tmp} {v : AV} {fr : Fr} {s : Nat} : look s (putFr d v fr) = if d = some s then some v else look s fr := by
  cases d with
  | none => simp [putFr]
  | some t =>
    simp only [putFr, look_cons, Option.some.injEq]
    by_cases h : s = t
    · subst h; simp
    · rw [if_neg h, if_neg (fun e => h e.symm)]
theorem st_fr {D D' : Nat → Bool} {s : Nat} : ∀ m : Nat, (∀ k, k < m → wrS ops k s → D k = D' k) → look s (stOf ops evs σ D m).fr = look s (stOf ops evs σ D' m).fr
  | 0, _ => rfl
  | m + 1, h => by
    have ih := st_fr m (fun k hk => h k (by omega))
    by_cases hw : wrS ops m s
    · have := h m (by omega) hw
      simp only [stOf, this]
      cases D' m with
      | false => simpa using ih
      | true => simp only [if_true, Ev.app, look_putFr]; rw [if_pos hw, if_pos hw]
    · have key : ∀ D : Nat → Bool, look s (stOf ops evs σ D (m + 1)).fr = look s (stOf ops evs σ D m).fr := by
        intro D
        simp only [stOf]
        cases D m with
        | false => rfl
        | true => simp only [if_true, Ev.app, look_putFr]; rw [if_neg hw]
      rw [key, key]; exact ih
theorem look_upd {upd objs : Objs} {id : Nat} : look id (upd ++ objs) = match look id upd with | some o => some o | none => look id objs := by rw [look_append]; cases look id upd <;> rfl
theorem look_none {upd : Objs} {id : Nat} (h : ∀ o, (id, o) ∉ upd) : look id upd = none := by
  induction upd with
  | nil => rfl
  | cons p r ih =>
    obtain ⟨k, o⟩ := p
    have h1 : id ≠ k := by rintro rfl; exact h o (by simp)
    simp only [look_cons, if_neg h1]
    exact ih (fun o ho => h o (by simp [ho]))
theorem st_obj (hup : ∀ k id o, (id, o) ∈ (evs k).upd → (evs k).wr id = true) {D D' : Nat → Bool} {id : Nat} : ∀ m : Nat, (∀ k, k < m → (evs k).wr id = true → D k = D' k) → look id (stOf ops evs σ D m).objs = look id (stOf ops evs σ D' m).objs
  | 0, _ => rfl
  | m + 1, h => by
    have ih := st_obj hup m (fun k hk => h k (by omega))
    by_cases hw : (evs m).wr id = true
    · have := h m (by omega) hw
      simp only [stOf, this]
      cases D' m with
      | false => simpa using ih
      | true => simp only [if_true, Ev.app, look_upd, ih]
    · have key : ∀ D : Nat → Bool, look id (stOf ops evs σ D (m + 1)).objs = look id (stOf ops evs σ D m).objs := by
        intro D
        simp only [stOf]
        cases D m with
        | false => rfl
        | true =>
          simp only [if_true, Ev.app, look_upd]
          rw [look_none (fun o ho => hw (hup m id o ho))]
      rw [key, key]; exact ih
theorem st_hid {D : Nat → Bool} : ∀ m : Nat, (stOf ops evs σ D m).hid = σ.hid ∧ (stOf ops evs σ D m).mks = σ.mks
  | 0 => ⟨rfl, rfl⟩
  | m + 1 => by
    simp only [stOf]
    cases D m with
    | false => exact st_hid m
    | true => exact st_hid m
/-- From m on nobody turns it. -/
theorem st_fr_end {D : Nat → Bool} {s m : Nat} : ∀ d : Nat, (∀ k, m ≤ k → k < m + d → D k = true → ¬ wrS ops k s) → look s (stOf ops evs σ D (m + d)).fr = look s (stOf ops evs σ D m).fr
  | 0, _ => rfl
  | d + 1, h => by
    have ih := st_fr_end d (fun k h1 h2 => h k h1 (by omega))
    rw [← Nat.add_assoc]
    simp only [stOf]
    cases hD : D (m + d) with
    | false => simpa using ih
    | true => simp only [if_true, Ev.app, look_putFr]; rw [if_neg (h (m + d) (by omega) (by omega) hD)]; exact ih
theorem st_obj_end (hup : ∀ k id o, (id, o) ∈ (evs k).upd → (evs k).wr id = true) {D : Nat → Bool} {id m : Nat} : ∀ d : Nat, (∀ k, m ≤ k → k < m + d → D k = true → ¬ (evs k).wr id = true) → look id (stOf ops evs σ D (m + d)).objs = look id (stOf ops evs σ D m).objs
  | 0, _ => rfl
  | d + 1, h => by
    have ih := st_obj_end hup d (fun k h1 h2 => h k h1 (by omega))
    rw [← Nat.add_assoc]
    simp only [stOf]
    cases hD : D (m + d) with
    | false => simpa using ih
    | true =>
      simp only [if_true, Ev.app, look_upd]
      rw [look_none (fun o ho => h (m + d) (by omega) (by omega) hD (hup _ id o ho))]
      exact ih

/-- Two operations have something to do with each other. -/
def Touch (ops : Array Oper) (evs : Nat → Ev) (i j : Nat) : Prop :=
  (∃ s, wrS ops i s ∧ (s ∈ slotsOf ops j ∨ wrS ops j s)) ∨ (∃ id, (evs i).wr id = true ∧ ((evs j).rd id = true ∨ (evs j).wr id = true))

structure Ordered (ops : Array Oper) (evs : Nat → Ev) (bef : Nat → Nat → Prop) : Prop where
  /-- 'bef' holds only between operations that the text's edges order -/
  closed : ∀ D : Nat → Bool, (∀ (i : Nat) (o : Oper), ops[i]? = some o → D i = true → ∀ e ∈ o.after, Region.binds .any e = true → D e.on = true) → ∀ j i, bef j i → D i = true → D j = true
  ready : ∀ (D : Nat → Bool) (i : Nat) (o : Oper), ops[i]? = some o → (∀ (i : Nat) (o : Oper), ops[i]? = some o → D i = true → ∀ e ∈ o.after, Region.binds .any e = true → D e.on = true) →
    (∀ e ∈ o.after, Region.binds .any e = true → D e.on = true) → ∀ j, bef j i → D j = true
  less : ∀ j i, bef j i → j < i
  all : ∀ i j, i < ops.size → j < ops.size → i ≠ j → Touch ops evs i j → bef i j ∨ bef j i
  text : ∀ (i : Nat) (o : Oper), ops[i]? = some o → ∀ e ∈ o.after, Region.binds .any e = true → e.on < i

theorem any_run {bef : Nat → Nat → Prop} (hord : Ordered ops evs bef) (hfire : ∀ i, i < ops.size → FiresF C F n ops i (evs i) (stOf ops evs σ (fun k => decide (k < i)) ops.size))
    (hup : ∀ k id o, (id, o) ∈ (evs k).upd → (evs k).wr id = true) {Q : Exit → Act → World → Prop}
    (hQ : ∀ a' w', Rel C.w0 C.N C.as (stOf ops evs σ (fun _ => true) ops.size) a' w' → Q .normal a' w') :
    ∀ (fuel : Nat) (listed : Array Bool) (a : Act) (w : World), listed.size = ops.size →
      (∀ (i : Nat) (o : Oper), ops[i]? = some o → listed.getD i false = true → ∀ e ∈ o.after, Region.binds .any e = true → listed.getD e.on false = true) →
      ((List.range ops.size).filter (fun k => !listed.getD k false)).length = fuel →
      Rel C.w0 C.N C.as (stOf ops evs σ (fun k => listed.getD k false) ops.size) a w → wpAnyIn F n C.P .any ops Q fuel listed a w := by
  intro fuel
  -- nothing is ready: all has been done
  have done : ∀ (listed : Array Bool) (a : Act) (w : World), listed.size = ops.size → Region.ready .any ops listed = [] →
      Rel C.w0 C.N C.as (stOf ops evs σ (fun k => listed.getD k false) ops.size) a w → Q .normal a w := by
    intro listed a w hsz hr hR
    have hall : ∀ i, i < ops.size → listed.getD i false = true := by
      intro i
      induction i using Nat.strongRecOn with
      | _ i ih =>
        intro hi
        cases hl : listed.getD i false with
        | true => rfl
        | false =>
          exfalso
          have : i ∈ Region.ready .any ops listed := by
            rw [mem_ready]
            refine ⟨?_, ops[i], by simp [hi], fun e he hb => ?_⟩
            · have h1 : i < listed.size := by omega
              simp [h1] at hl ⊢
              exact hl
            · have := hord.text i ops[i] (by simp [hi]) e he hb
              exact ih e.on this (by omega)
          rw [hr] at this
          cases this
    refine hQ a w (hR.like ⟨fun s => ?_, fun id => ?_, ?_, ?_⟩)
    · exact st_fr _ (fun k hk _ => (hall k hk).symm)
    · exact st_obj hup _ (fun k hk _ => (hall k hk).symm)
    · rw [(st_hid _).1, (st_hid _).1]
    · rw [(st_hid _).2, (st_hid _).2]
  induction fuel with
  | zero =>
    intro listed a w hsz hdown hf hR
    have hr : Region.ready .any ops listed = [] := by
      apply List.eq_nil_iff_forall_not_mem.2
      intro i hi
      obtain ⟨h0, o, ho, _⟩ := mem_ready.1 hi
      have hlt : i < ops.size := (Array.getElem?_eq_some_iff.1 ho).1
      have hn := List.eq_nil_of_length_eq_zero hf
      have : i ∈ (List.range ops.size).filter (fun k => !listed.getD k false) := by
        rw [List.mem_filter, List.mem_range]
        refine ⟨hlt, ?_⟩
        have h1 : i < listed.size := by omega
        simp [h1] at h0 ⊢
        exact h0
      rw [hn] at this
      cases this
    exact ⟨hr, done listed a w hsz hr hR⟩
  | succ fuel ih =>
    intro listed a w hsz hdown hf hR
    refine ⟨fun hr => done listed a w hsz hr hR, fun i hi => ?_⟩
    obtain ⟨h0, o, ho, hedge⟩ := mem_ready.1 hi
    have hlt : i < ops.size := (Array.getElem?_eq_some_iff.1 ho).1
    have hls : i < listed.size := by omega
    have hDi : listed.getD i false = false := by
      simp [hls] at h0 ⊢; exact h0
    have hset : ∀ k, (listed.setIfInBounds i true).getD k false = if k = i then true else listed.getD k false := by
      intro k
      by_cases hk : k = i
      · subst hk; simp [hls]
      · rw [if_neg hk, getD_set_ne false (Ne.symm hk)]
    -- who is before whom
    have hbef : ∀ j, bef j i → listed.getD j false = true := hord.ready (fun k => listed.getD k false) i o ho hdown hedge
    have hnot : ∀ j, bef i j → listed.getD j false = false := by
      intro j hj
      cases hl : listed.getD j false with
      | false => rfl
      | true =>
        have := hord.closed (fun k => listed.getD k false) hdown i j hj hl
        simp only [hDi] at this
        cases this
    have same : ∀ k, k < ops.size → (Touch ops evs k i ∨ Touch ops evs i k ∨ k = i) → listed.getD k false = decide (k < i) := by
      intro k hk ht
      by_cases hki : k = i
      · subst hki; rw [hDi]; simp
      · have : bef k i ∨ bef i k := by
          rcases ht with ht | ht | ht
          · exact hord.all k i hk hlt hki ht
          · exact (hord.all i k hlt hk (Ne.symm hki) ht).symm
          · exact absurd ht hki
        rcases this with h | h
        · rw [hbef k h]; have := hord.less k i h; simp [this]
        · rw [hnot k h]; have := hord.less i k h; simp; omega
    have hF := (hfire i hlt).2 (stOf ops evs σ (fun k => listed.getD k false) ops.size) (fun s hs => ?_) (fun id hid => ?_) (by rw [(st_hid _).1, (st_hid _).1])
    · refine hF a w Q _ hR (fun a' w' hR' => ?_)
      refine ih (listed.setIfInBounds i true) a' w' (by simpa using hsz) ?_ ?_ ?_
      · intro j oj hoj hj e he hb
        rw [hset] at hj ⊢
        split
        · rfl
        · by_cases hji : j = i
          · subst hji
            rw [ho] at hoj; cases hoj
            exact hedge e he hb
          · rw [if_neg hji] at hj
            exact hdown j oj hoj hj e he hb
      · -- one fewer
        have hcount : ∀ m, i < m → ((List.range m).filter (fun k => !listed.getD k false)).length = ((List.range m).filter (fun k => !(listed.setIfInBounds i true).getD k false)).length + 1 := by
          intro m hm
          have base : ∀ m, m ≤ i → (List.range m).filter (fun k => !listed.getD k false) = (List.range m).filter (fun k => !(listed.setIfInBounds i true).getD k false) := by
            intro m hm
            apply List.filter_congr
            intro k hk
            rw [List.mem_range] at hk
            rw [hset, if_neg (by omega)]
          induction m with
          | zero => omega
          | succ m ihm =>
            rw [List.range_succ, List.filter_append, List.filter_append, List.length_append, List.length_append]
            by_cases hmi : m = i
            · subst hmi
              rw [base m (Nat.le_refl _)]
              have e1 : (!listed.getD m false) = true := by rw [hDi]; rfl
              have e2 : (!(listed.setIfInBounds m true).getD m false) = false := by rw [hset]; simp
              simp only [List.filter_cons, List.filter_nil, e1, e2, if_true]
              simp
            · have := ihm (by omega)
              rw [this]
              have e2 : (listed.setIfInBounds i true).getD m false = listed.getD m false := by rw [hset, if_neg hmi]
              simp only [List.filter_cons, List.filter_nil, e2]
              omega
        have := hcount ops.size hlt
        omega
      · -- the state behind it
        refine hR'.like ⟨fun s => ?_, fun id => ?_, ?_, ?_⟩
        · show look s (stOf ops evs σ (fun k => (listed.setIfInBounds i true).getD k false) ops.size).fr = look s (putFr _ _ _)
          rw [look_putFr]
          by_cases hw : wrS ops i s
          · rw [if_pos hw]
            have hlast : ∀ k, i + 1 ≤ k → k < i + 1 + (ops.size - (i + 1)) → (listed.setIfInBounds i true).getD k false = true → ¬ wrS ops k s := by
              intro k h1 h2 h3 h4
              rw [hset, if_neg (by omega)] at h3
              have := same k (by omega) (.inl (.inl ⟨s, h4, .inr hw⟩))
              rw [h3] at this
              have : k < i := by simpa using this.symm
              omega
            have e1 := st_fr_end (evs := evs) (σ := σ) (D := fun k => (listed.setIfInBounds i true).getD k false) (ops.size - (i + 1)) hlast
            rw [show i + 1 + (ops.size - (i + 1)) = ops.size from by omega] at e1
            rw [e1]
            have e2 : (listed.setIfInBounds i true).getD i false = true := by rw [hset]; simp
            simp only [stOf, e2, if_true, Ev.app, look_putFr]
            rw [if_pos hw]
          · rw [if_neg hw]
            refine st_fr _ (fun k hk hwk => ?_)
            show (listed.setIfInBounds i true).getD k false = listed.getD k false
            rw [hset, if_neg (by rintro rfl; exact hw hwk)]
        · show look id (stOf ops evs σ (fun k => (listed.setIfInBounds i true).getD k false) ops.size).objs = look id ((evs i).upd ++ _)
          rw [look_upd]
          by_cases hw : (evs i).wr id = true
          · have hlast : ∀ k, i + 1 ≤ k → k < i + 1 + (ops.size - (i + 1)) → (listed.setIfInBounds i true).getD k false = true → ¬ (evs k).wr id = true := by
              intro k h1 h2 h3 h4
              rw [hset, if_neg (by omega)] at h3
              have := same k (by omega) (.inl (.inr ⟨id, h4, .inr hw⟩))
              rw [h3] at this
              have : k < i := by simpa using this.symm
              omega
            have e1 := st_obj_end (ops := ops) (σ := σ) hup (D := fun k => (listed.setIfInBounds i true).getD k false) (ops.size - (i + 1)) hlast
            rw [show i + 1 + (ops.size - (i + 1)) = ops.size from by omega] at e1
            rw [e1]
            have e2 : (listed.setIfInBounds i true).getD i false = true := by rw [hset]; simp
            have hlast' : ∀ k, i ≤ k → k < i + (ops.size - i) → listed.getD k false = true → ¬ (evs k).wr id = true := by
              intro k h1 h2 h3 h4
              have := same k (by omega) (.inl (.inr ⟨id, h4, .inr hw⟩))
              rw [h3] at this
              have : k < i := by simpa using this.symm
              omega
            have e3 := st_obj_end (ops := ops) (σ := σ) hup (D := fun k => listed.getD k false) (ops.size - i) hlast'
            rw [show i + (ops.size - i) = ops.size from by omega] at e3
            have e4 : look id (stOf ops evs σ (fun k => (listed.setIfInBounds i true).getD k false) i).objs = look id (stOf ops evs σ (fun k => listed.getD k false) i).objs :=
              st_obj hup i (fun k hk _ => by show (listed.setIfInBounds i true).getD k false = listed.getD k false; rw [hset, if_neg (by omega)])
            simp only [stOf, e2, if_true, Ev.app, look_upd, e4, e3]
          · rw [look_none (fun o ho => hw (hup i id o ho))]
            refine st_obj hup _ (fun k hk hwk => ?_)
            show (listed.setIfInBounds i true).getD k false = listed.getD k false
            rw [hset, if_neg (by rintro rfl; exact hw hwk)]
        · exact (st_hid _).1.trans (st_hid _).1.symm
        · exact (st_hid _).2.trans (st_hid _).2.symm
    · exact st_fr _ (fun k hk hwk => same k hk (.inl (.inl ⟨s, hwk, .inl hs⟩)))
    · refine st_obj hup _ (fun k hk hwk => same k hk (.inl (.inr ⟨id, hwk, hid⟩)))
end
end
end Go.Ab

namespace Go.Ab
noncomputable section
open Go Go.RowKit

/-! ### From single operations to actions -/
theorem freeze_ids {objs : Objs} : ∀ {ids : List Nat} {id : Nat} {o : AObj}, (id, o) ∈ freeze objs ids → id ∈ ids
  | [], _, _, h => by cases h
  | j :: r, id, o, h => by
    simp only [freeze] at h
    split at h
    · rcases List.mem_cons.1 h with h | h
      · cases h; simp
      · exact List.mem_cons_of_mem _ (freeze_ids h)
    · exact List.mem_cons_of_mem _ (freeze_ids h)

section
variable {T : Tbl} {fr : Fr} {objs : Objs} {e : Eff}

/-- What is turned is named. -/
def Eff.named (e : Eff) : Prop := ∀ id o, (id, o) ∈ e.upd → id ∈ e.wr

theorem named_nil {e : Eff} (h : e.upd = []) : e.named := fun id o hi => by rw [h] at hi; cases hi
theorem named_keys {e : Eff} (h : ∀ id ∈ e.upd.map (·.1), id ∈ e.wr) : e.named := fun id o hi => h id (List.mem_map.2 ⟨(id, o), hi, rfl⟩)
theorem loadEff_named {t : TypeId} {p : AV} (h : loadEff T objs t p = some e) : e.named := by
  unfold loadEff at h
  repeat' (split at h <;> try (cases h; done))
  all_goals (simp only [Option.some.injEq] at h; subst h; exact named_nil rfl)
theorem intOp_named {op : BinOp} {k : IntKind} {x y : Int} (h : intOp op k x y = some e) : e.named := by
  cases op <;> simp only [intOp, Option.some.injEq, reduceCtorEq] at h <;> (subst h; exact named_nil rfl)
theorem binEff_named {op : BinOp} {a b : AV} (h : binEff op a b = some e) : e.named := by
  unfold binEff at h
  split at h
  case h_3 =>
    split at h
    · exact intOp_named h
    · cases h
  all_goals first | (cases h; done) | (simp only [Option.some.injEq] at h; subst h; exact named_nil rfl)
theorem eqEff_named {t : TypeId} {op : BinOp} {a b : AV} (h : eqEff T t op a b = some e) : e.named := by
  unfold eqEff at h
  repeat' (split at h <;> try (cases h; done))
  all_goals (simp only [Option.some.injEq] at h; subst h; exact named_nil rfl)
theorem storeEff_named {t : TypeId} {u p : AV} (h : storeEff T objs t u p = some e) : e.named := by
  unfold storeEff at h
  repeat' (split at h <;> try (cases h; done))
  all_goals
    simp only [Option.some.injEq] at h
    subst h
    intro id o hi
    rcases List.mem_cons.1 hi with hi | hi
    · cases hi; simp
    · first | (cases hi; done) | exact List.mem_cons_of_mem _ (freeze_ids hi)
theorem mapEff_named {t : TypeId} {m k x : Operand} (h : mapEff T fr objs t m k x = some e) : e.named := by
  unfold mapEff at h
  repeat' (split at h <;> try (cases h; done))
  all_goals
    simp only [Option.some.injEq] at h
    subst h
    intro id o hi
    rcases List.mem_cons.1 hi with hi | hi
    · cases hi; simp
    · first | (cases hi; done) | exact List.mem_cons_of_mem _ (freeze_ids hi)
theorem sliceDat_named {ty : Ty} {v : AV} {lo hi : Option Operand} (h : sliceDat T fr objs ty v lo hi = some e) : e.named := by
  unfold sliceDat at h
  repeat' (split at h <;> try (cases h; done))
  all_goals (simp only [Option.some.injEq] at h; subst h; exact fun id o hi => freeze_ids hi)
theorem sliceEff_named {t : TypeId} {x : Operand} {lo hi : Option Operand} (h : sliceEff T fr objs t x lo hi = some e) : e.named := by
  unfold sliceEff at h
  repeat' (split at h <;> try (cases h; done))
  all_goals first | exact sliceDat_named h | (simp only [Option.some.injEq] at h; subst h; exact named_nil rfl)
theorem lenEff_named {v : AV} (h : lenEff objs v = some e) : e.named := by
  unfold lenEff at h
  repeat' (split at h <;> try (cases h; done))
  all_goals (simp only [Option.some.injEq] at h; subst h; exact named_nil rfl)
theorem appTyped_named {fn d : Nat} {el : TypeId} {b : Nat} {t : Ty} {s : AV} {ys : List t.V} {rd : List Nat} (h : appTyped fn d objs el b t s ys rd = some e) : e.named := by
  unfold appTyped at h
  repeat' (split at h <;> try (cases h; done))
  all_goals
    simp only [Option.some.injEq] at h
    subst h
    exact named_keys (by simp)
theorem vappEff_named {fn d : Nat} {el : TypeId} {ti : TI} {s x : AV} (h : vappEff fn d objs el ti s x = some e) : e.named := by
  unfold vappEff at h
  repeat' (split at h <;> try (cases h; done))
  all_goals
    simp only [Option.some.injEq] at h
    subst h
    exact named_keys (by simp)
theorem appendEff_named {fn d : Nat} {t : TypeId} {s x : AV} (h : appendEff T fn d objs t s x = some e) : e.named := by
  unfold appendEff at h
  repeat' (split at h <;> try (cases h; done))
  all_goals first | exact appTyped_named h | exact vappEff_named h
theorem appendEff2_named {fn d : Nat} {t u : TypeId} {s x : AV} (h : appendEff2 T fn d objs t u s x = some e) : e.named := by
  unfold appendEff2 at h
  repeat' (split at h <;> try (cases h; done))
  all_goals first | exact appTyped_named h | (simp only [Option.some.injEq] at h; subst h; exact named_keys (by simp))
theorem copyRow_named {el : TypeId} {id lo hi : Nat} {s : AV} (h : copyRow T objs el id lo hi s = some e) : e.named := by
  unfold copyRow at h
  repeat' (split at h <;> try (cases h; done))
  all_goals (simp only [Option.some.injEq] at h; subst h; exact named_keys (by simp))
theorem copyEff_named {t : TypeId} {d s : AV} (h : copyEff T objs t d s = some e) : e.named := by
  unfold copyEff at h
  repeat' (split at h <;> try (cases h; done))
  all_goals exact copyRow_named h
theorem nilEff_named {t : TypeId} {op : BinOp} {a b : AV} (h : nilEff T objs t op a b = some e) : e.named := by
  unfold nilEff at h
  split at h <;> try (cases h; done)
  split at h <;> try (cases h; done)
  split at h <;> try (cases h; done)
  all_goals (simp only [Option.some.injEq] at h; subst h; exact named_nil rfl)

theorem step_named {fn : Nat} {o : Oper} (hs : step T fn o fr objs = some e) : e.named := by
  cases hop : o.op with
  | call c =>
    obtain ⟨callee, args, argTypes⟩ := c
    cases callee with
    | builtin b =>
      cases b with
      | len =>
        simp only [step, hop] at hs
        repeat' (split at hs <;> try (cases hs; done))
        all_goals exact lenEff_named hs
      | append =>
        simp only [step, hop] at hs
        cases hd : o.dst with
        | none => simp [hd] at hs
        | some d =>
          simp only [hd] at hs
          repeat' (split at hs <;> try (cases hs; done))
          all_goals first | exact appendEff_named hs | exact appendEff2_named hs
      | cap =>
        simp only [step, hop] at hs
        repeat' (split at hs <;> try (cases hs; done))
        all_goals (simp only [Option.some.injEq] at hs; subst hs; exact named_nil rfl)
      | copy =>
        simp only [step, hop] at hs
        repeat' (split at hs <;> try (cases hs; done))
        all_goals exact copyEff_named hs
      | _ => simp [step, hop] at hs
    | _ => simp [step, hop] at hs
  | binOp op t x y t' =>
    simp only [step, hop] at hs
    repeat' (split at hs <;> try (cases hs; done))
    all_goals first | exact eqEff_named hs | exact binEff_named hs | exact nilEff_named hs
  | load t x =>
    simp only [step, hop] at hs
    repeat' (split at hs <;> try (cases hs; done))
    all_goals exact loadEff_named hs
  | store t x y =>
    simp only [step, hop] at hs
    repeat' (split at hs <;> try (cases hs; done))
    all_goals exact storeEff_named hs
  | mapUpdate t m k x => simp only [step, hop] at hs; exact mapEff_named hs
  | insert t m k x => simp only [step, hop] at hs; exact mapEff_named hs
  | slice t x lo hi mx =>
    simp only [step, hop] at hs
    split at hs
    · exact sliceEff_named hs
    · cases hs
  | buildSlice t len parts =>
    simp only [step, hop] at hs
    repeat' (split at hs <;> try (cases hs; done))
    all_goals
      simp only [Option.some.injEq] at hs
      subst hs
      intro id o hi
      rcases List.mem_cons.1 hi with hi | hi
      · cases hi; simp
      · first | (cases hi; done) | exact List.mem_cons_of_mem _ (freeze_ids hi)
  | move x => simp only [step, hop] at hs; obtain ⟨v, _, rfl⟩ := map_eff hs; exact named_nil rfl
  | assign x => simp only [step, hop] at hs; obtain ⟨v, _, rfl⟩ := map_eff hs; exact named_nil rfl
  | _ =>
    simp only [step, hop] at hs
    repeat' (split at hs <;> try (cases hs; done))
    all_goals first
      | (obtain ⟨v, _, rfl⟩ := map_eff hs; exact named_nil rfl)
      | (simp only [Option.some.injEq] at hs; subst hs; first | exact named_nil rfl | exact named_keys (by simp))
      | cases hs

theorem step_noDefer {fn : Nat} {o : Oper} (hs : step T fn o fr objs = some e) : ∀ c, o.op ≠ .defer c := by
  intro c hop
  simp [step, hop] at hs
end
end
end Go.Ab
