/- An abstract executor for the machine: part 9 of its soundness, for every program and table. -/
import Derived.Test.YtdhfgopecekdjaaGreatDoorAb08
namespace Go.Ab
noncomputable section
open Go Go.RowKit

section
variable {C : Cx} {o : Oper} {σ : St} {e : Eff} {a : Act} {w : World}

theorem fresh_iff {id : Nat} {objs : Objs} (h : fresh id objs = true) : look id objs = none := by
  unfold fresh at h
  split at h
  · assumption
  · cases h
theorem map_eff {α : Type} {x : Option α} {f : α → Eff} {e : Eff} (h : x.map f = some e) : ∃ v, x = some v ∧ e = f v := by
  cases x with
  | none => cases h
  | some v => exact ⟨v, rfl, by simpa using h.symm⟩

theorem step_sound_bin {op : BinOp} {t t' : TypeId} {x y : Operand} (hop : o.op = .binOp op t x y t') (hT : TblOk C.P C.T) (hR : Rel C.w0 C.N C.as σ a w) (hd : ∀ t, o.dst = some t → t < C.N)
    {fn : Nat} (hs : step C.T fn o σ.fr σ.objs = some e) (hc : ∀ q ∈ e.conds, q.holds) : Outc C σ o e a w := by
  simp only [step, hop] at hs
  split at hs <;> try (cases hs; done)
  rename_i u v hu hv
  split at hs
  · exact sound_eq hop hT hR hd hu hv hs
  · exact sound_eq hop hT hR hd hu hv hs
  · -- bool
    split at hs <;> try (cases hs; done)
    rename_i hti
    obtain ⟨de, hun, htd, _⟩ := (hT _ _ hti).desc
    have hun' : C.P.underlying t = some .bool := by cases de <;> simp only [tdOk] at htd; exact hun
    cases v with
    | dat ty n =>
      cases ty with
      | bool => exact sound_bool hop hR hd hun' hu hv hs
      | _ => cases op <;> simp [binEff] at hs
    | _ => cases op <;> simp [binEff] at hs
  · split at hs <;> try (cases hs; done)
    rename_i hti
    obtain ⟨de, hun, htd, _⟩ := (hT _ _ hti).desc
    have hun' : ∃ p r v, C.P.underlying t = some (.func p r v) := by cases de <;> simp only [tdOk] at htd; exact ⟨_, _, _, hun⟩
    cases v with
    | nilfn => exact sound_fnil hop hR hd hun' (.inr ⟨_, _, rfl⟩) hu hv hs
    | _ => cases op <;> simp [binEff] at hs
  · split at hs <;> try (cases hs; done)
    rename_i hti
    obtain ⟨de, hun, htd, _⟩ := (hT _ _ hti).desc
    have hun' : ∃ p r v, C.P.underlying t = some (.func p r v) := by cases de <;> simp only [tdOk] at htd; exact ⟨_, _, _, hun⟩
    cases v with
    | nilfn => exact sound_fnil hop hR hd hun' (.inl rfl) hu hv hs
    | _ => cases op <;> simp [binEff] at hs
  · rename_i k m
    cases v with
    | dat ty n =>
      cases ty with
      | int j =>
        by_cases hsh : op = .shl ∨ op = .shr
        · rcases hsh with rfl | rfl
          · simp only [binEff, Option.some.injEq] at hs
            exact sound_shift hop hR hd hu hv (.inl ⟨rfl, hs.symm⟩) hc
          · simp only [binEff, Option.some.injEq] at hs
            exact sound_shift hop hR hd hu hv (.inr ⟨rfl, hs.symm⟩) hc
        · have hs' : (if ikEq k j = true then intOp op k m n else none) = some e := by
            cases op <;> first | exact hs | (exact absurd (Or.inl rfl) hsh) | (exact absurd (Or.inr rfl) hsh)
          split at hs'
          · rename_i hk
            obtain rfl := ikEq_eq hk
            exact sound_int hop hR hd hu hv ⟨fun h => hsh (.inl h), fun h => hsh (.inr h)⟩ hs' hc
          · cases hs'
      | _ => cases op <;> simp [binEff] at hs
    | _ => cases op <;> simp [binEff] at hs
  · cases v with
    | dat ty n =>
      cases ty with
      | str => exact sound_str hop hR hd hu hv hs hc
      | _ => cases op <;> simp [binEff] at hs
    | _ => cases op <;> simp [binEff] at hs
  · exact sound_nil hop hT hR hd hu hv hs
  · exact sound_nil hop hT hR hd hu hv hs
  · exact sound_nil hop hT hR hd hu hv hs
  · cases hs

theorem appTyped_facts {fn d : Nat} {objs : Objs} {el : TypeId} {b : Nat} {t : Ty} {s : AV} {ys : List t.V} {rd : List Nat} (h : appTyped fn d objs el b t s ys rd = some e) : ∀ q ∈ e.facts, q := by
  unfold appTyped at h
  repeat' (split at h <;> try (cases h; done))
  all_goals (simp only [Option.some.injEq] at h; subst h; exact fun q hq => by cases hq)
theorem vappEff_facts {fn d : Nat} {objs : Objs} {el : TypeId} {ti : TI} {s x : AV} (h : vappEff fn d objs el ti s x = some e) : ∀ q ∈ e.facts, q := by
  unfold vappEff at h
  repeat' (split at h <;> try (cases h; done))
  all_goals (simp only [Option.some.injEq] at h; subst h; exact fun q hq => by cases hq)
theorem appendEff_facts {T : Tbl} {fn d : Nat} {objs : Objs} {t : TypeId} {s x : AV} (h : appendEff T fn d objs t s x = some e) : ∀ q ∈ e.facts, q := by
  unfold appendEff at h
  repeat' (split at h <;> try (cases h; done))
  all_goals first | exact appTyped_facts h | exact vappEff_facts h
theorem appendEff2_facts {T : Tbl} {fn d : Nat} {objs : Objs} {t u : TypeId} {s x : AV} (h : appendEff2 T fn d objs t u s x = some e) : ∀ q ∈ e.facts, q := by
  unfold appendEff2 at h
  repeat' (split at h <;> try (cases h; done))
  all_goals first | exact appTyped_facts h | (simp only [Option.some.injEq] at h; subst h; exact fun q hq => by cases hq)
theorem copyRow_facts {T : Tbl} {objs : Objs} {el : TypeId} {id lo hi : Nat} {s : AV} (h : copyRow T objs el id lo hi s = some e) : ∀ q ∈ e.facts, q := by
  unfold copyRow at h
  repeat' (split at h <;> try (cases h; done))
  all_goals (simp only [Option.some.injEq] at h; subst h; exact fun q hq => by cases hq)
theorem copyEff_facts {T : Tbl} {objs : Objs} {t : TypeId} {d s : AV} (h : copyEff T objs t d s = some e) : ∀ q ∈ e.facts, q := by
  unfold copyEff at h
  repeat' (split at h <;> try (cases h; done))
  all_goals exact copyRow_facts h

theorem step_sound_call {c : Call} (hop : o.op = .call c) (hT : TblOk C.P C.T) (hR : Rel C.w0 C.N C.as σ a w) (hd : ∀ t, o.dst = some t → t < C.N)
    {fn : Nat} (hs : step C.T fn o σ.fr σ.objs = some e) (hc : ∀ q ∈ e.conds, q.holds) : Outc C σ o e a w ∧ ∀ q ∈ e.facts, q := by
  obtain ⟨callee, args, argTypes⟩ := c
  cases callee with
  | builtin b =>
    cases b with
    | len =>
      simp only [step, hop] at hs
      split at hs <;> try (cases hs; done)
      rename_i t x ht hx
      split at hs <;> try (cases hs; done)
      rename_i ti v hti hv
      split at hs <;> try (cases hs; done)
      rename_i hk
      have e1 : argTypes = #[t] := by apply Array.ext'; simpa using ht
      have e2 : args = #[x] := by apply Array.ext'; simpa using hx
      subst e1 e2
      refine sound_len hop hR hd hv hs ?_
      obtain ⟨de, hun, htd, _⟩ := (hT _ _ hti).desc
      refine ⟨de, hun, ?_, ?_, ?_, ?_, ?_, ?_⟩
      · rintro ⟨s, rfl⟩
        cases hd1 : ti.d <;> rw [hd1] at hk htd <;> simp [lenOk] at hk
        cases de <;> simp [tdOk] at htd ⊢
      · rintro ⟨ty, ys, rfl⟩
        cases hd1 : ti.d <;> rw [hd1] at hk htd <;> simp [lenOk] at hk
        cases de <;> simp [tdOk] at htd ⊢
      · rintro ⟨ty, rfl⟩
        cases hd1 : ti.d <;> rw [hd1] at hk htd <;> simp [lenOk] at hk
        cases de <;> simp [tdOk] at htd ⊢
      · rintro ⟨id, rfl⟩
        cases hd1 : ti.d <;> rw [hd1] at hk htd <;> simp [lenOk] at hk
        cases de <;> simp [tdOk] at htd ⊢
      · rintro ⟨id, rfl⟩
        cases hd1 : ti.d <;> rw [hd1] at hk htd <;> simp [lenOk] at hk
        cases de <;> simp [tdOk] at htd ⊢
      · rintro ⟨id, lo, hi, rfl⟩
        cases hd1 : ti.d <;> rw [hd1] at hk htd <;> simp [lenOk] at hk
        cases de <;> simp [tdOk] at htd ⊢
    | append =>
      simp only [step, hop] at hs
      cases hdst : o.dst with
      | none => simp [hdst] at hs
      | some d =>
        simp only [hdst] at hs
        split at hs <;> try (cases hs; done)
        rename_i t t' s x ht hx
        have e1 : argTypes = #[t, t'] := by apply Array.ext'; simpa using ht
        have e2 : args = #[s, x] := by apply Array.ext'; simpa using hx
        subst e1 e2
        split at hs
        · rename_i htt
          subst htt
          split at hs <;> try (cases hs; done)
          rename_i sv xv hsv hxv
          exact ⟨sound_append hop hT hR hd hsv hxv hs hc, appendEff_facts hs⟩
        · split at hs <;> try (cases hs; done)
          rename_i sv xv hsv hxv
          exact ⟨sound_append2 hop hT hR hd hsv hxv hs hc, appendEff2_facts hs⟩
    | cap =>
      simp only [step, hop] at hs
      split at hs <;> try (cases hs; done)
      rename_i t x ht hx
      split at hs <;> try (cases hs; done)
      rename_i hti hxv
      simp only [Option.some.injEq] at hs
      subst hs
      have e1 : argTypes = #[t] := by apply Array.ext'; simpa using ht
      have e2 : args = #[x] := by apply Array.ext'; simpa using hx
      subst e1 e2
      refine ⟨?_, fun q hq => by cases hq⟩
      have hu := slice_elem hT hti rfl
      have hR' := hR
      obtain ⟨⟨φ, hg, hfo, hh⟩, hN⟩ := hR'
      have hve : a.eval x = .slice none 0 0 := by
        have h : [a.eval x] = [Value.slice none 0 0] := (ev_slot hfo hxv).cell rfl (by simp) (by simp)
        simpa using h
      refine Outc.value (v := .int .i64 0) hR hd rfl ?_ (fun _ _ _ => Slot.mkInt _ _)
      simp [execOp, hop, resolve, invoke, builtin, Builtin.cap_, run_underlying hu, hve, goInt]
    | copy =>
      simp only [step, hop] at hs
      split at hs <;> try (cases hs; done)
      rename_i t t' d s ht hx
      split at hs <;> try (cases hs; done)
      rename_i dv sv hdv hsv
      have e1 : argTypes = #[t, t'] := by apply Array.ext'; simpa using ht
      have e2 : args = #[d, s] := by apply Array.ext'; simpa using hx
      subst e1 e2
      exact ⟨sound_copy hop hT hR hd hdv hsv hs, copyEff_facts hs⟩
    | _ => simp [step, hop] at hs
  | _ => simp [step, hop] at hs

theorem loadEff_facts {T : Tbl} {objs : Objs} {t : TypeId} {p : AV} (h : loadEff T objs t p = some e) : e.facts = [] := by
  unfold loadEff at h
  repeat' (split at h <;> try (cases h; done))
  all_goals (simp only [Option.some.injEq] at h; subst h; rfl)
theorem storeEff_facts {T : Tbl} {objs : Objs} {t : TypeId} {u p : AV} (h : storeEff T objs t u p = some e) : e.facts = [] := by
  unfold storeEff at h
  repeat' (split at h <;> try (cases h; done))
  all_goals (simp only [Option.some.injEq] at h; subst h; rfl)
theorem mapEff_facts {T : Tbl} {fr : Fr} {objs : Objs} {t : TypeId} {m k x : Operand} (h : mapEff T fr objs t m k x = some e) : e.facts = [] := by
  unfold mapEff at h
  repeat' (split at h <;> try (cases h; done))
  all_goals (simp only [Option.some.injEq] at h; subst h; rfl)
theorem sliceDat_facts {T : Tbl} {fr : Fr} {objs : Objs} {ty : Ty} {v : AV} {lo hi : Option Operand} (h : sliceDat T fr objs ty v lo hi = some e) : e.facts = [] := by
  unfold sliceDat at h
  repeat' (split at h <;> try (cases h; done))
  all_goals (simp only [Option.some.injEq] at h; subst h; rfl)
theorem sliceEff_facts {T : Tbl} {fr : Fr} {objs : Objs} {t : TypeId} {x : Operand} {lo hi : Option Operand} (h : sliceEff T fr objs t x lo hi = some e) : e.facts = [] := by
  unfold sliceEff at h
  repeat' (split at h <;> try (cases h; done))
  all_goals first | exact sliceDat_facts h | (simp only [Option.some.injEq] at h; subst h; rfl)
theorem nilEff_facts {T : Tbl} {objs : Objs} {t : TypeId} {op : BinOp} {a b : AV} (h : nilEff T objs t op a b = some e) : e.facts = [] := by
  unfold nilEff at h
  split at h <;> try (cases h; done)
  split at h <;> try (cases h; done)
  split at h <;> try (cases h; done)
  all_goals (simp only [Option.some.injEq] at h; subst h; rfl)
theorem eqEff_facts {T : Tbl} {t : TypeId} {op : BinOp} {a b : AV} (h : eqEff T t op a b = some e) : e.facts = [] := by
  unfold eqEff at h
  repeat' (split at h <;> try (cases h; done))
  all_goals (simp only [Option.some.injEq] at h; subst h; rfl)
theorem intOp_facts {op : BinOp} {k : IntKind} {x y : Int} (h : intOp op k x y = some e) : e.facts = [] := by
  cases op <;> simp only [intOp, Option.some.injEq, reduceCtorEq] at h <;> (subst h; rfl)
theorem binEff_facts {op : BinOp} {a b : AV} (h : binEff op a b = some e) : e.facts = [] := by
  unfold binEff at h
  split at h
  case h_3 =>
    split at h
    · exact intOp_facts h
    · cases h
  all_goals (cases h <;> rfl)

theorem outc_facts {e : Eff} (h : Outc C σ o e a w) (hf : e.facts = []) : Outc C σ o e a w ∧ ∀ q ∈ e.facts, q := ⟨h, fun q hq => by rw [hf] at hq; cases hq⟩

theorem step_sound (hT : TblOk C.P C.T) (hR : Rel C.w0 C.N C.as σ a w) (hd : ∀ t, o.dst = some t → t < C.N) {fn : Nat} (hs : step C.T fn o σ.fr σ.objs = some e) (hc : ∀ q ∈ e.conds, q.holds) :
    Outc C σ o e a w ∧ ∀ q ∈ e.facts, q := by
  cases hop : o.op with
  | call c => exact step_sound_call hop hT hR hd hs hc
  | binOp op t x y t' =>
    refine outc_facts (step_sound_bin hop hT hR hd hs hc) ?_
    simp only [step, hop] at hs
    repeat' (split at hs <;> try (cases hs; done))
    all_goals first | exact eqEff_facts hs | exact binEff_facts hs | exact nilEff_facts hs
  | move x =>
    simp only [step, hop] at hs
    obtain ⟨v, h1, h2⟩ := map_eff hs
    exact outc_facts (sound_move (.inl hop) hR hd h1 h2) (by rw [h2])
  | assign x =>
    simp only [step, hop] at hs
    obtain ⟨v, h1, h2⟩ := map_eff hs
    exact outc_facts (sound_move (.inr hop) hR hd h1 h2) (by rw [h2])
  | pick c x y =>
    simp only [step, hop] at hs
    split at hs <;> try (cases hs; done)
    rename_i b hb
    split at hs <;> try (cases hs; done)
    rename_i va vb h1 h2
    cases b with
    | true => simp only [Option.some.injEq] at hs; exact outc_facts (sound_pick hop hR hd hb (by simpa using h1) hs.symm) (by rw [← hs])
    | false => simp only [Option.some.injEq] at hs; exact outc_facts (sound_pick hop hR hd hb (by simpa using h2) hs.symm) (by rw [← hs])
  | alloc t =>
    simp only [step, hop] at hs
    split at hs <;> try (cases hs; done)
    rename_i ti d hti hds
    split at hs <;> try (cases hs; done)
    rename_i hk
    simp only [Option.some.injEq] at hs
    exact outc_facts (sound_alloc hop hT hR hd hti hk.2 (fresh_iff hk.1) hs.symm) (by rw [← hs])
  | box t x =>
    simp only [step, hop] at hs
    split at hs <;> try (cases hs; done)
    rename_i d v hds hv
    split at hs <;> try (cases hs; done)
    rename_i hk
    simp only [Option.some.injEq] at hs
    exact outc_facts (sound_box hop hR hd hv hk.2 (fresh_iff hk.1) hs.symm) (by rw [← hs])
  | build t parts =>
    simp only [step, hop] at hs
    split at hs <;> try (cases hs; done)
    rename_i ti hti
    split at hs <;> try (cases hs; done)
    · rename_i fs hds
      split at hs <;> try (cases hs; done)
      rename_i hag
      obtain ⟨v, h1, h2⟩ := map_eff hs
      exact outc_facts (sound_build hop hT hR hd hti hag (.inl ⟨fs, hds, h1⟩) h2) (by rw [h2])
    · rename_i n el hds
      split at hs <;> try (cases hs; done)
      rename_i te hte
      split at hs <;> try (cases hs; done)
      rename_i hag
      obtain ⟨v, h1, h2⟩ := map_eff hs
      exact outc_facts (sound_build hop hT hR hd hti hag (.inr ⟨n, el, te, hds, hte, h1⟩) h2) (by rw [h2])
  | buildSlice t len parts =>
    simp only [step, hop] at hs
    split at hs <;> try (cases hs; done)
    rename_i hti hds
    split at hs <;> try (cases hs; done)
    rename_i te hte
    split at hs
    · rename_i ty hty
      split at hs <;> try (cases hs; done)
      rename_i xs ids hl
      split at hs <;> try (cases hs; done)
      rename_i hk
      simp only [Option.some.injEq] at hs
      exact outc_facts (sound_buildSlice hop hT hR hd hti rfl hte (flatTy_some hty).1 hl hk.2.1 hk.2.2.1 hk.2.2.2 (fresh_iff hk.1) hs.symm) (by rw [← hs])
    · split at hs <;> try (cases hs; done)
      rename_i xs hl
      split at hs <;> try (cases hs; done)
      rename_i hk
      simp only [Option.some.injEq] at hs
      exact outc_facts (sound_buildSlice_v hop hT hR hd hti rfl hte hl hk.2.1 hk.2.2.1 hk.2.2.2 (fresh_iff hk.1) hs.symm) (by rw [← hs])
  | load t x =>
    simp only [step, hop] at hs
    split at hs <;> try (cases hs; done)
    rename_i p hp
    exact outc_facts (sound_load hop hT hR hd hp hs) (loadEff_facts hs)
  | store t x y =>
    simp only [step, hop] at hs
    split at hs <;> try (cases hs; done)
    rename_i p u hp hu
    exact outc_facts (sound_store hop hT hR hd hp hu hs) (storeEff_facts hs)
  | nilCheck x =>
    simp only [step, hop] at hs
    split at hs <;> try (cases hs; done)
    · rename_i id i off p hx
      simp only [Option.some.injEq] at hs
      exact outc_facts (sound_nilCheck hop hR hd hx (.inl ⟨_, _, _, _, rfl⟩) hs.symm) (by rw [← hs])
    · rename_i hx
      simp only [Option.some.injEq] at hs
      exact outc_facts (sound_nilCheck hop hR hd hx (.inr (.inl ⟨_, _, rfl⟩)) hs.symm) (by rw [← hs])
    · rename_i hx
      simp only [Option.some.injEq] at hs
      exact outc_facts (sound_nilCheck hop hR hd hx (.inr (.inr ⟨_, _, rfl⟩)) hs.symm) (by rw [← hs])
  | unOp op t x =>
    simp only [step, hop] at hs
    split at hs <;> try (cases hs; done)
    · rename_i b hx
      simp only [Option.some.injEq] at hs
      exact outc_facts (sound_not hop hR hd hx hs.symm) (by rw [← hs])
    · rename_i k n hx
      simp only [Option.some.injEq] at hs
      exact outc_facts (sound_neg hop hR hd hx hs.symm hc) (by rw [← hs])
  | convert src dst x =>
    simp only [step, hop] at hs
    split at hs <;> try (cases hs; done)
    · rename_i k _ _ _ _ _ ts hti hts
      split at hs <;> try (cases hs; done)
      rename_i j n hx
      simp only [Option.some.injEq] at hs
      obtain ⟨d1, hu1, _⟩ := (hT _ _ hts).desc
      obtain ⟨d2, hu2, htd, _⟩ := (hT _ _ hti).desc
      have hu2' : C.P.underlying dst = some (.int k) := by cases d2 <;> simp only [tdOk] at htd; subst htd; exact hu2
      exact outc_facts (sound_convInt hop hR hd ⟨d1, hu1⟩ hu2' hx hs.symm hc) (by rw [← hs])
    · rename_i el _ _ _ _ _ hti hts
      split at hs <;> try (cases hs; done)
      rename_i v hel hx
      split at hs <;> try (cases hs; done)
      rename_i xs hxs
      simp only [Option.some.injEq] at hs
      obtain ⟨d2, hu2, htd, _⟩ := (hT _ _ hti).desc
      obtain ⟨d3, hu3, htd3, _⟩ := (hT _ _ hel).desc
      have hu2' : C.P.underlying dst = some .string := by cases d2 <;> simp only [tdOk] at htd; exact hu2
      have hu3' : C.P.underlying el = some (.int .u8) := by cases d3 <;> simp only [tdOk] at htd3; subst htd3; exact hu3
      exact outc_facts (sound_convStr hop hT hR hd hts rfl hu3' hu2' hx hxs hs.symm) (by rw [← hs])
  | makeFunc f first caps =>
    simp only [step, hop] at hs
    split at hs <;> try (cases hs; done)
    split at hs <;> try (cases hs; done)
    rename_i hfi
    obtain ⟨v, h1, h2⟩ := map_eff hs
    have e1 : first = #[] := by apply Array.ext'; simpa using hfi
    subst e1
    exact outc_facts (sound_makeFunc hop hR hd h1 h2) (by rw [h2])
  | makeMap t r =>
    simp only [step, hop] at hs
    split at hs <;> try (cases hs; done)
    split at hs <;> try (cases hs; done)
    split at hs <;> try (cases hs; done)
    split at hs <;> try (cases hs; done)
    · split at hs <;> try (cases hs; done)
      rename_i hk
      simp only [Option.some.injEq] at hs
      exact outc_facts (sound_makeMap hop hR hd hk.2 (fresh_iff hk.1) hs.symm) (by rw [← hs])
    · split at hs <;> try (cases hs; done)
      rename_i hk
      simp only [Option.some.injEq] at hs
      exact outc_facts (sound_makeMap_v hop hR hd hk.2 (fresh_iff hk.1) hs.symm) (by rw [← hs])
  | makeSlice t l c =>
    simp only [step, hop] at hs
    split at hs <;> try (cases hs; done)
    rename_i hti hds
    split at hs <;> try (cases hs; done)
    rename_i te hte
    split at hs
    · rename_i ty hty
      split at hs <;> try (cases hs; done)
      rename_i n m z hl hcc hz
      split at hs <;> try (cases hs; done)
      rename_i hk
      simp only [Option.some.injEq] at hs
      exact outc_facts (sound_makeSlice hop hT hR hd hti rfl hte (flatTy_some hty).1 hl hcc hz hk.2.1 hk.2.2 (fresh_iff hk.1) hs.symm hc) (by rw [← hs])
    · split at hs <;> try (cases hs; done)
      rename_i n m hl hcc
      split at hs <;> try (cases hs; done)
      rename_i hk
      simp only [Option.some.injEq] at hs
      exact outc_facts (sound_makeSlice_v hop hT hR hd hti rfl hte hl hcc hk.2.1 hk.2.2 (fresh_iff hk.1) hs.symm hc) (by rw [← hs])
  | slice t x lo hi mx =>
    simp only [step, hop] at hs
    split at hs
    · exact outc_facts (sound_slice hop hT hR hd hs hc) (sliceEff_facts hs)
    · cases hs
  | fieldAddr s x f =>
    simp only [step, hop] at hs
    split at hs <;> try (cases hs; done)
    · rename_i hx hts
      split at hs <;> try (cases hs; done)
      rename_i ft fo hf
      split at hs <;> try (cases hs; done)
      rename_i tf htf
      split at hs <;> try (cases hs; done)
      rename_i hz
      simp only [Option.some.injEq] at hs
      exact outc_facts (sound_fieldAddr hop hT hR hd hx hts rfl hf htf hz hs.symm) (by rw [← hs])
    · rename_i hx hts
      split at hs <;> try (cases hs; done)
      rename_i ft fo u z oo hf hgt hof
      split at hs <;> try (cases hs; done)
      rename_i tf htf
      split at hs <;> try (cases hs; done)
      rename_i hz
      simp only [Option.some.injEq] at hs
      obtain ⟨rfl, hz⟩ := hz
      exact outc_facts (sound_fieldPim hop hT hR hd hx hts rfl hf htf hz hgt hof hs.symm) (by rw [← hs])
  | field t x f =>
    simp only [step, hop] at hs
    split at hs <;> try (cases hs; done)
    rename_i v _ _ _ _ _ _ hx hts
    split at hs <;> try (cases hs; done)
    rename_i ft fo u oo hf hgt hof
    split at hs <;> try (cases hs; done)
    rename_i tf htf
    split at hs <;> try (cases hs; done)
    rename_i hz
    simp only [Option.some.injEq] at hs
    obtain ⟨rfl, h1, h2, h3⟩ := hz
    exact outc_facts (sound_field hop hT hR hd hx hts rfl hf htf hgt hof h1 h2 h3 hs.symm) (by rw [← hs])
  | indexAddr t x ix =>
    simp only [step, hop] at hs
    split at hs <;> try (cases hs; done)
    · rename_i ty xs k i hx hix
      split at hs <;> try (cases hs; done)
      rename_i hti
      split at hs <;> try (cases hs; done)
      rename_i te hte
      split at hs <;> try (cases hs; done)
      rename_i hz
      simp only [Option.some.injEq] at hs
      exact outc_facts (sound_index_dat hop hT hR hd hx hix hti rfl hte hz hs.symm hc) (by rw [← hs])
    · rename_i id k i hx hix
      split at hs <;> try (cases hs; done)
      rename_i hti
      split at hs <;> try (cases hs; done)
      · rename_i hte hl
        split at hs <;> try (cases hs; done)
        rename_i hz
        simp only [Option.some.injEq] at hs
        exact outc_facts (sound_index_sl hop hT hR hd hx hix hti rfl hte hz hl hs.symm hc) (by rw [← hs])
      · rename_i hte hl
        split at hs <;> try (cases hs; done)
        rename_i hz
        simp only [Option.some.injEq] at hs
        exact outc_facts (sound_index_frz hop hT hR hd hx hix hti rfl hte hz hl hs.symm hc) (by rw [← hs])
      · rename_i hte hl
        split at hs <;> try (cases hs; done)
        rename_i hz
        simp only [Option.some.injEq] at hs
        exact outc_facts (sound_index_slv hop hT hR hd hx hix hti rfl hte hz hl hs.symm hc) (by rw [← hs])
    · rename_i id lo hi k i hx hix
      split at hs <;> try (cases hs; done)
      rename_i hti
      split at hs <;> try (cases hs; done)
      · rename_i hte hl
        split at hs <;> try (cases hs; done)
        rename_i hz
        simp only [Option.some.injEq] at hs
        exact outc_facts (sound_index_sub hop hT hR hd hx hix hti rfl hte hz hl hs.symm hc) (by rw [← hs])
      · rename_i hte hl
        split at hs <;> try (cases hs; done)
        rename_i hz
        simp only [Option.some.injEq] at hs
        exact outc_facts (sound_index_subv hop hT hR hd hx hix hti rfl hte hz hl hs.symm hc) (by rw [← hs])
    · rename_i id i off p k j hx hix
      split at hs <;> try (cases hs; done)
      rename_i hti
      split at hs <;> try (cases hs; done)
      rename_i te hte
      split at hs <;> try (cases hs; done)
      rename_i hz
      simp only [Option.some.injEq] at hs
      exact outc_facts (sound_index_ptr hop hT hR hd hx hix hti rfl hte hz.1 hz.2 hs.symm) (by rw [← hs])
    · rename_i u y k j hx hix
      split at hs <;> try (cases hs; done)
      rename_i hti
      split at hs <;> try (cases hs; done)
      rename_i te ww z oo hte hgt hof
      split at hs <;> try (cases hs; done)
      rename_i hz
      simp only [Option.some.injEq] at hs
      obtain ⟨h1, h2, rfl⟩ := hz
      exact outc_facts (sound_index_pim hop hT hR hd hx hix hti rfl hte h1 h2 hgt hof hs.symm) (by rw [← hs])
  | index t x ix =>
    simp only [step, hop] at hs
    split at hs <;> try (cases hs; done)
    rename_i hti hx hix
    obtain ⟨de, hun, htd, _⟩ := (hT _ _ hti).desc
    have hun' : C.P.underlying t = some .string := by cases de <;> simp only [tdOk] at htd; exact hun
    simp only [Option.some.injEq] at hs
    exact outc_facts (sound_index_str hop hun' hR hd hx hix hs.symm hc) (by rw [← hs])
  | lookup t x ix ok =>
    simp only [step, hop] at hs
    split at hs <;> try (cases hs; done)
    rename_i hti
    split at hs <;> try (cases hs; done)
    rename_i te id hte hx
    split at hs <;> try (cases hs; done)
    · rename_i kt vt m hl
      split at hs <;> try (cases hs; done)
      rename_i kv z hkv hz
      split at hs <;> try (cases hs; done)
      rename_i k hk
      split at hs <;> try (cases hs; done)
      rename_i hq
      refine outc_facts (sound_lookup hop hT hR hd hti rfl hte hx hl hkv hz hk hq.1 hq.2 ?_) ?_
      · cases ok <;> simpa using hs.symm
      · cases ok <;> (simp at hs; rw [← hs])
    · rename_i kt m hl
      split at hs <;> try (cases hs; done)
      rename_i kv hkv
      split at hs <;> try (cases hs; done)
      rename_i k hk
      split at hs <;> try (cases hs; done)
      rename_i hq
      refine outc_facts (sound_lookup_v hop hT hR hd hti rfl hte hx hl hkv hk hq.1 hq.2 ?_) ?_
      · cases ok <;> simpa using hs.symm
      · cases ok <;> (simp at hs; rw [← hs])
  | mapUpdate t m k x =>
    simp only [step, hop] at hs
    exact outc_facts (sound_mapUpdate (.inl hop) hT hR hd hs) (mapEff_facts hs)
  | insert t m k x =>
    simp only [step, hop] at hs
    exact outc_facts (sound_mapUpdate (.inr hop) hT hR hd hs) (mapEff_facts hs)
  | extract x i =>
    simp only [step, hop] at hs
    split at hs <;> try (cases hs; done)
    rename_i vs hx
    obtain ⟨v, h1, h2⟩ := map_eff hs
    exact outc_facts (sound_extract hop hR hd hx h1 h2) (by rw [h2])
  | _ => simp [step, hop] at hs
end
end
end Go.Ab

namespace Go.Ab
noncomputable section
open Go

/-! ### What an operation looks at -/
theorem toDat_congr {objs objs' : Objs} : ∀ {t : Ty} {v : AV}, (∀ id ∈ slIds v, look id objs' = look id objs) → toDat objs' t v = toDat objs t v := by
  intro t
  induction t with
  | pair a b iha ihb =>
    intro v h
    cases v <;> try (simp only [toDat]; done)
    rename_i f r
    simp only [toDat]
    rw [iha (fun id hi => h id (by simp [slIds, hi])), ihb (fun id hi => h id (by simp [slIds, hi]))]
  | lst t _ =>
    intro v h
    cases v <;> try (simp only [toDat]; done)
    · rename_i id
      simp only [toDat]
      rw [h id (by simp [slIds])]
    · rename_i id lo hi
      simp only [toDat]
      rw [h id (by simp [slIds])]
  | _ => intro v h; cases v <;> simp only [toDat]
theorem readL_congr {objs objs' : Objs} {t : Ty} {v : AV} (h : ∀ id ∈ slIds v, look id objs' = look id objs) : readL objs' t v = readL objs t v := toDat_congr h
theorem freeze_congr {objs objs' : Objs} : ∀ {ids : List Nat}, (∀ id ∈ ids, look id objs' = look id objs) → freeze objs' ids = freeze objs ids
  | [], _ => rfl
  | id :: r, h => by
    simp only [freeze]
    rw [h id (by simp), freeze_congr (ids := r) (fun j hj => h j (by simp [hj]))]
theorem fresh_congr {objs objs' : Objs} {id : Nat} (h : look id objs' = look id objs) : fresh id objs' = fresh id objs := by unfold fresh; rw [h]

section
variable {T : Tbl} {fr fr' : Fr}
theorem setFields_congr : ∀ {parts : List (Nat × Operand)} {z : AV} {ft : Nat → Option (TypeId × Nat)}, (∀ p ∈ parts, ∀ t, ev T t fr' p.2 = ev T t fr p.2) → setFields T fr' z parts ft = setFields T fr z parts ft
  | [], _, _, _ => rfl
  | (i, x) :: r, z, ft, h => by
    simp only [setFields]
    have h1 : ∀ t, ev T t fr' x = ev T t fr x := h (i, x) (by simp)
    simp only [h1]
    have h2 : ∀ z', setFields T fr' z' r ft = setFields T fr z' r ft := fun z' => setFields_congr fun p hp => h p (by simp [hp])
    simp only [h2]
theorem litElems_congr {objs : Objs} {e : TypeId} {ty : Ty} : ∀ {parts : List (Nat × Operand)} {k : Nat}, (∀ p ∈ parts, ∀ t, ev T t fr' p.2 = ev T t fr p.2) → litElems T fr' objs e ty k parts = litElems T fr objs e ty k parts
  | [], _, _ => rfl
  | (i, x) :: r, k, h => by
    simp only [litElems]
    have h1 : ∀ t, ev T t fr' x = ev T t fr x := h (i, x) (by simp)
    simp only [h1, litElems_congr (parts := r) fun p hp => h p (by simp [hp])]
theorem litAV_congr {e : TypeId} {sz : Nat} : ∀ {parts : List (Nat × Operand)} {k : Nat}, (∀ p ∈ parts, ∀ t, ev T t fr' p.2 = ev T t fr p.2) → litAV T fr' e sz k parts = litAV T fr e sz k parts
  | [], _, _ => rfl
  | (i, x) :: r, k, h => by
    simp only [litAV]
    have h1 : ∀ t, ev T t fr' x = ev T t fr x := h (i, x) (by simp)
    simp only [h1, litAV_congr (parts := r) fun p hp => h p (by simp [hp])]
theorem capsAV_congr : ∀ {xs : List Operand}, (∀ x ∈ xs, ∀ t, ev T t fr' x = ev T t fr x) → capsAV T fr' xs = capsAV T fr xs
  | [], _ => rfl
  | x :: r, h => by
    simp only [capsAV]
    rw [h x (by simp), capsAV_congr (xs := r) fun y hy => h y (by simp [hy])]
theorem bnd_congr {z : Int} : ∀ {x : Option Operand}, (∀ y, x = some y → ∀ t, ev T t fr' y = ev T t fr y) → bnd T fr' z x = bnd T fr z x
  | none, _ => rfl
  | some y, h => by simp only [bnd, h y rfl]

theorem step_fr {fn : Nat} {o : Oper} {objs : Objs} (h : ∀ x ∈ o.op.operands, ∀ t, ev T t fr' x = ev T t fr x) : step T fn o fr' objs = step T fn o fr objs := by
  cases hop : o.op <;> rw [hop] at h <;> simp only [Op.operands] at h <;> simp only [step, hop]
  case move x => rw [h x (by simp)]
  case assign x => rw [h x (by simp)]
  case pick c x y => simp only [h c (by simp), h x (by simp), h y (by simp)]
  case box t x => simp only [h x (by simp)]
  case build t ps =>
    have h1 : ∀ p ∈ ps.toList, ∀ t, ev T t fr' p.2 = ev T t fr p.2 := fun p hp => h p.2 (by simp; exact ⟨p.1, by simpa using hp⟩)
    simp only [setFields_congr h1]
  case buildSlice t n ps =>
    have h1 : ∀ p ∈ ps.toList, ∀ t, ev T t fr' p.2 = ev T t fr p.2 := fun p hp => h p.2 (by simp; exact ⟨p.1, by simpa using hp⟩)
    simp only [litElems_congr h1, litAV_congr h1]
  case load t x => simp only [h x (by simp)]
  case store t x y => simp only [h x (by simp), h y (by simp)]
  case nilCheck x => simp only [h x (by simp)]
  case binOp op t x y t' => simp only [h x (by simp), h y (by simp)]
  case unOp op t x => simp only [h x (by simp)]
  case convert s t x => simp only [h x (by simp)]
  case makeFunc f first caps =>
    have h1 : ∀ x ∈ caps.toList, ∀ t, ev T t fr' x = ev T t fr x := fun x hx => h x (Array.mem_append.2 (.inr (Array.mem_toList_iff.1 hx)))
    simp only [capsAV_congr h1]
  case makeSlice t l c => simp only [h l (by simp), h c (by simp)]
  case slice t x lo hi mx =>
    have h1 := h x (by simp)
    have h2 : ∀ z, bnd T fr' z lo = bnd T fr z lo := fun z => bnd_congr fun y hy => h y (by simp [hy])
    have h3 : ∀ z, bnd T fr' z hi = bnd T fr z hi := fun z => bnd_congr fun y hy => h y (by simp [hy])
    have h4 : ∀ m, mx = some m → ∀ z, bnd T fr' z (some m) = bnd T fr z (some m) := fun m hm z => bnd_congr fun y hy => h y (by cases hy; simp [hm])
    cases mx with
    | none => simp only [sliceEff, sliceDat, h1, h2, h3]
    | some m => rfl
  case fieldAddr s x f => simp only [h x (by simp)]
  case field t x f => simp only [h x (by simp)]
  case indexAddr t x y => simp only [h x (by simp), h y (by simp)]
  case index t x y => simp only [h x (by simp), h y (by simp)]
  case lookup t x y ok => simp only [h x (by simp), h y (by simp)]
  case mapUpdate t m k x => simp only [mapEff, h m (by simp), h k (by simp), h x (by simp)]
  case insert t m k x => simp only [mapEff, h m (by simp), h k (by simp), h x (by simp)]
  case extract x i => simp only [h x (by simp)]
  case call c =>
    obtain ⟨callee, args, argTypes⟩ := c
    cases callee with
    | builtin b =>
      simp only [Call.operands] at h
      have ha : ∀ x ∈ args.toList, ∀ t, ev T t fr' x = ev T t fr x := fun x hx => h x (by simpa using hx)
      cases b with
      | len =>
        simp only
        split
        · rename_i t x ht hx
          simp only [ha x (by rw [hx]; simp)]
        · rfl
      | append =>
        cases o.dst with
        | none => rfl
        | some d =>
          simp only
          split
          · rename_i t t' s x ht hx
            simp only [ha x (by rw [hx]; simp), ha s (by rw [hx]; simp)]
          · rfl
      | cap =>
        simp only
        split
        · rename_i t x ht hx
          simp only [ha x (by rw [hx]; simp)]
        · rfl
      | copy =>
        simp only
        split
        · rename_i t t' d s ht hx
          simp only [ha d (by rw [hx]; simp), ha s (by rw [hx]; simp)]
        · rfl
      | _ => rfl
    | _ => rfl
  all_goals rfl
end
end
end Go.Ab
