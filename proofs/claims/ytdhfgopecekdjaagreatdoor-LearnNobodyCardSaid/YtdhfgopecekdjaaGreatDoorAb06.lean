/- An abstract executor for the machine: part 6 of its soundness, for every program and table. -/
import Derived.Test.YtdhfgopecekdjaaGreatDoorAb05
import Derived.Lib.AppendStr
import Derived.Lib.AppendZeros
namespace Go.Ab
noncomputable section
open Go Go.RowKit

section
variable {C : Cx} {o : Oper} {σ : St} {e : Eff} {a : Act} {w : World}

/-- A slice that is read: its elements' cells. -/
theorem readL_rep {E : Env} {base : Nat → Prop} (hobj : ∀ id ob, look id E.objs = some ob → ObjRep E base id ob) {t : Ty} {v : AV} {xs : List t.V} {u : Value} (h : readL E.objs t v = some xs) (hr : Rep E v false [u]) :
    ∃ ad n cap cells, u = .slice ad n cap ∧ xs.length = n ∧ n ≤ 9223372036854775807 ∧ RepL (RepC E.I E.w t) xs cells ∧ (xs = [] ∨ ∃ b o, ad = some ⟨b, o, none⟩ ∧ ∀ j x, cells[j]? = some x → E.w.cell? ⟨b, o + j, none⟩ = some x) := by
  unfold readL at h
  cases v <;> try (simp only [toDat] at h; try (cases h; done))
  · rename_i t' x
    split at h
    · rename_i he
      cases h
      obtain ⟨ad, n, cap, cells, h1, h2, h3, h4, h5, h6⟩ := (Rep_cst (a := t') (b := .lst t) he x [u]).2 hr
      refine ⟨ad, n, cap, cells, by simpa using h1, h2, by omega, h5, ?_⟩
      rcases h6 with h6 | ⟨b, o, h6, _, h7⟩
      · exact .inl h6
      · exact .inr ⟨b, o, h6, h7⟩
    · cases h
  · split at h
    · cases h
      replace hr : [u] = [.slice none 0 0] := hr
      exact ⟨none, 0, 0, [], by simpa using hr, rfl, by omega, rfl, .inl rfl⟩
    · cases h
  · rename_i id
    obtain ⟨ob, hob, ⟨a1, n1, c1, hcs⟩, hk⟩ := hr
    rw [hob] at h
    cases ob with
    | row e t' xs' =>
      simp only at h hk
      split at h
      · rename_i he
        obtain rfl := Ty.eq_eq he
        cases h
        have hu : u = E.φ id := by simpa using hk
        obtain ⟨cells, h1, h2, h3⟩ := hobj id _ hob
        rcases h3 with ⟨h4, ad, h3⟩ | ⟨g, cap, cur, h3, h4, h5, h6, h7, h8, h9⟩
        · have hx : xs' = [] := List.eq_nil_of_length_eq_zero h4
          subst hx
          exact ⟨ad, 0, 0, [], by rw [hu, h3], rfl, by omega, rfl, .inl rfl⟩
        · refine ⟨some ⟨g, 0, none⟩, xs'.length, cap + 1, cells, by rw [hu, h3], rfl, by simp only [maxLen] at h7; omega, h1, .inr ⟨g, 0, rfl, fun j v hj => ?_⟩⟩
          have := World.ownsRow.cells (w := E.w) ⟨h2, .inr ⟨g, cap + 1, cur, h3, Nat.zero_le _, h5, h6, h7, h8, h9⟩⟩ (g := g) (by rw [h3]; rfl) j v hj
          rwa [add_at] at this
      · cases h
    | frz t' xs' =>
      simp only at h hk
      split at h
      · rename_i he
        obtain rfl := Ty.eq_eq he
        cases h
        have hu : u = E.φ id := by simpa using hk
        obtain ⟨ad, n, cap, cells, h1, h2, h3, h4, h5, h6⟩ := hobj id _ hob
        refine ⟨ad, n, cap, cells, by rw [hu]; simpa using h1, h2, by omega, h5, ?_⟩
        rcases h6 with h6 | ⟨b, o, h6, _, h7⟩
        · exact .inl h6
        · exact .inr ⟨b, o, h6, h7⟩
      · cases h
    | _ => cases h
  · rename_i id lo hi
    obtain ⟨ob, hob, ⟨a1, n1, c1, hcs⟩, hk⟩ := hr
    rw [hob] at h
    cases ob with
    | row e t' xs' =>
      simp only at h hk
      split at h
      · rename_i he
        obtain rfl := Ty.eq_eq he
        cases h
        obtain ⟨h1, h2, ad, n, cap, ad2, h3, h4, h4'⟩ := hk
        obtain ⟨cells, q1, q2, q3⟩ := hobj id _ hob
        have hu : u = .slice ad2 (hi - lo) (cap - lo) := by simpa using h4
        have hsm := (row_rep (hobj id _ hob) (I' := fun _ => True) (fun _ _ => trivial) (fun _ _ => trivial)).2
        refine ⟨_, hi - lo, _, (cells.take (hi * t'.size)).drop (lo * t'.size), hu, ?_, by omega, RepL.drop (fun _ _ h => RepC.len h) _ (RepL.take (fun _ _ h => RepC.len h) _ q1), ?_⟩
        · show ((xs'.take hi).drop lo).length = _
          simp only [List.length_drop, List.length_take]; omega
        · rcases q3 with ⟨h8, ad', h9⟩ | ⟨g, cap', cur, h9, h10, h11, h12, h13, h14, h15⟩
          · left
            show (xs'.take hi).drop lo = []
            apply List.eq_nil_of_length_eq_zero
            simp only [List.length_drop, List.length_take]; omega
          · have hφ := h9.symm.trans h3
            simp only [Value.slice.injEq] at hφ
            obtain ⟨rfl, rfl, rfl⟩ := hφ
            by_cases hcl : cap' + 1 = lo
            · left
              show (xs'.take hi).drop lo = []
              apply List.eq_nil_of_length_eq_zero
              simp only [List.length_drop, List.length_take]; omega
            · refine .inr ⟨g, lo * t'.size, by rw [h4' hcl]; simp only [Option.map_some, add_at, Nat.zero_add], fun j v hj => ?_⟩
              rw [List.getElem?_drop, List.getElem?_take] at hj
              split at hj
              · have := World.ownsRow.cells (w := E.w) ⟨q2, .inr ⟨g, cap' + 1, cur, h9, Nat.zero_le _, h11, h12, h13, h14, h15⟩⟩ (g := g) (by rw [h9]; rfl) _ v hj
                rwa [add_at, Nat.zero_add] at this
              · cases hj
      · cases h
    | _ => cases h


theorem RepL.imp_mem {α : Type} {R R' : α → List Value → Prop} : ∀ {xs : List α} {cs : List Value}, (∀ x ∈ xs, ∀ c, R x c → R' x c) → RepL R xs cs → RepL R' xs cs
  | [], _, _, e => e
  | _ :: _, _, h, ⟨c, r, e, h1, h2⟩ => ⟨c, r, e, h _ (by simp) _ h1, RepL.imp_mem (fun x hx => h x (by simp [hx])) h2⟩
theorem RepL.map {α β : Type} {R : β → List Value → Prop} (f : α → β) : ∀ {xs : List α} {cs : List Value}, RepL (fun x c => R (f x) c) xs cs → RepL R (xs.map f) cs
  | [], _, e => e
  | _ :: _, _, ⟨c, r, e, h1, h2⟩ => ⟨c, r, e, h1, RepL.map f h2⟩

/-- A slice that is read as values. -/
theorem readA_rep {E : Env} {base : Nat → Prop} (hobj : ∀ id ob, look id E.objs = some ob → ObjRep E base id ob) {v : AV} {xs : List AV} {u : Value} {sz : Nat} (h : readA E.objs v = some xs) (hr : Rep E v false [u]) (hsz : ∀ x ∈ xs, x.size = sz) :
    ∃ ad n cap cells, u = .slice ad n cap ∧ xs.length = n ∧ n ≤ 9223372036854775807 ∧ RepL (fun v cs => Rep E v false cs ∧ v.size = sz) xs cells ∧ (xs = [] ∨ ∃ b o, ad = some ⟨b, o, none⟩ ∧ ∀ j x, cells[j]? = some x → E.w.cell? ⟨b, o + j, none⟩ = some x) := by
  have dat : ∀ {t : Ty} {ys : List t.V}, xs = ys.map (AV.dat t) → RepC E.I E.w (.lst t) ys [u] → ∃ ad n cap cells, u = .slice ad n cap ∧ xs.length = n ∧ n ≤ 9223372036854775807 ∧ RepL (fun v cs => Rep E v false cs ∧ v.size = sz) xs cells ∧ (xs = [] ∨ ∃ b o, ad = some ⟨b, o, none⟩ ∧ ∀ j x, cells[j]? = some x → E.w.cell? ⟨b, o + j, none⟩ = some x) := by
    rintro t ys rfl hq
    obtain ⟨ad, n, cap, cells, h1, h2, h3, h4, h5, h6⟩ := hq
    refine ⟨ad, n, cap, cells, by simpa using h1, by rw [List.length_map]; exact h2, by omega, RepL.map _ (RepL.imp_mem (fun x hx c hc => ⟨hc, hsz _ (List.mem_map_of_mem hx)⟩) h5), ?_⟩
    rcases h6 with h6 | ⟨b, o, h6, _, h7⟩
    · exact .inl (by rw [show ys = [] from h6]; rfl)
    · exact .inr ⟨b, o, h6, h7⟩
  cases v <;> try (simp only [readA] at h; try (cases h; done))
  · rename_i t x
    cases t <;> simp only [readA] at h <;> try (cases h; done)
    simp only [Option.some.injEq] at h
    exact dat h.symm hr
  · cases h
    replace hr : [u] = [.slice none 0 0] := hr
    exact ⟨none, 0, 0, [], by simpa using hr, rfl, by omega, rfl, .inl rfl⟩
  · rename_i id
    obtain ⟨ob, hob, ⟨a1, n1, c1, hcs⟩, hk⟩ := hr
    rw [hob] at h
    cases ob with
    | vrow e sz' xs' =>
      simp only [Option.some.injEq] at h hk
      subst h
      have hu : u = E.φ id := by simpa using hk
      obtain ⟨cells, h1, h2, h3⟩ := hobj id _ hob
      have h1' : RepL (fun v cs => Rep E v false cs ∧ v.size = sz) xs' cells := RepL.imp_mem (fun x hx c hc => ⟨hc.1, hsz x hx⟩) h1
      rcases h3 with ⟨h4, ad, h3⟩ | ⟨g, cap, cur, h3, h4, h5, h6, h7, h8, h9⟩
      · have hx : xs' = [] := List.eq_nil_of_length_eq_zero h4
        subst hx
        exact ⟨ad, 0, 0, [], by rw [hu, h3], rfl, by omega, rfl, .inl rfl⟩
      · refine ⟨some ⟨g, 0, none⟩, xs'.length, cap + 1, cells, by rw [hu, h3], rfl, by simp only [maxLen] at h7; omega, h1', .inr ⟨g, 0, rfl, fun j v hj => ?_⟩⟩
        have := World.ownsRow.cells (w := E.w) ⟨h2, .inr ⟨g, cap + 1, cur, h3, Nat.zero_le _, h5, h6, h7, h8, h9⟩⟩ (g := g) (by rw [h3]; rfl) j v hj
        rwa [add_at] at this
    | frz t' xs' =>
      simp only [Option.some.injEq] at h hk
      refine dat h.symm ?_
      rw [hk]
      exact hobj id _ hob
    | _ => cases h
  · rename_i id lo hi
    obtain ⟨ob, hob, ⟨a1, n1, c1, hcs⟩, hk⟩ := hr
    rw [hob] at h
    cases ob with
    | vrow e sz' xs' =>
      simp only [Option.some.injEq] at h hk
      subst h
      obtain ⟨h1, h2, ad, n, cap, ad2, h3, h4, h4'⟩ := hk
      obtain ⟨cells, q1, q2, q3⟩ := hobj id _ hob
      have hu : u = .slice (some ad2) (hi - lo) (cap - lo) := by simpa using h4
      have hkk : ∀ (x : AV) (c : List Value), (Rep E x false c ∧ x.size = sz') → c.length = sz' := fun _ _ h => h.1.len.trans h.2
      have hsm : xs'.length ≤ 9223372036854775807 := by
        rcases q3 with ⟨h6, _⟩ | ⟨_, _, _, _, _, _, h7, h8, _⟩
        · omega
        · simp only [maxLen] at h8; omega
      refine ⟨_, hi - lo, _, (cells.take (hi * sz')).drop (lo * sz'), hu, ?_, by omega, RepL.imp_mem (fun x hx c hc => ⟨hc.1, hsz x hx⟩) (RepL.drop hkk _ (RepL.take hkk _ q1)), ?_⟩
      · simp only [List.length_drop, List.length_take]; omega
      · rcases q3 with ⟨h8, ad', h9⟩ | ⟨g, cap', cur, h9, h10, h11, h12, h13, h14, h15⟩
        · left
          apply List.eq_nil_of_length_eq_zero
          simp only [List.length_drop, List.length_take]; omega
        · have hφ := h9.symm.trans h3
          simp only [Value.slice.injEq] at hφ
          obtain ⟨rfl, rfl, rfl⟩ := hφ
          by_cases hcl : cap' + 1 = lo
          · left
            apply List.eq_nil_of_length_eq_zero
            simp only [List.length_drop, List.length_take]; omega
          · refine .inr ⟨g, lo * sz', by rw [h4' hcl]; simp only [Option.map_some, add_at, Nat.zero_add], fun j v hj => ?_⟩
            rw [List.getElem?_drop, List.getElem?_take] at hj
            split at hj
            · have := World.ownsRow.cells (w := E.w) ⟨q2, .inr ⟨g, cap' + 1, cur, h9, Nat.zero_le _, h11, h12, h13, h14, h15⟩⟩ (g := g) (by rw [h9]; rfl) _ v hj
              rwa [add_at, Nat.zero_add] at this
            · cases hj
    | _ => cases h

theorem run_append_nilsrc {P : Program} (w : World) (t ty e : TypeId) (i : TypeInfo) (ht : P.underlying t = some (.slice e)) (hi : P.info? e = some i) (ad : Option Addr) (n c : Nat) (hn : n ≤ c) (src : Option Addr) (cc : Nat) :
    (Builtin.append_ #[t, t] ty #[.slice ad n c, .slice src 0 cc]).run P w = .ok (.slice ad n c) w := by
  cases src with
  | none => cases ad <;> simp [Builtin.append_, run_underlying ht, Go.sizeOf, typeInfo, hi, Builtin.lenOf, Builtin.firstCells, loadCells, hn, storeCells]
  | some src => cases ad <;> simp [Builtin.append_, run_underlying ht, Go.sizeOf, typeInfo, hi, Builtin.lenOf, Builtin.firstCells, loadCells, loadCellsFrom, hn, storeCells]

def deadOf (old : Option Nat) (objs : Objs) : Objs := match old with | some id => (id, AObj.dead) :: objs | none => objs
theorem readL_agg {objs : Objs} {t : Ty} {v : AV} {xs : List t.V} (h : readL objs t v = some xs) : v.agg = false := by
  unfold readL at h
  cases v <;> first | rfl | (simp [toDat] at h; done) | skip
  rename_i t' x
  simp only [toDat] at h
  split at h
  · rename_i he; obtain rfl := Ty.eq_eq he; rfl
  · cases h

theorem RepL.one {I : Nat → Prop} {t : Ty} : ∀ {xs : List t.V} {cs : List Value}, RepL (RepC I w t) xs cs → ∀ u ∈ cs, u.oneCell' = true := by
  intro xs
  induction xs with
  | nil => intro cs h u hu; rw [show cs = _ from h] at hu; cases hu
  | cons y ys ih =>
    rintro cs ⟨c, r, rfl, h1, h2⟩ u hu
    rcases List.mem_append.1 hu with hu | hu
    · exact h1.one u hu
    · exact ih h2 u hu

theorem blk_own {w : World} {base : Nat → Prop} {e : TypeId} {size : Nat} {v : Value} {n : Nat} {xs : List Value} (h : OwnR w base e size v n xs) {b : Nat} (hb : blk v = some b) : v.ownBlock = some b := by
  rcases h.2 with ⟨_, ad, rfl⟩ | ⟨g, cap, cur, rfl, _⟩
  · cases ad <;> cases hb
  · exact hb

/-- Onto a slice without room. -/
theorem run_append_empty {P : Program} (w : World) (base : Nat) (t ty e : TypeId) (i : TypeInfo) (z : Value) (size bytes : Nat) (ht : P.underlying t = some (.slice e)) (hi : P.info? e = some i) (hz : i.zero = some z)
    (hsize : i.size = size) (hby : i.bytes = bytes) (hzs : z.cells.size = size) (ad : Option Addr) (a : Addr) (m c : Nat) (news : List Value) (hl : news.length = m * size) (hnews : ∀ j u, news[j]? = some u → w.cell? (a.add j) = some u)
    (hm : 0 < m) (h63 : m ≤ maxLen) (hbytes : m * bytes ≤ 140737488355328) (hbase : base ≤ w.heap.size) :
    ∃ v' w', (Builtin.append_ #[t, t] ty #[.slice ad 0 0, .slice (some a) m c]).run P w = .ok v' w' ∧ w'.ownsRow base e size v' m news ∧ w.grownBy w' none ∧ v'.ownBlock = some w.heap.size := by
  subst hsize hby
  have h63' : (m : Int) ≤ 9223372036854775807 := by simp only [maxLen] at h63; omega
  have hfit : Builtin.nextslicecap m 0 * i.bytes ≤ 281474976710656 := growslice_fits hm hbytes
  have grown : ∀ cells : Array Value, cells = news.toArray ++ Builtin.zeroCells z.cells (grownCap w m 0 e - m) →
      (w.drew.alloc (.cells cells e)).ownsRow base e i.size (.slice (some ⟨w.heap.size, 0, none⟩) m (grownCap w m 0 e)) m news ∧ w.grownBy (w.drew.alloc (.cells cells e)) none := by
    intro cells hcells
    have hge := grownCap_ge w m 0 e
    have hcm : grownCap w m 0 e ≤ maxLen := grownCap_le_maxLen w m 0 e h63
    refine ⟨⟨hl, .inr ⟨w.heap.size, _, _, rfl, hbase, heap_alloc_new w.drew _, hge, hcm, ?_, ?_⟩⟩, ⟨rfl, rfl, rfl, by simp, fun k hk _ => heap_alloc_old w.drew _ k hk⟩⟩
    · rw [hcells]
      simp only [Array.size_append, List.size_toArray, size_zeroCells, hzs, hl, ← Nat.add_mul]
      congr 1
      omega
    · rw [hcells, Array.toList_append, ← hl]
      exact List.take_left
  cases ad with
  | none =>
    have hr := run_append_nil (P := P) w t ty e i z ht hi hz a m c news hl hnews hm h63' (by omega)
    obtain ⟨g1, g2⟩ := grown _ rfl
    exact ⟨_, _, hr, g1, g2, rfl⟩
  | some b =>
    have hr := run_append_grow (P := P) w t ty e i z ht hi hz b 0 0 [] (by simp) (fun j v hj => by simp at hj) a m c news hl hnews (by omega) (by simpa using h63') (by simpa using hfit)
    simp only [Nat.zero_add, Array.empty_append] at hr
    obtain ⟨g1, g2⟩ := grown _ rfl
    exact ⟨_, _, hr, g1, g2, rfl⟩

/-- One row turns into another. -/
theorem Good.appended {w0 : Base} {w w' : World} {φ : Nat → Value} {objs : Objs} (h : Good w0 ⟨w, imm w0 w φ objs, φ, objs⟩) {nid : Nat} (hf : look nid objs = none) {v' : Value} {old row : Option Nat}
    (hold : ∀ id, old = some id → ∃ q, look id objs = some q ∧ q.live = true ∧ Evo q .dead) (hrow : ∀ k, row = some k → ∃ id, old = some id ∧ blk (φ id) = some k)
    (hgr : w.grownBy w' row) (hat : ∀ b, blk v' = some b → b = w.heap.size ∨ (row = none ∧ ∃ id, old = some id ∧ blk (φ id) = some b) ∨ row = some b) {o : AObj}
    (hobj : ∀ E' : Env, E'.w = w' → E'.φ nid = v' → EnvLe ⟨w, imm w0 w φ objs, φ, objs⟩ E' → ObjRep E' w0.has nid o) (objs' : Objs) (hobjs' : objs' = (nid, o) :: deadOf old objs) :
    Good w0 ⟨w', imm w0 w' (fun j => if j = nid then v' else φ j) objs', fun j => if j = nid then v' else φ j, objs'⟩ ∧
    EnvLe ⟨w, imm w0 w φ objs, φ, objs⟩ ⟨w', imm w0 w' (fun j => if j = nid then v' else φ j) objs', fun j => if j = nid then v' else φ j, objs'⟩ := by
  have ne : ∀ j q, look j objs = some q → j ≠ nid := by rintro j q hj rfl; rw [hf] at hj; cases hj
  have lkn : look nid objs' = some o := by subst hobjs'; simp [look_cons]
  have lk : ∀ j, j ≠ nid → old ≠ some j → look j objs' = look j objs := by
    intro j h1 h2
    subst hobjs'
    cases old with
    | none => simp [look_cons, h1, deadOf]
    | some id => simp only [look_cons, if_neg h1, deadOf]; rw [if_neg (by rintro rfl; exact h2 rfl)]
  have lko : ∀ j, j ≠ nid → old = some j → look j objs' = some .dead := by
    rintro j h1 rfl
    subst hobjs'
    simp [look_cons, h1, deadOf]
  have back : ∀ j q, look j objs' = some q → q.live = true → j ≠ nid → look j objs = some q ∧ old ≠ some j := by
    intro j q hj hl hne
    by_cases ho : old = some j
    · rw [lko j hne ho] at hj; cases hj; cases hl
    · rw [lk j hne ho] at hj; exact ⟨hj, ho⟩
  -- another live object's block is not the old row's
  have oth : ∀ j q, look j objs = some q → q.live = true → old ≠ some j → ∀ b, blk (φ j) = some b → ∀ id, old = some id → blk (φ id) ≠ some b := by
    intro j q hj hl ho b hbj id hc hv
    obtain ⟨q', h2, h2l, _⟩ := hold id hc
    have hne : j ≠ id := by rintro rfl; exact ho hc
    rcases h.dis j id q _ hj h2 hne hl h2l with h3 | h3
    · rw [show blk (φ j) = none from h3] at hbj; cases hbj
    · exact h3 (show blk (φ j) = blk (φ id) by rw [hbj, hv])
  have othr : ∀ j q, look j objs = some q → q.live = true → old ≠ some j → ∀ b, blk (φ j) = some b → row ≠ some b := by
    intro j q hj hl ho b hbj hr
    obtain ⟨id, hc, hv⟩ := hrow b hr
    exact oth j q hj hl ho b hbj id hc hv
  have immold : ∀ b, imm w0 w φ objs b → ∀ id, old = some id → blk (φ id) ≠ some b := by
    intro b hib id hc hv
    obtain ⟨q', h2, h2l, _⟩ := hold id hc
    exact hib.2.2 id _ h2 h2l hv
  have hI : ∀ b, imm w0 w φ objs b → imm w0 w' (fun j => if j = nid then v' else φ j) objs' b ∧ row ≠ some b := by
    intro b hib
    have hvb : row ≠ some b := by
      intro hr
      obtain ⟨id, hc, hv⟩ := hrow b hr
      exact immold b hib id hc hv
    refine ⟨⟨Nat.lt_of_lt_of_le hib.1 hgr.size, hib.2.1, fun j q hj hl he => ?_⟩, hvb⟩
    by_cases hjn : j = nid
    · subst hjn
      simp only [if_true] at he
      rcases hat b he with h1 | ⟨_, id, h1, h2⟩ | h1
      · exact Nat.lt_irrefl _ (h1 ▸ hib.1)
      · exact immold b hib id h1 h2
      · exact hvb h1
    · simp only [if_neg hjn] at he
      exact hib.2.2 j q (back j q hj hl hjn).1 hl he
  have hheap : ∀ b, b < w.heap.size → row ≠ some b → w'.heap[b]? = w.heap[b]? := fun b h1 h2 => hgr.block b h1 (fun e => h2 e.symm)
  have hle : EnvLe ⟨w, imm w0 w φ objs, φ, objs⟩ ⟨w', imm w0 w' (fun j => if j = nid then v' else φ j) objs', fun j => if j = nid then v' else φ j, objs'⟩ := by
    refine ⟨fun b hib => (hI b hib).1, fun b hib => hheap b hib.1 (hI b hib).2, fun j q hj => ?_⟩
    have hjn := ne j q hj
    refine ⟨by simp [hjn], ?_⟩
    by_cases ho : old = some j
    · obtain ⟨q', h2, _, h2e⟩ := hold j ho
      have : q = q' := by have := hj.symm.trans h2; cases this; rfl
      subst this
      exact ⟨.dead, lko j hjn ho, h2e⟩
    · exact ⟨q, (lk j hjn ho).trans hj, by cases q <;> simp [Evo]⟩
  refine ⟨Good.next h hle rfl ?_ ?_ ?_, hle⟩
  · refine h.below.next hgr.os hgr.tape hgr.output hgr.size (fun k hk hno => ?_)
    refine hgr.block k (Nat.lt_of_lt_of_le hk h.below.size) (fun e => ?_)
    obtain ⟨id, hc, hv⟩ := hrow k e.symm
    obtain ⟨q', h2, h2l, _⟩ := hold id hc
    exact (h.blk_lt h2 h2l hv).1.elim (fun h3 => absurd hk (Nat.not_lt.2 h3)) hno
  · intro j q hj
    by_cases hjn : j = nid
    · subst hjn
      have : q = o := by have := hj.symm.trans lkn; cases this; rfl
      subst this
      exact .inr (hobj _ rfl (by simp) hle)
    · by_cases ho : old = some j
      · have : q = .dead := by have := hj.symm.trans (lko j hjn ho); cases this; rfl
        subst this
        exact .inr trivial
      · have hj' : look j objs = some q := (lk j hjn ho).symm.trans hj
        exact .inl ⟨hj', by simp [hjn], fun hl b hbj => hheap b (h.blk_lt hj' hl hbj).2 (othr j q hj' hl ho b hbj)⟩
  · have new : ∀ j q, look j objs' = some q → q.live = true → j ≠ nid → blk (φ j) = none ∨ blk (φ j) ≠ blk v' := by
      intro j q hj hl hjn
      obtain ⟨hj', ho⟩ := back j q hj hl hjn
      cases hbk : blk (φ j) with
      | none => exact .inl rfl
      | some b =>
        refine .inr fun he => ?_
        rcases hat b he.symm with h1 | ⟨_, id, h1, h2⟩ | h1
        · exact Nat.lt_irrefl _ (h1 ▸ (h.blk_lt hj' hl hbk).2)
        · exact oth j q hj' hl ho b hbk id h1 h2
        · exact othr j q hj' hl ho b hbk h1
    intro i j q q' hi hj hij hl hl'
    by_cases hin : i = nid
    · subst hin
      have hjn : j ≠ i := Ne.symm hij
      simp only [if_true, if_neg hjn]
      rcases new j q' hj hl' hjn with h1 | h1
      · by_cases hv : blk v' = none
        · exact .inl hv
        · refine .inr ?_
          rw [h1]; exact hv
      · exact .inr (Ne.symm h1)
    · by_cases hjn : j = nid
      · subst hjn
        simp only [if_neg hin, if_true]
        exact new i q hi hl hin
      · simp only [if_neg hin, if_neg hjn]
        exact h.dis i j q q' (back i q hi hl hin).1 (back j q' hj hl' hjn).1 hij hl hl'


theorem readA_cell {objs : Objs} {v : AV} {xs : List AV} (h : readA objs v = some xs) : v.agg = false ∧ v.ok = true := by
  cases v <;> first | (simp [readA] at h; done) | exact ⟨rfl, rfl⟩ | skip
  rename_i t x
  cases t <;> first | (simp [readA] at h; done) | exact ⟨rfl, rfl⟩

/-- A slice that may be appended to: nil, or one that owns its row. -/
def OwnN (w : World) (ow : Nat → Prop) (e : TypeId) (size : Nat) (v : Value) (n : Nat) (xs : List Value) : Prop := (v = .slice none 0 0 ∧ n = 0 ∧ xs = []) ∨ OwnR w ow e size v n xs

/-- What an append comes to. -/
def Appd (w : World) (ow : Nat → Prop) (e : TypeId) (size : Nat) (sv : Value) (n : Nat) (cells : List Value) (v' : Value) (w' : World) : Prop :=
  ∃ row, OwnR w' ow e size v' n cells ∧ w.grownBy w' row ∧ (∀ k, row = some k → blk sv = some k) ∧ (∀ b, blk v' = some b → b = w.heap.size ∨ (row = none ∧ blk sv = some b) ∨ row = some b)

theorem appd_grown {P : Program} {w : World} {ow : Nat → Prop} (how : ∀ b, w.heap.size ≤ b → ow b) {e : TypeId} {i : TypeInfo} {z : Value} (hi : P.info? e = some i) (hzs : z.cells.size = i.size) {sv : Value} {n old : Nat} {cells : List Value} (hl : cells.length = n * i.size) (h63 : n ≤ maxLen) (hn : 0 < n) :
    Appd w ow e i.size sv n cells (.slice (some ⟨w.heap.size, 0, none⟩) n (grownCap w n old e)) (w.drew.alloc (.cells (cells.toArray ++ Builtin.zeroCells z.cells (grownCap w n old e - n)) e)) := by
  have hge := grownCap_ge w n old e
  have hcm : grownCap w n old e ≤ maxLen := grownCap_le_maxLen w n old e h63
  refine ⟨none, OwnR.of ⟨hl, .inr ⟨w.heap.size, _, _, rfl, Nat.zero_le _, heap_alloc_new w.drew _, hge, hcm, ?_, ?_⟩⟩ (by simp) (fun g hg => by cases hg; exact how _ (Nat.le_refl _)), ⟨rfl, rfl, rfl, by simp, fun k hk _ => heap_alloc_old w.drew _ k hk⟩, (fun k h => by cases h), fun b hb => .inl (blk_slice b hb)⟩
  · simp only [Array.size_append, List.size_toArray, size_zeroCells, hzs, hl, ← Nat.add_mul]
    congr 1
    omega
  · rw [Array.toList_append, ← hl]
    exact List.take_left

theorem append_machine {P : Program} {w : World} {t ty e : TypeId} {i : TypeInfo} {z : Value} (ht : P.underlying t = some (.slice e)) (hi : P.info? e = some i) (hz : i.zero = some z) (hzs : z.cells.size = i.size) (hpos : 0 < i.size)
    {ow : Nat → Prop} (how : ∀ b, w.heap.size ≤ b → ow b) {sv : Value} {n : Nat} {cells : List Value} (hs : OwnN w ow e i.size sv n cells) {ad : Option Addr} {m c : Nat} {news : List Value} (hl : news.length = m * i.size) (h1 : ∀ u ∈ news, u.oneCell' = true)
    (hnews : m = 0 ∨ ∃ b o, ad = some ⟨b, o, none⟩ ∧ ∀ j x, news[j]? = some x → w.cell? ⟨b, o + j, none⟩ = some x) (hnn : sv = .slice none 0 0 → 0 < m) (h63 : n + m ≤ maxLen) (hbytes : (n + m) * i.bytes ≤ 140737488355328) :
    ∃ v' w', (Builtin.append_ #[t, t] ty #[sv, .slice ad m c]).run P w = .ok v' w' ∧ Appd w ow e i.size sv (n + m) (cells ++ news) v' w' := by
  have h63' : (n : Int) + (m : Int) ≤ 9223372036854775807 := by simp only [maxLen] at h63; omega
  rcases hs with ⟨rfl, rfl, rfl⟩ | hown
  · have hm := hnn rfl
    rcases hnews with h0 | ⟨b, oo, rfl, hcell⟩
    · omega
    have hr := run_append_nil (P := P) w t ty e i z ht hi hz ⟨b, oo, none⟩ m c news hl (fun j u hj => by rw [add_at]; exact hcell j u hj) hm (by omega) (by rw [Nat.zero_add] at hbytes; omega)
    refine ⟨_, _, hr, ?_⟩
    have := appd_grown (P := P) how hi hzs (sv := .slice none 0 0) (old := 0) (cells := news) hl (by omega) hm
    simpa using this
  · rcases hnews with h0 | ⟨b, oo, rfl, hcell⟩
    · subst h0
      have hn : news = [] := List.eq_nil_of_length_eq_zero (by simpa using hl)
      subst hn
      have hslv : ∃ ad1 n1 c1, sv = .slice ad1 n1 c1 ∧ n1 ≤ c1 := by
        rcases hown.2 with ⟨_, ad, h⟩ | ⟨g, cap, cur, h, _, _, h5, _⟩
        · exact ⟨_, _, _, h, Nat.le_refl _⟩
        · exact ⟨_, _, _, h, h5⟩
      obtain ⟨ad1, n1, c1, hse, hnc⟩ := hslv
      refine ⟨sv, w, ?_, none, by simpa using hown, ⟨rfl, rfl, rfl, Nat.le_refl _, fun _ _ _ => rfl⟩, (fun k h => by cases h), fun b hb => .inr (.inl ⟨rfl, hb⟩)⟩
      rw [hse]
      exact run_append_nilsrc w t ty e i ht hi ad1 n1 c1 hnc ad c
    · by_cases hm0 : m = 0
      · subst hm0
        have hn : news = [] := List.eq_nil_of_length_eq_zero (by simpa using hl)
        subst hn
        have hslv : ∃ ad1 n1 c1, sv = .slice ad1 n1 c1 ∧ n1 ≤ c1 := by
          rcases hown.2 with ⟨_, ad, h⟩ | ⟨g, cap, cur, h, _, _, h5, _⟩
          · exact ⟨_, _, _, h, Nat.le_refl _⟩
          · exact ⟨_, _, _, h, h5⟩
        obtain ⟨ad1, n1, c1, hse, hnc⟩ := hslv
        refine ⟨sv, w, ?_, none, by simpa using hown, ⟨rfl, rfl, rfl, Nat.le_refl _, fun _ _ _ => rfl⟩, (fun k h => by cases h), fun b hb => .inr (.inl ⟨rfl, hb⟩)⟩
        rw [hse]
        exact run_append_nilsrc w t ty e i ht hi ad1 n1 c1 hnc _ c
      · have hmp : 0 < m := by omega
        obtain ⟨hcl, hown2⟩ := hown
        rcases hown2 with ⟨hx0, ad1, hse⟩ | ⟨g, cap, cur, hse, h4, h5, h6, h7, h8, h9⟩
        · subst hx0
          have hc0 : cells = [] := List.eq_nil_of_length_eq_zero (by simpa using hcl)
          subst hc0
          have hr := run_append_grow (P := P) w t ty e i z ht hi hz ad1 0 0 [] (by simp) (fun j v hj => by simp at hj) ⟨b, oo, none⟩ m c news hl (fun j u hj => by rw [add_at]; exact hcell j u hj) (by omega) (by omega) (by
            rw [Nat.zero_add] at hbytes
            simpa using growslice_fits hmp hbytes)
          simp only [Nat.zero_add, Array.empty_append] at hr
          refine ⟨_, _, by rw [hse]; exact hr, ?_⟩
          have := appd_grown (P := P) how hi hzs (sv := sv) (old := 0) (cells := news) hl (by omega) hmp
          simpa using this
        · have hown' : w.ownsRow 0 e i.size sv n cells := ⟨hcl, .inr ⟨g, cap + 1, cur, hse, Nat.zero_le _, h5, h6, h7, h8, h9⟩⟩
          obtain ⟨v', w', k1, k2, k3, _, k5⟩ := run_append_own_at (P := P) w 0 t ty e i z i.size i.bytes ht hi hz rfl rfl hzs hpos sv n cells hown' ⟨b, oo, none⟩ m c news hl
            (fun j u hj => by rw [add_at]; exact hcell j u hj) h1 (by simp only [maxLen] at *; omega) hbytes (Nat.zero_le _)
          have hob : sv.ownBlock = some g := by rw [hse]; rfl
          have hnew : ∀ g', v'.ownBlock = some g' → ow g' := fun g' hg' => by
            rcases k5 with k5 | k5
            · rw [k5, hob] at hg'; cases hg'; exact h4
            · rw [k5] at hg'; cases hg'; exact how _ (Nat.le_refl _)
          have hnz : v' ≠ .slice none 0 0 := by
            rintro rfl
            rcases k5 with k5 | k5
            · rw [hob] at k5; cases k5
            · cases k5
          have hR := OwnR.of k2 hnz hnew
          refine ⟨v', w', k1, sv.ownBlock, hR, k3, ?_, fun b hb => ?_⟩
          · intro k hk; rw [hse] at hk ⊢; exact hk
          · have := blk_own hR hb
            rcases k5 with k5 | k5
            · exact .inr (.inr (k5.symm.trans this))
            · rw [k5] at this; exact .inl (Option.some.inj this).symm

theorem run_append_nil_nosrc {P : Program} (w : World) (t u ty e : TypeId) (i : TypeInfo) (ht : P.underlying t = some (.slice e)) (hu : P.underlying u = some .string) (hi : P.info? e = some i) (ad : Option Addr) (n c : Nat) (hn : n ≤ c) (s : ByteArray) (hs : s.size = 0) :
    (Builtin.append_ #[t, u] ty #[.slice ad n c, .string s]).run P w = .ok (.slice ad n c) w := by
  have hx : (Array.map (fun b : UInt8 => Value.int IntKind.u8 (b.toNat : Int)) s.data) = #[] := by
    apply Array.eq_empty_of_size_eq_zero
    rw [Array.size_map]; exact hs
  cases ad <;> simp [Builtin.append_, run_underlying ht, run_underlying hu, Go.sizeOf, typeInfo, hi, Builtin.lenOf, hs, Builtin.firstCells, hn, storeCells, hx]

/-- A string's bytes onto bytes. -/
theorem append_machine_str {P : Program} {w : World} {t u ty e : TypeId} {i : TypeInfo} (ht : P.underlying t = some (.slice e)) (hu : P.underlying u = some .string) (hi : P.info? e = some i) (hz : i.zero = some (.int .u8 0)) (hs1 : i.size = 1) (hb1 : i.bytes = 1)
    {ow : Nat → Prop} (how : ∀ b, w.heap.size ≤ b → ow b) {sv : Value} {n : Nat} {cells : List Value} (hs : OwnN w ow e 1 sv n cells) {s : ByteArray} (hnn : sv = .slice none 0 0 → 0 < s.size) (h63 : n + s.size ≤ maxLen) (hbytes : n + s.size ≤ 140737488355328) :
    ∃ v' w', (Builtin.append_ #[t, u] ty #[sv, .string s]).run P w = .ok v' w' ∧ Appd w ow e 1 sv (n + s.size) (cells ++ Lib.strCells s) v' w' := by
  have h63' : (n : Int) + (s.size : Int) ≤ 9223372036854775807 := by simp only [maxLen] at h63; omega
  have hsl : (Lib.strCells s).length = s.size * i.size := by rw [Lib.strCells_length, hs1, Nat.mul_one]
  have hzs : (Value.int .u8 0).cells.size = i.size := by rw [hs1]; rfl
  rcases hs with ⟨rfl, rfl, rfl⟩ | hown
  · have hm := hnn rfl
    have hr := run_append_nil_string (P := P) w t u ty e i _ ht hu hi hz s hm (by omega) (by rw [hb1]; omega)
    refine ⟨_, _, hr, ?_⟩
    have := appd_grown (P := P) how hi hzs (sv := .slice none 0 0) (old := 0) (cells := Lib.strCells s) hsl (by omega) hm
    have e1 : (Lib.strCells s).toArray = s.data.map (fun b => Value.int .u8 b.toNat) := by apply Array.ext'; simp [Lib.strCells]
    rw [e1, hs1] at this
    simpa using this
  · by_cases hm0 : s.size = 0
    · have hn : Lib.strCells s = [] := List.eq_nil_of_length_eq_zero (by rw [Lib.strCells_length, hm0])
      have hslv : ∃ ad1 n1 c1, sv = .slice ad1 n1 c1 ∧ n1 ≤ c1 := by
        rcases hown.2 with ⟨_, ad, h⟩ | ⟨g, cap, cur, h, _, _, h5, _⟩
        · exact ⟨_, _, _, h, Nat.le_refl _⟩
        · exact ⟨_, _, _, h, h5⟩
      obtain ⟨ad1, n1, c1, hse, hnc⟩ := hslv
      refine ⟨sv, w, ?_, none, by rw [hn, hm0]; simpa using hown, ⟨rfl, rfl, rfl, Nat.le_refl _, fun _ _ _ => rfl⟩, (fun k h => by cases h), fun b hb => .inr (.inl ⟨rfl, hb⟩)⟩
      rw [hse]
      exact run_append_nil_nosrc w t u ty e i ht hu hi ad1 n1 c1 hnc s hm0
    · have hmp : 0 < s.size := by omega
      obtain ⟨hcl, hown2⟩ := hown
      rw [Nat.mul_one] at hcl
      rcases hown2 with ⟨hx0, ad1, hse⟩ | ⟨g, cap, cur, hse, h4, h5, h6, h7, h8, h9⟩
      · subst hx0
        have hc0 : cells = [] := List.eq_nil_of_length_eq_zero hcl
        subst hc0
        have hr := Lib.run_append_grow_string (P := P) w t u ty e i _ ht hu hi hz ad1 0 0 [] (by simp) (fun j v hj => by simp at hj) s (by omega) (by omega) (by rw [hb1]; exact growslice_fits (by omega) (by omega))
        simp only [Nat.zero_add, Array.empty_append] at hr
        refine ⟨_, _, by rw [hse]; exact hr, ?_⟩
        have := appd_grown (P := P) how hi hzs (sv := sv) (old := 0) (cells := Lib.strCells s) hsl (by omega) hmp
        rw [hs1] at this
        simpa using this
      · rw [Nat.mul_one] at h8 h9
        by_cases hroom : n + s.size ≤ cap + 1
        · have hr := Lib.run_append_room_string (P := P) w t u ty e i ht hu hi hs1 g n (cap + 1) cur h5 s hroom (by omega)
          refine ⟨_, _, by rw [hse]; exact hr, some g, ⟨by rw [List.length_append, hcl, Lib.strCells_length, Nat.mul_one], .inr ⟨g, cap, _, rfl, h4, setRow_heap _ _ _ _ _ _ h5, hroom, h7, ?_, ?_⟩⟩, ⟨rfl, rfl, rfl, by simp, fun k _ hk => setRow_other _ _ _ _ (fun h => hk (by rw [h]))⟩, (fun k hk => by cases hk; rw [hse]; rfl), fun b hb => ?_⟩
          · simp only [List.size_toArray, List.length_append, List.length_take, List.length_drop, Array.length_toList, Lib.strCells_length]; omega
          · rw [h9, Nat.mul_one, show n + s.size = (cells ++ Lib.strCells s).length from by rw [List.length_append, hcl, Lib.strCells_length]]
            exact List.take_left
          · exact .inr (.inr (by simpa [blk] using hb))
        · have hcells : ∀ j v, cells[j]? = some v → w.cell? ((⟨g, 0, none⟩ : Addr).add j) = some v := by
            intro j v hj
            exact World.ownsRow.cells (w := w) (base := 0) (e := e) (size := 1) (v := sv) (n := n) (xs := cells) ⟨by rw [hcl, Nat.mul_one], .inr ⟨g, cap + 1, cur, hse, Nat.zero_le _, h5, h6, h7, by rw [h8, Nat.mul_one], by rw [Nat.mul_one]; exact h9⟩⟩ (g := g) (by rw [hse]; rfl) j v hj
          have hfit : Builtin.nextslicecap (n + s.size) (cap + 1) * 1 ≤ 281474976710656 := growslice_fits (by omega) (by omega)
          have hr := Lib.run_append_grow_string (P := P) w t u ty e i _ ht hu hi hz ⟨g, 0, none⟩ n (cap + 1) cells (by rw [hs1, hcl, Nat.mul_one]) hcells s (by omega) (by omega) (by rw [hb1]; exact hfit)
          refine ⟨_, _, by rw [hse]; exact hr, ?_⟩
          have := appd_grown (P := P) how hi hzs (sv := sv) (old := cap + 1) (n := n + s.size) (cells := cells ++ Lib.strCells s) (by rw [List.length_append, hcl, hsl, hs1]; omega) (by omega) (by omega)
          rw [hs1] at this
          simpa using this

/-- What an append leaves behind. -/
theorem Outc.append {φ : Nat → Value} {w' : World} {v' : Value} (hr : (execOp a.eval o).run C.P w = .ok (.value v') w') (hg : Good C.w0 ⟨w, imm C.w0 w φ σ.objs, φ, σ.objs⟩) (hfo : FrOk ⟨w, imm C.w0 w φ σ.objs, φ, σ.objs⟩ σ.fr a)
    (hh : HidOk C.w0.start ⟨w, imm C.w0 w φ σ.objs, φ, σ.objs⟩ σ.hid C.as σ.mks a.defers) (hN : a.tmps.size = C.N ∧ True) (hd : ∀ t, o.dst = some t → t < C.N) {nid : Nat} (hf : look nid σ.objs = none) {old : Option Nat} {ob : AObj} {sv : Value}
    {el : TypeId} {size n : Nat} {cells : List Value} (happ : Appd w C.w0.has el size sv n cells v' w')
    (hold : ∀ id, old = some id → blk (φ id) = blk sv ∧ ∃ q, look id σ.objs = some q ∧ q.live = true ∧ Evo q .dead) (hnone : old = none → blk sv = none)
    (hob : ∀ E' : Env, E'.w = w' → E'.φ nid = v' → EnvLe ⟨w, imm C.w0 w φ σ.objs, φ, σ.objs⟩ E' → ObjRep E' C.w0.has nid ob) (hev : e.v = .sl nid) (hupd : e.upd ++ σ.objs = (nid, ob) :: deadOf old σ.objs)
    (hsl : ∀ E' : Env, E'.φ nid = v' → look nid E'.objs = some ob → SlOk E' nid [v']) : Outc C σ o e a w := by
  obtain ⟨row, hown', hgr, hrow, hat⟩ := happ
  have main := Good.appended hg hf (v' := v') (w' := w') (old := old) (row := row) (fun id h => (hold id h).2)
    (fun k hk => by
      have := hrow k hk
      cases hc : old with
      | none => rw [hnone hc] at this; cases this
      | some id => exact ⟨id, rfl, (hold id hc).1.trans this⟩) hgr
    (fun b hb => by
      rcases hat b hb with h | ⟨h1, h2⟩ | h
      · exact .inl h
      · cases hc : old with
        | none => rw [hnone hc] at h2; cases h2
        | some id => exact .inr (.inl ⟨h1, id, rfl, (hold id hc).1.trans h2⟩)
      · exact .inr (.inr h))
    (o := ob) hob (e.upd ++ σ.objs) hupd
  refine ⟨_, v', w', hr, .inl rfl, ?_⟩
  refine Rel.next (φ := φ) hg hfo hh hN hd main.2 main.1 ?_
  rw [hev]
  exact Slot.ofCell (hsl _ (by simp) (by rw [hupd]; simp [look_cons])) rfl

/-- Onto a row of data. -/
theorem sound_appTyped {s : Operand} {t : TypeId} {sv : AV} {fn d : Nat} {el : TypeId} {bytes : Nat} {ty : Ty} {ys : List ty.V} {rd : List Nat} (hR : Rel C.w0 C.N C.as σ a w) (hd : ∀ t, o.dst = some t → t < C.N) (hs : ev C.T t σ.fr s = some sv)
    (he : appTyped fn d σ.objs el bytes ty sv ys rd = some e) (hcs : ∀ q ∈ e.conds, q.holds)
    (hmach : ∀ φ, Good C.w0 ⟨w, imm C.w0 w φ σ.objs, φ, σ.objs⟩ → FrOk ⟨w, imm C.w0 w φ σ.objs, φ, σ.objs⟩ σ.fr a → ∃ news : List Value, RepL (RepC (imm C.w0 w φ σ.objs) w ty) ys news ∧ (a.eval s = .slice none 0 0 → ys = [] → (execOp a.eval o).run C.P w = .ok (.value (.slice none 0 0)) w) ∧
      ∀ n cells, OwnN w C.w0.has el ty.size (a.eval s) n cells → (a.eval s = .slice none 0 0 → 0 < ys.length) → (n + ys.length) * bytes ≤ 140737488355328 → ∃ v' w', (execOp a.eval o).run C.P w = .ok (.value v') w' ∧ Appd w C.w0.has el ty.size (a.eval s) (n + ys.length) (cells ++ news) v' w') : Outc C σ o e a w := by
  obtain ⟨⟨φ, hg, hfo, hh⟩, hN⟩ := hR
  obtain ⟨news, hrn, hm0, hm1⟩ := hmach φ hg hfo
  unfold appTyped at he
  split at he <;> try (cases he; done)
  rename_i hk
  obtain ⟨hfr, hpos, hby⟩ := hk
  have hf : look (newId fn d) σ.objs = none := by
    unfold fresh at hfr
    split at hfr
    · assumption
    · cases hfr
  -- onto a row, whole or its beginning
  have row : ∀ {id : Nat} {xs0 xs : List ty.V} {cells : List Value}, look id σ.objs = some (.row el ty xs0) → blk (φ id) = blk (a.eval s) → RepL (RepC (imm C.w0 w φ σ.objs) w ty) xs cells → OwnR w C.w0.has el ty.size (a.eval s) xs.length cells →
      FitsRow (xs.length + ys.length) bytes → e.v = .sl (newId fn d) → e.upd = [(newId fn d, .row el ty (appL xs ys)), (id, .dead)] → Outc C σ o e a w := by
    intro id xs0 xs cells hl hb hrx hown hfit hev hupd
    obtain ⟨v', w', h1, h2⟩ := hm1 xs.length cells (.inr hown) (fun h => by
      rcases hown.2 with ⟨_, ad, h'⟩ | ⟨g, cap, cur, h', _⟩
      · rw [h] at h'; cases h'
      · rw [h] at h'; cases h') hfit
    have h2' := h2
    obtain ⟨_, hown', _⟩ := h2'
    have hslv' : ∃ ad n c, v' = .slice ad n c := by
      rcases hown'.2 with ⟨_, ad, h⟩ | ⟨g, cap, cur, h, _⟩
      · exact ⟨_, _, _, h⟩
      · exact ⟨_, _, _, h⟩
    refine Outc.append h1 hg hfo hh hN hd hf (old := some id) (ob := .row el ty (appL xs ys)) h2 (fun j h => by cases h; exact ⟨hb, _, hl, rfl, trivial⟩) (fun h => by cases h) ?_ hev (by rw [hupd]; rfl) (fun E' hφ hl' => ?_)
    · intro E' hw hφ hle
      refine ⟨cells ++ news, RepL.append (RepL.imp (fun _ _ => RepC.mono hle.I hle.heap) hrx) (RepL.imp (fun _ _ => RepC.mono hle.I hle.heap) hrn), ?_⟩
      rw [hw, hφ, show (appL xs ys).length = xs.length + ys.length from by simp [appL]]
      exact hown'
    · obtain ⟨ad', n', c', hv'⟩ := hslv'
      exact ⟨_, hl', ⟨ad', n', c', by rw [hv']⟩, by rw [hφ]⟩
  split at he <;> try (cases he; done)
  · -- nil
    have hse : a.eval s = .slice none 0 0 := by
      have h : [a.eval s] = [Value.slice none 0 0] := (ev_slot hfo hs).cell rfl (by simp) (by simp)
      simpa using h
    split at he
    · simp only [Option.some.injEq] at he
      subst he
      refine Outc.value (v := .slice none 0 0) ⟨⟨φ, hg, hfo, hh⟩, hN⟩ hd rfl (hm0 hse rfl) (fun _ _ _ => Slot.ofCell (show [_] = [_] from rfl) rfl)
    · rename_i y r
      simp only [Option.some.injEq] at he
      subst he
      have hfit : FitsRow (y :: r).length bytes := hcs (.fits (y :: r).length bytes) (by simp)
      obtain ⟨v', w', h1, h2⟩ := hm1 0 [] (.inl ⟨hse, rfl, rfl⟩) (fun _ => by simp) (by rw [Nat.zero_add]; exact hfit)
      have h2' := h2
      obtain ⟨_, hown', _⟩ := h2'
      have hslv' : ∃ ad n c, v' = .slice ad n c := by
        rcases hown'.2 with ⟨_, ad, h⟩ | ⟨g, cap, cur, h, _⟩
        · exact ⟨_, _, _, h⟩
        · exact ⟨_, _, _, h⟩
      refine Outc.append h1 hg hfo hh hN hd hf (old := none) (ob := .row el ty (y :: r)) h2 (fun j h => by cases h) (fun _ => by rw [hse]; rfl) ?_ rfl rfl (fun E' hφ hl' => ?_)
      · intro E' hw hφ hle
        refine ⟨news, RepL.imp (fun _ _ => RepC.mono hle.I hle.heap) hrn, ?_⟩
        rw [hw, hφ]
        simpa using hown'
      · obtain ⟨ad', n', c', hv'⟩ := hslv'
        exact ⟨_, hl', ⟨ad', n', c', by rw [hv']⟩, by rw [hφ]⟩
  · -- a row
    rename_i id
    split at he <;> try (cases he; done)
    rename_i e' t' xs hl
    split at he <;> try (cases he; done)
    rename_i hk
    obtain ⟨h1, rfl⟩ := hk
    obtain rfl := Ty.eq_eq h1
    simp only [Option.some.injEq] at he
    subst he
    obtain ⟨ob, hob, hsh, hq⟩ := (ev_slot hfo hs).cell rfl (by simp) (by simp)
    have : ob = .row e' t' xs := by have := hob.symm.trans hl; cases this; rfl
    subst this
    have hse : a.eval s = φ id := by simpa using hq
    obtain ⟨cells, q1, q2⟩ := hg.obj id _ hl
    exact row hl (by rw [hse]) q1 (by rw [hse]; exact q2) (hcs (.fits (xs.length + ys.length) bytes) (by simp)) rfl rfl
  · -- a row's beginning
    rename_i id hi
    split at he <;> try (cases he; done)
    rename_i e' t' xs hl
    split at he <;> try (cases he; done)
    rename_i hk
    obtain ⟨h1, rfl⟩ := hk
    obtain rfl := Ty.eq_eq h1
    simp only [Option.some.injEq] at he
    subst he
    obtain ⟨ob, hob, hsh, hq⟩ := (ev_slot hfo hs).cell rfl (by simp) (by simp)
    have : ob = .row e' t' xs := by have := hob.symm.trans hl; cases this; rfl
    subst this
    obtain ⟨_, hhi, ad, n, cap, ad2, q0, q00, q01⟩ := hq
    have hse : a.eval s = .slice (some ad2) hi cap := by simpa using q00
    obtain ⟨cells, q1, q2, q3⟩ := hg.obj id _ hl
    have hlen : (xs.take hi).length = hi := by simp only [List.length_take]; omega
    have hrt := RepL.take (k := t'.size) (fun _ _ h => RepC.len h) hi q1
    have hfit : FitsRow ((xs.take hi).length + ys.length) bytes := by rw [hlen]; exact hcs (.fits (hi + ys.length) bytes) (by simp)
    rcases q3 with ⟨h8, ad', h9⟩ | ⟨g, cap', cur, h9, h10, h11, h12, h13, h14, h15⟩
    · have hφ := h9.symm.trans q0
      simp only [Value.slice.injEq] at hφ
      obtain ⟨rfl, rfl, rfl⟩ := hφ
      have h0' : hi = 0 := by omega
      subst h0'
      refine row (xs := xs.take 0) hl (by rw [hse, show φ id = _ from h9]; rfl) hrt ?_ hfit rfl rfl
      rw [hse]
      exact ⟨by simp, .inl ⟨by simp, ad2, rfl⟩⟩
    · have hφ := h9.symm.trans q0
      simp only [Value.slice.injEq] at hφ
      obtain ⟨rfl, rfl, rfl⟩ := hφ
      have hse' : a.eval s = .slice (some ⟨g, 0, none⟩) hi (cap' + 1) := by rw [hse, q01 (by omega)]; simp [add_at]
      refine row (xs := xs.take hi) hl (by rw [hse', show φ id = _ from h9]; rfl) hrt ?_ hfit rfl rfl
      rw [hse', hlen]
      have hle : hi * t'.size ≤ xs.length * t'.size := Nat.mul_le_mul_right _ hhi
      refine ⟨by rw [List.length_take, q2]; omega, .inr ⟨g, cap', cur, rfl, h10, h11, by omega, h13, h14, ?_⟩⟩
      rw [← h15, List.take_take]
      congr 1
      omega

theorem RepA.one {E : Env} {sz : Nat} : ∀ {xs : List AV} {cs : List Value}, RepL (fun v cs => Rep E v false cs ∧ v.size = sz) xs cs → ∀ u ∈ cs, u.oneCell' = true := by
  intro xs
  induction xs with
  | nil => intro cs h u hu; rw [show cs = _ from h] at hu; cases hu
  | cons y ys ih =>
    rintro cs ⟨c, r, rfl, h1, h2⟩ u hu
    rcases List.mem_append.1 hu with hu | hu
    · exact h1.1.one u hu
    · exact ih h2 u hu

theorem sound_append {t : TypeId} {s x : Operand} (hop : o.op = .call { callee := .builtin .append, args := #[s, x], argTypes := #[t, t] }) (hT : TblOk C.P C.T) (hR : Rel C.w0 C.N C.as σ a w) (hd : ∀ t, o.dst = some t → t < C.N)
    {fn d : Nat} {sv xv : AV} (hs : ev C.T t σ.fr s = some sv) (hx : ev C.T t σ.fr x = some xv) (he : appendEff C.T fn d σ.objs t sv xv = some e) (hcs : ∀ q ∈ e.conds, q.holds) : Outc C σ o e a w := by
  unfold appendEff at he
  split at he <;> try (cases he; done)
  rename_i el _ _ _ _ _ hti
  split at he <;> try (cases he; done)
  rename_i te hte
  obtain ⟨it, hit, hsz, hbyt, z, hzz, hzs, hzr⟩ := (hT el te hte).info
  have hu := slice_elem hT hti rfl
  have hzs' : z.cells.size = it.size := by rw [hzs, hsz]
  have hex : ∀ v' w', (Builtin.append_ #[t, t] o.type #[a.eval s, a.eval x]).run C.P w = .ok v' w' → (execOp a.eval o).run C.P w = .ok (.value v') w' := by
    intro v' w' hr
    simp only [execOp, hop, resolve, invoke, builtin, Sem.run_bind, Sem.run_pure, Result.andThen_ok, List.map_toArray, List.map_cons, List.map_nil, hr]
  split at he
  · rename_i ty hty
    obtain ⟨hty, _⟩ := flatTy_some hty
    have hty' := (hT el te hte).ty ty hty
    have hsize : it.size = ty.size := by rw [hty'.1, hsz]
    split at he <;> try (cases he; done)
    rename_i ys hy
    refine sound_appTyped hR hd hs he hcs (fun φ hg hfo => ?_)
    have hxr := (ev_slot hfo hx).cell (readL_agg hy) (AV.ok_ne (toDat_ok hy)).1 (AV.ok_ne (toDat_ok hy)).2
    obtain ⟨ad, m, c, news, hxe, hyl, hym, hrn, hcell⟩ := readL_rep hg.obj hy hxr
    have hnl : news.length = m * it.size := by rw [hrn.len (fun _ _ h => h.len), hyl, hsize]
    have hpos : 0 < it.size ∧ te.bytes ≠ 0 := by
      unfold appTyped at he
      split at he
      · rename_i hk; exact ⟨by rw [hsize]; exact hk.2.1, hk.2.2⟩
      · cases he
    refine ⟨news, hrn, fun h1 h2 => hex _ _ ?_, fun n cells hown hnn hfit => ?_⟩
    · rw [h1, hxe]
      have hm : m = 0 := by rw [← hyl, h2]; rfl
      subst hm
      exact run_append_nilsrc w t o.type el it hu hit none 0 0 (Nat.le_refl _) ad c
    · rw [← hsize] at hown ⊢
      rw [hyl] at hfit hnn ⊢
      rw [← hbyt] at hfit hpos
      have hle : n + m ≤ (n + m) * it.bytes := Nat.le_mul_of_pos_right _ (by omega)
      obtain ⟨v', w', h1, h2⟩ := append_machine (P := C.P) (ty := o.type) (i := it) hu hit hzz hzs' hpos.1 (ow := C.w0.has) (fun b hb => Or.inl (Nat.le_trans hg.below.size hb)) hown (ad := ad) (c := c) hnl (RepL.one hrn)
        (by rcases hcell with h | h
            · exact .inl (by rw [← hyl, h]; rfl)
            · exact .inr h) hnn (by simp only [maxLen]; omega) hfit
      exact ⟨v', w', hex _ _ (by rw [hxe]; exact h1), h2⟩
  · -- values
    unfold vappEff at he
    split at he <;> try (cases he; done)
    rename_i hk
    obtain ⟨hfr, hpos, hby⟩ := hk
    have hf : look (newId fn d) σ.objs = none := by
      unfold fresh at hfr
      split at hfr
      · assumption
      · cases hfr
    split at he <;> try (cases he; done)
    rename_i ys hy
    split at he <;> try (cases he; done)
    rename_i hall
    have hall' : ∀ v ∈ ys, v.size = te.size := fun v hv => by simpa using List.all_eq_true.1 hall v hv
    obtain ⟨⟨φ, hg, hfo, hh⟩, hN⟩ := hR
    have hxr := (ev_slot hfo hx).cell (readA_cell hy).1 (AV.ok_ne (readA_cell hy).2).1 (AV.ok_ne (readA_cell hy).2).2
    obtain ⟨ad, m, c, news, hxe, hyl, hym, hrn, hcell⟩ := readA_rep hg.obj hy hxr hall'
    have hkk : ∀ (x : AV) (c : List Value), (Rep ⟨w, imm C.w0 w φ σ.objs, φ, σ.objs⟩ x false c ∧ x.size = te.size) → c.length = te.size := fun _ _ h => h.1.len.trans h.2
    have hnl : news.length = m * it.size := by rw [hrn.len hkk, hyl, hsz]
    have mach : ∀ n cells, OwnN w C.w0.has el te.size (a.eval s) n cells → (a.eval s = .slice none 0 0 → 0 < ys.length) → (n + ys.length) * te.bytes ≤ 140737488355328 → ∃ v' w', (execOp a.eval o).run C.P w = .ok (.value v') w' ∧ Appd w C.w0.has el te.size (a.eval s) (n + ys.length) (cells ++ news) v' w' := by
      intro n cells hown hnn hfit
      rw [← hsz] at hown ⊢
      rw [hyl] at hfit hnn ⊢
      rw [← hbyt] at hfit
      have hle : n + m ≤ (n + m) * it.bytes := Nat.le_mul_of_pos_right _ (by omega)
      obtain ⟨v', w', h1, h2⟩ := append_machine (P := C.P) (ty := o.type) (i := it) hu hit hzz hzs' (by omega) (ow := C.w0.has) (fun b hb => Or.inl (Nat.le_trans hg.below.size hb)) hown (ad := ad) (c := c) hnl (RepA.one hrn)
        (by rcases hcell with h | h
            · exact .inl (by rw [← hyl, h]; rfl)
            · exact .inr h) hnn (by simp only [maxLen]; omega) hfit
      exact ⟨v', w', hex _ _ (by rw [hxe]; exact h1), h2⟩
    -- onto a row, whole or its beginning
    have row : ∀ {id : Nat} {xs0 xs : List AV} {cells : List Value}, look id σ.objs = some (.vrow el te.size xs0) → blk (φ id) = blk (a.eval s) → RepL (fun v cs => Rep ⟨w, imm C.w0 w φ σ.objs, φ, σ.objs⟩ v false cs ∧ v.size = te.size) xs cells → OwnR w C.w0.has el te.size (a.eval s) xs.length cells →
        FitsRow (xs.length + ys.length) te.bytes → e.v = .sl (newId fn d) → e.upd = [(newId fn d, .vrow el te.size (appL xs ys)), (id, .dead)] → Outc C σ o e a w := by
      intro id xs0 xs cells hl hb hrx hown hfit hev hupd
      obtain ⟨v', w', h1, h2⟩ := mach xs.length cells (.inr hown) (fun h => by
        rcases hown.2 with ⟨_, ad, h'⟩ | ⟨g, cap, cur, h', _⟩
        · rw [h] at h'; cases h'
        · rw [h] at h'; cases h') hfit
      have h2' := h2
      obtain ⟨_, hown', _⟩ := h2'
      have hslv' : ∃ ad n c, v' = .slice ad n c := by
        rcases hown'.2 with ⟨_, ad, h⟩ | ⟨g, cap, cur, h, _⟩
        · exact ⟨_, _, _, h⟩
        · exact ⟨_, _, _, h⟩
      refine Outc.append h1 hg hfo hh hN hd hf (old := some id) (ob := .vrow el te.size (appL xs ys)) h2 (fun j h => by cases h; exact ⟨hb, _, hl, rfl, trivial⟩) (fun h => by cases h) ?_ hev (by rw [hupd]; rfl) (fun E' hφ hl' => ?_)
      · intro E' hw hφ hle
        refine ⟨cells ++ news, RepL.append (RepL.imp (fun _ _ h => ⟨Rep.mono hg.shaped hle h.1, h.2⟩) hrx) (RepL.imp (fun _ _ h => ⟨Rep.mono hg.shaped hle h.1, h.2⟩) hrn), ?_⟩
        rw [hw, hφ, show (appL xs ys).length = xs.length + ys.length from by simp [appL]]
        exact hown'
      · obtain ⟨ad', n', c', hv'⟩ := hslv'
        exact ⟨_, hl', ⟨ad', n', c', by rw [hv']⟩, by rw [hφ]⟩
    split at he <;> try (cases he; done)
    · have hse : a.eval s = .slice none 0 0 := by
        have h : [a.eval s] = [Value.slice none 0 0] := (ev_slot hfo hs).cell rfl (by simp) (by simp)
        simpa using h
      split at he
      · simp only [Option.some.injEq] at he
        subst he
        refine Outc.value (v := .slice none 0 0) ⟨⟨φ, hg, hfo, hh⟩, hN⟩ hd rfl (hex _ _ ?_) (fun _ _ _ => Slot.ofCell (show [_] = [_] from rfl) rfl)
        rw [hse, hxe]
        have hm : m = 0 := by rw [← hyl]; rfl
        subst hm
        exact run_append_nilsrc w t o.type el it hu hit none 0 0 (Nat.le_refl _) ad c
      · rename_i y r
        simp only [Option.some.injEq] at he
        subst he
        have hfit : FitsRow (y :: r).length te.bytes := hcs (.fits (y :: r).length te.bytes) (by simp)
        obtain ⟨v', w', h1, h2⟩ := mach 0 [] (.inl ⟨hse, rfl, rfl⟩) (fun _ => by simp) (by rw [Nat.zero_add]; exact hfit)
        have h2' := h2
        obtain ⟨_, hown', _⟩ := h2'
        have hslv' : ∃ ad n c, v' = .slice ad n c := by
          rcases hown'.2 with ⟨_, ad, h⟩ | ⟨g, cap, cur, h, _⟩
          · exact ⟨_, _, _, h⟩
          · exact ⟨_, _, _, h⟩
        refine Outc.append h1 hg hfo hh hN hd hf (old := none) (ob := .vrow el te.size (y :: r)) h2 (fun j h => by cases h) (fun _ => by rw [hse]; rfl) ?_ rfl rfl (fun E' hφ hl' => ?_)
        · intro E' hw hφ hle
          refine ⟨news, RepL.imp (fun _ _ h => ⟨Rep.mono hg.shaped hle h.1, h.2⟩) hrn, ?_⟩
          rw [hw, hφ]
          simpa using hown'
        · obtain ⟨ad', n', c', hv'⟩ := hslv'
          exact ⟨_, hl', ⟨ad', n', c', by rw [hv']⟩, by rw [hφ]⟩
    · rename_i id
      split at he <;> try (cases he; done)
      rename_i e' sz' xs hl
      split at he <;> try (cases he; done)
      rename_i hk
      obtain ⟨rfl, rfl⟩ := hk
      simp only [Option.some.injEq] at he
      subst he
      obtain ⟨ob, hob, hsh, hq⟩ := (ev_slot hfo hs).cell rfl (by simp) (by simp)
      have : ob = .vrow e' te.size xs := by have := hob.symm.trans hl; cases this; rfl
      subst this
      have hse : a.eval s = φ id := by simpa using hq
      obtain ⟨cells, q1, q2⟩ := hg.obj id _ hl
      exact row hl (by rw [hse]) q1 (by rw [hse]; exact q2) (hcs (.fits (xs.length + ys.length) te.bytes) (by simp)) rfl rfl
    · rename_i id hi
      split at he <;> try (cases he; done)
      rename_i e' sz' xs hl
      split at he <;> try (cases he; done)
      rename_i hk
      obtain ⟨rfl, rfl⟩ := hk
      simp only [Option.some.injEq] at he
      subst he
      obtain ⟨ob, hob, hsh, hq⟩ := (ev_slot hfo hs).cell rfl (by simp) (by simp)
      have : ob = .vrow e' te.size xs := by have := hob.symm.trans hl; cases this; rfl
      subst this
      obtain ⟨_, hhi, ad, n, cap, ad2, q0, q00, q01⟩ := hq
      have hse : a.eval s = .slice (some ad2) hi cap := by simpa using q00
      obtain ⟨cells, q1, q2, q3⟩ := hg.obj id _ hl
      have hlen : (xs.take hi).length = hi := by simp only [List.length_take]; omega
      have hrt := RepL.take (k := te.size) hkk hi q1
      have hfit : FitsRow ((xs.take hi).length + ys.length) te.bytes := by rw [hlen]; exact hcs (.fits (hi + ys.length) te.bytes) (by simp)
      rcases q3 with ⟨h8, ad', h9⟩ | ⟨g, cap', cur, h9, h10, h11, h12, h13, h14, h15⟩
      · have hφ := h9.symm.trans q0
        simp only [Value.slice.injEq] at hφ
        obtain ⟨rfl, rfl, rfl⟩ := hφ
        have h0' : hi = 0 := by omega
        subst h0'
        refine row (xs := xs.take 0) hl (by rw [hse, show φ id = _ from h9]; rfl) hrt ?_ hfit rfl rfl
        rw [hse]
        exact ⟨by simp, .inl ⟨by simp, ad2, rfl⟩⟩
      · have hφ := h9.symm.trans q0
        simp only [Value.slice.injEq] at hφ
        obtain ⟨rfl, rfl, rfl⟩ := hφ
        have hse' : a.eval s = .slice (some ⟨g, 0, none⟩) hi (cap' + 1) := by rw [hse, q01 (by omega)]; simp [add_at]
        refine row (xs := xs.take hi) hl (by rw [hse', show φ id = _ from h9]; rfl) hrt ?_ hfit rfl rfl
        rw [hse', hlen]
        have hle : hi * te.size ≤ xs.length * te.size := Nat.mul_le_mul_right _ hhi
        refine ⟨by rw [List.length_take, q2]; omega, .inr ⟨g, cap', cur, rfl, h10, h11, by omega, h13, h14, ?_⟩⟩
        rw [← h15, List.take_take]
        congr 1
        omega

theorem eqI_eq0 {x y : Int} (h : eqI x y = true) : x = y := eqI_of h
theorem sound_append2 {t u : TypeId} {s x : Operand} (hop : o.op = .call { callee := .builtin .append, args := #[s, x], argTypes := #[t, u] }) (hT : TblOk C.P C.T) (hR : Rel C.w0 C.N C.as σ a w) (hd : ∀ t, o.dst = some t → t < C.N)
    {fn d : Nat} {sv xv : AV} (hs : ev C.T t σ.fr s = some sv) (hx : ev C.T u σ.fr x = some xv) (he : appendEff2 C.T fn d σ.objs t u sv xv = some e) (hcs : ∀ q ∈ e.conds, q.holds) : Outc C σ o e a w := by
  have hex : ∀ v' w', (Builtin.append_ #[t, u] o.type #[a.eval s, a.eval x]).run C.P w = .ok v' w' → (execOp a.eval o).run C.P w = .ok (.value v') w' := by
    intro v' w' hr
    simp only [execOp, hop, resolve, invoke, builtin, Sem.run_bind, Sem.run_pure, Result.andThen_ok, List.map_toArray, List.map_cons, List.map_nil, hr]
  unfold appendEff2 at he
  split at he <;> try (cases he; done)
  · rename_i el _ _ _ _ _ _ _ _ _ _ hti hui
    split at he <;> try (cases he; done)
    rename_i te b hte
    split at he <;> try (cases he; done)
    rename_i hk
    obtain ⟨h1, h2, h3⟩ := hk
    obtain ⟨it, hit, hsz, hbyt, z, hzz, hzs, hzr⟩ := (hT el te hte).info
    have hu := slice_elem hT hti rfl
    have hstr : C.P.underlying u = some .string := by
      obtain ⟨de, hun, htd, _⟩ := (hT _ _ hui).desc
      cases de <;> simp only [tdOk] at htd; exact hun
    have hz8 : z = .int .u8 0 := by
      have hz := hzr ⟨w, fun _ => True, fun _ => undef, []⟩
      cases hzd : te.zero with
      | dat ty n =>
        rw [hzd] at h3 hz
        cases ty with
        | int k =>
          cases k <;> simp only [isZ8] at h3 <;> try (cases h3; done)
          have := hz.int
          rw [this, eqI_eq0 h3]
        | _ => simp [isZ8] at h3
      | _ => rw [hzd] at h3; simp [isZ8] at h3
    subst hz8
    refine sound_appTyped hR hd hs he hcs (fun φ hg hfo => ⟨Lib.strCells b, ?_, fun g1 g2 => hex _ _ ?_, fun n cells hown hnn hfit => ?_⟩)
    · have : ∀ l : List UInt8, RepL (RepC (imm C.w0 w φ σ.objs) w (.int .u8)) (l.map fun b => ((b.toNat : Nat) : Int)) (l.map fun b => Value.int .u8 b.toNat) := by
        intro l
        induction l with
        | nil => rfl
        | cons b l ih => exact ⟨[.int .u8 b.toNat], _, rfl, rfl, ih⟩
      exact this b.data.toList
    · rw [g1, (ev_slot hfo hx).str]
      have hb0 : b.size = 0 := by
        have : (strNums b).length = b.size := by simp [strNums]; rfl
        rw [← this, g2]; rfl
      exact run_append_nil_nosrc w t u o.type el it hu hstr hit none 0 0 (Nat.le_refl _) b hb0
    · have hlen : (strNums b).length = b.size := by simp [strNums]; rfl
      rw [show (List.length (α := (Ty.int IntKind.u8).V) (strNums b)) = b.size from hlen] at hfit hnn ⊢
      obtain ⟨v', w', k1, k2⟩ := append_machine_str (P := C.P) (ty := o.type) hu hstr hit hzz (hsz.trans h1) (hbyt.trans h2) (ow := C.w0.has) (fun b hb => Or.inl (Nat.le_trans hg.below.size hb)) hown hnn (by simp only [maxLen]; omega) (by omega)
      exact ⟨v', w', hex _ _ (by rw [(ev_slot hfo hx).str]; exact k1), k2⟩
  · rename_i el _ _ _ _ _ _ _ _ _ _ hti hui
    split at he <;> try (cases he; done)
    rename_i te t0 n hte
    change Int at n
    split at he <;> try (cases he; done)
    rename_i ty hty
    split at he <;> try (cases he; done)
    rename_i zd hzd
    split at he <;> try (cases he; done)
    rename_i hk
    obtain ⟨hfr, hpos, hby, hok⟩ := hk
    simp only [Option.some.injEq] at he
    subst he
    obtain ⟨hty, _⟩ := flatTy_some hty
    have hf : look (newId fn d) σ.objs = none := by
      unfold fresh at hfr
      split at hfr
      · assumption
      · cases hfr
    have hn1 : 0 ≤ Int.sub n 1 := hcs (.nonNeg (Int.sub n 1)) (by simp)
    have hn1' : 1 ≤ (n : Int) := by have : Int.sub n 1 = (n : Int) - 1 := rfl; omega
    obtain ⟨_, hmk⟩ : MakeOk n te.bytes := hcs (.make n te.bytes) (by simp)
    obtain ⟨it, hit, hsz, hbyt, z, hzz, hzs, hzr⟩ := (hT el te hte).info
    have hty' := (hT el te hte).ty ty hty
    have hu := slice_elem hT hti rfl
    have hint : C.P.underlying u = some (.int .i64) := by
      obtain ⟨de, hun, htd, _⟩ := (hT _ _ hui).desc
      cases de <;> simp only [tdOk] at htd; subst htd; exact hun
    have hsize : it.size = ty.size := by rw [hty'.1, hsz]
    obtain ⟨⟨φ, hg, hfo, hh⟩, hN⟩ := hR
    have hse : a.eval s = .slice none 0 0 := by
      have h : [a.eval s] = [Value.slice none 0 0] := (ev_slot hfo hs).cell rfl (by simp) (by simp)
      simpa using h
    obtain ⟨k, rfl⟩ := Int.eq_ofNat_of_zero_le (show 0 ≤ (n : Int) by omega)
    have hk1 : k * te.bytes ≤ 140737488355328 := by
      have : ((k * te.bytes : Nat) : Int) ≤ 140737488355328 := by rw [Int.natCast_mul]; exact hmk
      omega
    have hkk : k ≤ 140737488355328 := Nat.le_trans (Nat.le_mul_of_pos_right k (by omega)) hk1
    have hzs' : z.cells.size = it.size := by rw [hzs, hsz]
    have hr := Lib.run_append_nil_zeros (P := C.P) w t u o.type el it z .i64 .i64 hu hint hit hzz k (by omega) (by omega) (by omega) (by rw [hbyt]; omega)
    have hzl : (Builtin.zeroCells z.cells k).toList = (madeCells z.cells (k * it.size)).toList := by
      rw [← hzs']; rfl
    have happ := appd_grown (P := C.P) (w := w) (ow := C.w0.has) (fun b hb => Or.inl (Nat.le_trans hg.below.size hb)) hit hzs' (sv := .slice none 0 0) (n := k) (old := 0) (cells := (Builtin.zeroCells z.cells k).toList) (by simp [size_zeroCells, hzs']) (by simp only [maxLen]; omega) (by omega)
    simp only [Array.toArray_toList] at happ
    refine Outc.append (nid := newId fn d) (hex _ _ (by rw [hse, (ev_slot hfo hx).int]; exact hr)) hg hfo hh hN hd hf (old := none) (ob := .row el ty (repl (k : Int) zd)) (sv := .slice none 0 0) happ (fun j h => by cases h) (fun _ => rfl) ?_ rfl rfl (fun E' hφ hl' => ⟨_, hl', ⟨_, _, _, rfl⟩, by simp [hφ]⟩)
    intro E' hw hφ hle
    obtain ⟨row, hown, _⟩ := happ
    have hzc : ∀ E : Env, Rep E te.zero false z.cells.toList := fun E => (hzr E).cells (AV.ok_ne hok).1 (AV.ok_ne hok).2
    refine ⟨(Builtin.zeroCells z.cells k).toList, ?_, ?_⟩
    · have := made_rep (R := RepC E'.I E'.w ty) (z := zd) (zc := z.cells) (s := it.size) (toDat_closed hzd hzc) hzs' k
      rw [hzl]
      simpa [repl] using this
    · rw [hw, hφ, show (repl (k : Int) zd).length = k from by simp [repl], ← hsize]
      exact hown
end
end
end Go.Ab
