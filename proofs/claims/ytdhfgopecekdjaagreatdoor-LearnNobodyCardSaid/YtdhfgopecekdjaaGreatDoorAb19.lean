/- LearnNobody answers true for every list, every number and every choice. -/
import Derived.Test.YtdhfgopecekdjaaGreatDoorAb18
namespace Go.Ab
noncomputable section
open Go Go.Proofs Go.RowKit
set_option maxRecDepth 100000
/-- A teacher without a half. -/
def halfT : AV → Bool
  | .pr .nilfn (.pr (.fn _ _) .un) => true
  | .pr (.fn _ _) (.pr .nilfn .un) => true
  | .pr .nilfn (.pr .nilfn .un) => true
  | _ => false
theorem halfT_some {t : AV} (h : halfT t = true) : (∃ f c, t = .pr .nilfn (.pr (.fn f c) .un)) ∨ (∃ f c, t = .pr (.fn f c) (.pr .nilfn .un)) ∨ t = .pr .nilfn (.pr .nilfn .un) := by
  unfold halfT at h
  split at h
  · exact .inl ⟨_, _, rfl⟩
  · exact .inr (.inl ⟨_, _, rfl⟩)
  · exact .inr (.inr rfl)
  · cases h
def HL : Tolds := fun f l objs => match Nat.beq f 8 with
  | true => match l with
    | [s, t, .dat (.int .i64) _] => match halfT t with
      | true => match s with
        | .nil .str => some ([], learnV [], [])
        | .sl id => match Nat.beq id 4096036, look id objs with
          | true, some (.row _ .str xs) => some ([4096036], learnV xs, [(4096036, .frz .str xs)])
          | _, _ => none
        | _ => none
      | false => none
    | _ => none
  | false => none
theorem avIds_learnV (xs : List ByteArray) : avIds (learnV xs) = [] := rfl
/-- Learn of nil. -/
theorem learn_nil {t : AV} (ht : halfT t = true) (m : Int) (ty : Ty) (hty : ty = .str) : ∃ l', WkL [.nil ty, t, .dat (.int .i64) m] l' ∧ PureC Tryz.prog Tryz.tbl 8 l' (learnV []) Tryz.f8 (Tryz.f8.body.get rfl) := by
  subst hty
  have mk : ∀ t' : AV, avIds t' = [] → (∀ {w1 : Base} {F : Fence} {n : Nat}, WF F → Runs ⟨Tryz.prog, Tryz.tbl, w1, Tryz.f8.ntmps, []⟩ F n (Tryz.f8.body.get rfl) { fr := [(0, .dat (.lst .str) []), (1, t'), (2, .dat (.int .i64) m)], objs := [] }
      (fun e τ => (e = .normal ∨ e = .ret) ∧ resAV Tryz.tbl τ.fr τ.objs Tryz.f8.results.toList = some (learnV []) ∧ τ.mks = [] ∧ ∀ id o, look id ([] : Objs) = some o → look id τ.objs = some o)) →
      PureC Tryz.prog Tryz.tbl 8 [.dat (.lst .str) [], t', .dat (.int .i64) m] (learnV []) Tryz.f8 (Tryz.f8.body.get rfl) := fun t' hi hrun =>
    { hfn := Tryz.func8, hbody := rfl, hname := by kernel_rfl, hN := by show 3 ≤ Tryz.f8.ntmps; exact Nat.le_of_ble_eq_true rfl
      hl := by intro x hx; simp at hx; rcases hx with rfl | rfl | rfl <;> first | rfl | exact hi
      hv := rfl
      hrun := fun w1 F n hF _ => (hrun hF).mono fun e τ ⟨h1, h2, h3, _⟩ => ⟨h1, h2, h3⟩ }
  have z : Wk (.dat (.int .i64) m) (.dat (.int .i64) m) := .refl _
  rcases halfT_some ht with ⟨f, c, rfl⟩ | ⟨f, c, rfl⟩ | rfl
  · exact ⟨_, .cons (.nil _) (.cons (.pr (.refl _) (.pr (.fn f c) (.refl _))) (.cons z .nil)), mk _ rfl (fun hF => learn_00 f m hF)⟩
  · exact ⟨_, .cons (.nil _) (.cons (.pr (.fn f c) (.pr (.refl _) (.refl _))) (.cons z .nil)), mk _ rfl (fun hF => learn_01 f m hF)⟩
  · exact ⟨_, .cons (.nil _) (.cons (.refl _) (.cons z .nil)), mk _ rfl (fun hF => learn_02 m hF)⟩
/-- Learn of a row. -/
theorem learn_row {t : AV} (ht : halfT t = true) (m : Int) {objs : Objs} {e : TypeId} {ty : Ty} (hty : ty = .str) {xs : List ty.V} {ys : List ByteArray} (hxs : HEq xs ys) (hlk : look 4096036 objs = some (.row e ty xs)) : ∃ l' small, WkL [.sl 4096036, t, .dat (.int .i64) m] l' ∧
    CallOk Tryz.prog Tryz.tbl 8 l' objs [4096036] (learnV ys) [(4096036, .frz .str ys)] Tryz.f8 (Tryz.f8.body.get rfl) small := by
  subst hty
  cases hxs
  have mk : ∀ t' : AV, avIds t' = [] → (∀ {w1 : Base} {F : Fence} {n : Nat}, WF F → Runs ⟨Tryz.prog, Tryz.tbl, w1, Tryz.f8.ntmps, []⟩ F n (Tryz.f8.body.get rfl) { fr := [(0, .dat (.lst .str) ys), (1, t'), (2, .dat (.int .i64) m)], objs := [(4096036, .frz .str ys)] }
      (fun e τ => (e = .normal ∨ e = .ret) ∧ resAV Tryz.tbl τ.fr τ.objs Tryz.f8.results.toList = some (learnV ys) ∧ τ.mks = [] ∧ ∀ id o, look id ([(4096036, .frz .str ys)] : Objs) = some o → look id τ.objs = some o)) →
      CallOk Tryz.prog Tryz.tbl 8 [.sl 4096036, t', .dat (.int .i64) m] objs [4096036] (learnV ys) [(4096036, .frz .str ys)] Tryz.f8 (Tryz.f8.body.get rfl) [(4096036, .row e .str ys)] := fun t' hi hrun =>
    { hfn := Tryz.func8, hbody := rfl, hname := by kernel_rfl, hN := by show 3 ≤ Tryz.f8.ntmps; exact Nat.le_of_ble_eq_true rfl
      hs := fun id => by
        rw [look_cons, look_nil]
        by_cases h : id = 4096036
        · subst h; simp [hlk]
        · simp [h]
      hcl := fun id o ho j hj => by obtain ⟨rfl, rfl⟩ := look_one ho; cases hj
      hl := by intro x hx j hj; simp at hx; rcases hx with rfl | rfl | rfl
               · simpa [avIds] using hj
               · rw [hi] at hj; cases hj
               · cases hj
      hrun := fun w1 F n hF _ => by
        refine Runs.freeze [4096036] ?_
        refine Runs.likeSt (τ := { fr := [(0, .sl 4096036), (1, t'), (2, .dat (.int .i64) m)], objs := [(4096036, .frz .str ys)] }) ⟨fun s => rfl, fun id => ?_, rfl, rfl⟩ ?_
        · show look id [(4096036, AObj.frz .str ys)] = look id (freeze [(4096036, AObj.row e .str ys)] [4096036] ++ [(4096036, AObj.row e .str ys)])
          rw [look_freeze, look_cons, look_nil, look_cons, look_nil]
          by_cases h : id = 4096036
          · subst h; simp [frzOf]
          · simp [h]
        refine Runs.thaw (fr' := [(0, .dat (.lst .str) ys), (1, t'), (2, .dat (.int .i64) m)]) (fun s v' h => ?_) ((hrun hF).mono fun e τ ⟨h1, h2, h3, h4⟩ => ?_)
        · rw [look_cons] at h
          by_cases hs : s = 0
          · subst hs; rw [if_pos rfl] at h; cases h
            exact .inr ⟨4096036, .str, ys, rfl, rfl, rfl⟩
          · rw [if_neg hs] at h
            exact .inl (by simp only [look_cons, if_neg hs]; simpa [look_cons] using h)
        · have : RetOk Tryz.tbl (List.contains [4096036]) objs Tryz.f8.results.toList (fun v' o' => v' = learnV ys ∧ o' = [(4096036, .frz .str ys)]) τ := by
            have hd : deads τ.mks ++ τ.objs = τ.objs := by rw [h3]; rfl
            have h5 : look 4096036 τ.objs = some (.frz .str ys) := h4 4096036 _ rfl
            refine ⟨h3 ▸ List.nodup_nil, ?_, learnV ys, by rw [hd]; exact h2, [(4096036, .frz .str ys)], List.contains [4096036], ?_, fun id h => h, ?_, ?_, ?_, rfl, rfl⟩
            · intro id hid; rw [h3] at hid; cases hid
            · intro id
              rw [hd, look_cons, look_nil]
              by_cases h : id = 4096036
              · subst h; simp [h5]
              · simp [h]
            · intro j hj; cases hj
            · intro id o ho j hj; obtain ⟨rfl, rfl⟩ := look_one ho; cases hj
            · intro id o ho; obtain ⟨rfl, rfl⟩ := look_one ho; exact .inl (by simp)
          rcases h1 with rfl | rfl
          · exact this
          · exact this }
  have z : Wk (.dat (.int .i64) m) (.dat (.int .i64) m) := .refl _
  rcases halfT_some ht with ⟨f, c, rfl⟩ | ⟨f, c, rfl⟩ | rfl
  · exact ⟨_, _, .cons (.refl _) (.cons (.pr (.refl _) (.pr (.fn f c) (.refl _))) (.cons z .nil)), mk _ rfl (fun hF => learn_10 f ys m hF)⟩
  · exact ⟨_, _, .cons (.refl _) (.cons (.pr (.fn f c) (.pr (.refl _) (.refl _))) (.cons z .nil)), mk _ rfl (fun hF => learn_11 f ys m hF)⟩
  · exact ⟨_, _, .cons (.refl _) (.cons (.refl _) (.cons z .nil)), mk _ rfl (fun hF => learn_12 ys m hF)⟩
theorem HL_ok : ToldsOk Tryz.prog Tryz.tbl HL := by
  intro f l objs kp v objs' h
  unfold HL at h
  split at h
  · rename_i hf
    have := Nat.eq_of_beq_eq_true hf
    subst this
    split at h
    · rename_i s t m
      split at h
      · rename_i ht
        split at h
        · cases h
          obtain ⟨l', h1, h2⟩ := learn_nil ht m _ rfl
          exact ⟨l', _, _, _, h1, h2.call objs⟩
        · rename_i id
          split at h
          · rename_i e xs hid hlk
            have := Nat.eq_of_beq_eq_true hid
            subst this
            cases h
            obtain ⟨l', small, h1, h2⟩ := learn_row ht m rfl HEq.rfl hlk
            exact ⟨l', _, _, small, h1, h2⟩
          · cases h
        · cases h
      · cases h
    · cases h
  · cases h
end
end Go.Ab

namespace Go.Ab
noncomputable section
open Go Go.Proofs Go.RowKit
set_option maxRecDepth 100000
def gAwake : List AV → Option AV
  | [] => some (.dat .bool true)
  | _ => none
def gNone : List AV → Option AV
  | [.pr (.nil (.str)) (.pr (.nil (.pair (.lst (.int .i64)) (.pair (.lst (.int .i64)) (.unit)))) (.un))] => some (.dat .bool true)
  | _ => none
theorem HAw_ok : ToldsOk Tryz.prog Tryz.tbl (toldOne 4 gAwake) := toldOne_ok fun l v h => by
  unfold gAwake at h
  split at h
  · cases h; exact awake4
  · cases h
theorem HNo_ok : ToldsOk Tryz.prog Tryz.tbl (Tolds.or (toldOne 4 gAwake) (toldOne 9 gNone)) := Tolds.or_ok HAw_ok
  (toldOne_ok fun l v h => by
    unfold gNone at h
    split at h
    · cases h; exact none9
    · cases h)
theorem HIsV_ok : ToldsOk Tryz.prog Tryz.tbl (toldOne 7 gVal) := toldOne_ok fun l v h => by
  obtain ⟨xs, rfl, rfl⟩ := gVal_some h
  exact ⟨_, _, valid7 xs⟩
noncomputable def nobodyEnd : Code := match Tryz.f3.body with
  | some (.seq _ (.seq _ (.seq _ (.seq _ (.seq _ (.seq _ c)))))) => c
  | _ => .skip
noncomputable def nobodyLast : Code := match nobodyEnd with
  | .seq _ (.seq _ c) => c
  | _ => .skip
theorem tail_0 (g : FuncId) (xs : List ByteArray) (m : Int) (hlen : xs.length ≤ 100) {w1 : Base} {F : Fence} {n : Nat} (hF : WF F) : Runs ⟨Tryz.prog, Tryz.tbl, w1, Tryz.f3.ntmps, []⟩ F n nobodyEnd { fr := [(0, .dat (.lst .str) xs), (1, .dat (.int .i64) m), (7, .ptr 7 0 0 [])], objs := [(7, .box (.pr .nilfn (.pr (.fn g .any) .un)))] }
    (fun e τ => (e = .normal ∨ e = .ret) ∧ resAV Tryz.tbl τ.fr τ.objs Tryz.f3.results.toList = some (.dat .bool true) ∧ τ.mks = []) := by
  show Runs _ F n (.seq (.region _ _ _) (.seq (.seq (.region _ _ _) (.cond _ (.region _ _ _) .skip)) (.seq (.region _ _ _) (.seq (.region _ _ _) .ret)))) _ _
  refine reg_seq [] [(0, .dat (.lst .str) xs), (1, .dat (.int .i64) m), (7, .ptr 7 0 0 []), (9, .dat (.int .i64) (1 : Int))] tblOk mixed noToldOk hF (base := 0) rfl ⟨rfl, rfl, rfl, rfl, trivial⟩ (fun h => by cases h) (by simp [AllHold, pinO, pinE, look_nil, Cnd.holds, InR, iLo, iHi, InRange]) ?_
  refine runs_seq ?_
  refine reg_seq [] [(0, .dat (.lst .str) xs), (1, .dat (.int .i64) m), (7, .ptr 7 0 0 []), (9, .dat (.int .i64) (1 : Int)), (33, .dat .bool (!validB xs))] tblOk mixed HIsV_ok hF (base := 0) rfl ⟨rfl, rfl, rfl, rfl, rfl, trivial⟩ (fun h => by cases h) (by simp [AllHold, pinO, pinE, look_nil, Cnd.holds, InR, iLo, iHi, InRange, Go.Ab.callEff]) ?_
  have rest : ∀ e : Int, learnE xs = e → Runs ⟨Tryz.prog, Tryz.tbl, w1, Tryz.f3.ntmps, []⟩ F n nobodyLast { fr := [(0, .dat (.lst .str) xs), (1, .dat (.int .i64) m), (7, .ptr 7 0 0 []), (9, .dat (.int .i64) e)], objs := [(7, .box (.pr .nilfn (.pr (.fn g .any) .un)))] }
    (fun e τ => (e = .normal ∨ e = .ret) ∧ resAV Tryz.tbl τ.fr τ.objs Tryz.f3.results.toList = some (.dat .bool true) ∧ τ.mks = []) := by
    intro e he
    show Runs _ F n (.seq (.region _ _ _) (.seq (.region _ _ _) .ret)) _ _
    cases xs with
    | nil =>
      refine reg_seq [] [(8, .dat (.int .i64) (learnE [])), (9, .dat (.int .i64) e), (10, .ptr 4096010 0 0 []), (11, .ptr 4096011 0 0 [])] tblOk mixed HL_ok hF (base := 1000) rfl ⟨rfl, rfl, rfl, rfl, trivial⟩ (fun _ => rfl) (by simp [AllHold, pinO, pinE, look_nil, Cnd.holds, InR, iLo, iHi, InRange, Go.Ab.callEff]) ?_
      refine reg_seq [(45, true)] [(6, .dat .bool true)] tblOk mixed HNo_ok hF (base := 1001) (by with_unfolding_all rfl) (by exact ⟨rfl, trivial⟩) (fun h => by cases h) (by simp [AllHold, pinO, pinE, look_nil, look_cons, Cnd.holds, InR, iLo, iHi, InRange, Go.Ab.callEff, he]) ?_
      exact runs_ret ⟨.inr rfl, rfl, rfl⟩
    | cons y r =>
      refine reg_seq [] [(8, .dat (.int .i64) (learnE (y :: r))), (9, .dat (.int .i64) e), (10, .ptr 4096010 0 0 []), (11, .ptr 4096011 0 0 [])] tblOk mixed HL_ok hF (base := 1000) rfl ⟨rfl, rfl, rfl, rfl, trivial⟩ (fun _ => rfl) (by simp [AllHold, pinO, pinE, look_nil, Cnd.holds, InR, iLo, iHi, InRange, Go.Ab.callEff, FitsRow]; have hl2 : List.length (α := Ty.str.V) (y :: r) ≤ 100 := hlen; omega) ?_
      refine reg_seq [(45, true)] [(6, .dat .bool true)] tblOk mixed HNo_ok hF (base := 1001) (by with_unfolding_all rfl) (by exact ⟨rfl, trivial⟩) (fun h => by cases h) (by simp [AllHold, pinO, pinE, look_nil, look_cons, Cnd.holds, InR, iLo, iHi, InRange, Go.Ab.callEff, he]) ?_
      exact runs_ret ⟨.inr rfl, rfl, rfl⟩
  refine runs_cond (b := !validB xs) rfl (fun hb => ?_) (fun hb => ?_)
  · replace hb : validB xs = false := by simpa using hb
    refine reg_end [] [(0, .dat (.lst .str) xs), (1, .dat (.int .i64) m), (7, .ptr 7 0 0 []), (9, .dat (.int .i64) (10 : Int))] tblOk mixed noToldOk hF (base := 0) rfl ⟨rfl, rfl, rfl, rfl, trivial⟩ (fun h => by cases h) (by simp [AllHold, pinO, pinE, look_nil, Cnd.holds, InR, iLo, iHi, InRange]) ?_
    exact rest 10 (by simp only [learnE, hb])
  · replace hb : validB xs = true := by simpa using hb
    refine runs_skip ?_
    refine Runs.less (fr' := [(0, .dat (.lst .str) xs), (1, .dat (.int .i64) m), (7, .ptr 7 0 0 []), (9, .dat (.int .i64) (1 : Int))]) (AllLook.less ⟨rfl, rfl, rfl, rfl, trivial⟩) ?_
    exact rest 1 (by simp only [learnE, hb])
theorem tail_1 (g : FuncId) (xs : List ByteArray) (m : Int) (hlen : xs.length ≤ 100) {w1 : Base} {F : Fence} {n : Nat} (hF : WF F) : Runs ⟨Tryz.prog, Tryz.tbl, w1, Tryz.f3.ntmps, []⟩ F n nobodyEnd { fr := [(0, .dat (.lst .str) xs), (1, .dat (.int .i64) m), (7, .ptr 7 0 0 [])], objs := [(7, .box (.pr (.fn g .any) (.pr .nilfn .un)))] }
    (fun e τ => (e = .normal ∨ e = .ret) ∧ resAV Tryz.tbl τ.fr τ.objs Tryz.f3.results.toList = some (.dat .bool true) ∧ τ.mks = []) := by
  show Runs _ F n (.seq (.region _ _ _) (.seq (.seq (.region _ _ _) (.cond _ (.region _ _ _) .skip)) (.seq (.region _ _ _) (.seq (.region _ _ _) .ret)))) _ _
  refine reg_seq [] [(0, .dat (.lst .str) xs), (1, .dat (.int .i64) m), (7, .ptr 7 0 0 []), (9, .dat (.int .i64) (1 : Int))] tblOk mixed noToldOk hF (base := 0) rfl ⟨rfl, rfl, rfl, rfl, trivial⟩ (fun h => by cases h) (by simp [AllHold, pinO, pinE, look_nil, Cnd.holds, InR, iLo, iHi, InRange]) ?_
  refine runs_seq ?_
  refine reg_seq [] [(0, .dat (.lst .str) xs), (1, .dat (.int .i64) m), (7, .ptr 7 0 0 []), (9, .dat (.int .i64) (1 : Int)), (33, .dat .bool (!validB xs))] tblOk mixed HIsV_ok hF (base := 0) rfl ⟨rfl, rfl, rfl, rfl, rfl, trivial⟩ (fun h => by cases h) (by simp [AllHold, pinO, pinE, look_nil, Cnd.holds, InR, iLo, iHi, InRange, Go.Ab.callEff]) ?_
  have rest : ∀ e : Int, learnE xs = e → Runs ⟨Tryz.prog, Tryz.tbl, w1, Tryz.f3.ntmps, []⟩ F n nobodyLast { fr := [(0, .dat (.lst .str) xs), (1, .dat (.int .i64) m), (7, .ptr 7 0 0 []), (9, .dat (.int .i64) e)], objs := [(7, .box (.pr (.fn g .any) (.pr .nilfn .un)))] }
    (fun e τ => (e = .normal ∨ e = .ret) ∧ resAV Tryz.tbl τ.fr τ.objs Tryz.f3.results.toList = some (.dat .bool true) ∧ τ.mks = []) := by
    intro e he
    show Runs _ F n (.seq (.region _ _ _) (.seq (.region _ _ _) .ret)) _ _
    cases xs with
    | nil =>
      refine reg_seq [] [(8, .dat (.int .i64) (learnE [])), (9, .dat (.int .i64) e), (10, .ptr 4096010 0 0 []), (11, .ptr 4096011 0 0 [])] tblOk mixed HL_ok hF (base := 1000) rfl ⟨rfl, rfl, rfl, rfl, trivial⟩ (fun _ => rfl) (by simp [AllHold, pinO, pinE, look_nil, Cnd.holds, InR, iLo, iHi, InRange, Go.Ab.callEff]) ?_
      refine reg_seq [(45, true)] [(6, .dat .bool true)] tblOk mixed HNo_ok hF (base := 1001) (by with_unfolding_all rfl) (by exact ⟨rfl, trivial⟩) (fun h => by cases h) (by simp [AllHold, pinO, pinE, look_nil, look_cons, Cnd.holds, InR, iLo, iHi, InRange, Go.Ab.callEff, he]) ?_
      exact runs_ret ⟨.inr rfl, rfl, rfl⟩
    | cons y r =>
      refine reg_seq [] [(8, .dat (.int .i64) (learnE (y :: r))), (9, .dat (.int .i64) e), (10, .ptr 4096010 0 0 []), (11, .ptr 4096011 0 0 [])] tblOk mixed HL_ok hF (base := 1000) rfl ⟨rfl, rfl, rfl, rfl, trivial⟩ (fun _ => rfl) (by simp [AllHold, pinO, pinE, look_nil, Cnd.holds, InR, iLo, iHi, InRange, Go.Ab.callEff, FitsRow]; have hl2 : List.length (α := Ty.str.V) (y :: r) ≤ 100 := hlen; omega) ?_
      refine reg_seq [(45, true)] [(6, .dat .bool true)] tblOk mixed HNo_ok hF (base := 1001) (by with_unfolding_all rfl) (by exact ⟨rfl, trivial⟩) (fun h => by cases h) (by simp [AllHold, pinO, pinE, look_nil, look_cons, Cnd.holds, InR, iLo, iHi, InRange, Go.Ab.callEff, he]) ?_
      exact runs_ret ⟨.inr rfl, rfl, rfl⟩
  refine runs_cond (b := !validB xs) rfl (fun hb => ?_) (fun hb => ?_)
  · replace hb : validB xs = false := by simpa using hb
    refine reg_end [] [(0, .dat (.lst .str) xs), (1, .dat (.int .i64) m), (7, .ptr 7 0 0 []), (9, .dat (.int .i64) (10 : Int))] tblOk mixed noToldOk hF (base := 0) rfl ⟨rfl, rfl, rfl, rfl, trivial⟩ (fun h => by cases h) (by simp [AllHold, pinO, pinE, look_nil, Cnd.holds, InR, iLo, iHi, InRange]) ?_
    exact rest 10 (by simp only [learnE, hb])
  · replace hb : validB xs = true := by simpa using hb
    refine runs_skip ?_
    refine Runs.less (fr' := [(0, .dat (.lst .str) xs), (1, .dat (.int .i64) m), (7, .ptr 7 0 0 []), (9, .dat (.int .i64) (1 : Int))]) (AllLook.less ⟨rfl, rfl, rfl, rfl, trivial⟩) ?_
    exact rest 1 (by simp only [learnE, hb])
theorem tail_2  (xs : List ByteArray) (m : Int) (hlen : xs.length ≤ 100) {w1 : Base} {F : Fence} {n : Nat} (hF : WF F) : Runs ⟨Tryz.prog, Tryz.tbl, w1, Tryz.f3.ntmps, []⟩ F n nobodyEnd { fr := [(0, .dat (.lst .str) xs), (1, .dat (.int .i64) m), (7, .ptr 7 0 0 [])], objs := [(7, .box (.pr .nilfn (.pr .nilfn .un)))] }
    (fun e τ => (e = .normal ∨ e = .ret) ∧ resAV Tryz.tbl τ.fr τ.objs Tryz.f3.results.toList = some (.dat .bool true) ∧ τ.mks = []) := by
  show Runs _ F n (.seq (.region _ _ _) (.seq (.seq (.region _ _ _) (.cond _ (.region _ _ _) .skip)) (.seq (.region _ _ _) (.seq (.region _ _ _) .ret)))) _ _
  refine reg_seq [] [(0, .dat (.lst .str) xs), (1, .dat (.int .i64) m), (7, .ptr 7 0 0 []), (9, .dat (.int .i64) (1 : Int))] tblOk mixed noToldOk hF (base := 0) rfl ⟨rfl, rfl, rfl, rfl, trivial⟩ (fun h => by cases h) (by simp [AllHold, pinO, pinE, look_nil, Cnd.holds, InR, iLo, iHi, InRange]) ?_
  refine runs_seq ?_
  refine reg_seq [] [(0, .dat (.lst .str) xs), (1, .dat (.int .i64) m), (7, .ptr 7 0 0 []), (9, .dat (.int .i64) (1 : Int)), (33, .dat .bool (!validB xs))] tblOk mixed HIsV_ok hF (base := 0) rfl ⟨rfl, rfl, rfl, rfl, rfl, trivial⟩ (fun h => by cases h) (by simp [AllHold, pinO, pinE, look_nil, Cnd.holds, InR, iLo, iHi, InRange, Go.Ab.callEff]) ?_
  have rest : ∀ e : Int, learnE xs = e → Runs ⟨Tryz.prog, Tryz.tbl, w1, Tryz.f3.ntmps, []⟩ F n nobodyLast { fr := [(0, .dat (.lst .str) xs), (1, .dat (.int .i64) m), (7, .ptr 7 0 0 []), (9, .dat (.int .i64) e)], objs := [(7, .box (.pr .nilfn (.pr .nilfn .un)))] }
    (fun e τ => (e = .normal ∨ e = .ret) ∧ resAV Tryz.tbl τ.fr τ.objs Tryz.f3.results.toList = some (.dat .bool true) ∧ τ.mks = []) := by
    intro e he
    show Runs _ F n (.seq (.region _ _ _) (.seq (.region _ _ _) .ret)) _ _
    cases xs with
    | nil =>
      refine reg_seq [] [(8, .dat (.int .i64) (learnE [])), (9, .dat (.int .i64) e), (10, .ptr 4096010 0 0 []), (11, .ptr 4096011 0 0 [])] tblOk mixed HL_ok hF (base := 1000) rfl ⟨rfl, rfl, rfl, rfl, trivial⟩ (fun _ => rfl) (by simp [AllHold, pinO, pinE, look_nil, Cnd.holds, InR, iLo, iHi, InRange, Go.Ab.callEff]) ?_
      refine reg_seq [(45, true)] [(6, .dat .bool true)] tblOk mixed HNo_ok hF (base := 1001) (by with_unfolding_all rfl) (by exact ⟨rfl, trivial⟩) (fun h => by cases h) (by simp [AllHold, pinO, pinE, look_nil, look_cons, Cnd.holds, InR, iLo, iHi, InRange, Go.Ab.callEff, he]) ?_
      exact runs_ret ⟨.inr rfl, rfl, rfl⟩
    | cons y r =>
      refine reg_seq [] [(8, .dat (.int .i64) (learnE (y :: r))), (9, .dat (.int .i64) e), (10, .ptr 4096010 0 0 []), (11, .ptr 4096011 0 0 [])] tblOk mixed HL_ok hF (base := 1000) rfl ⟨rfl, rfl, rfl, rfl, trivial⟩ (fun _ => rfl) (by simp [AllHold, pinO, pinE, look_nil, Cnd.holds, InR, iLo, iHi, InRange, Go.Ab.callEff, FitsRow]; have hl2 : List.length (α := Ty.str.V) (y :: r) ≤ 100 := hlen; omega) ?_
      refine reg_seq [(45, true)] [(6, .dat .bool true)] tblOk mixed HNo_ok hF (base := 1001) (by with_unfolding_all rfl) (by exact ⟨rfl, trivial⟩) (fun h => by cases h) (by simp [AllHold, pinO, pinE, look_nil, look_cons, Cnd.holds, InR, iLo, iHi, InRange, Go.Ab.callEff, he]) ?_
      exact runs_ret ⟨.inr rfl, rfl, rfl⟩
  refine runs_cond (b := !validB xs) rfl (fun hb => ?_) (fun hb => ?_)
  · replace hb : validB xs = false := by simpa using hb
    refine reg_end [] [(0, .dat (.lst .str) xs), (1, .dat (.int .i64) m), (7, .ptr 7 0 0 []), (9, .dat (.int .i64) (10 : Int))] tblOk mixed noToldOk hF (base := 0) rfl ⟨rfl, rfl, rfl, rfl, trivial⟩ (fun h => by cases h) (by simp [AllHold, pinO, pinE, look_nil, Cnd.holds, InR, iLo, iHi, InRange]) ?_
    exact rest 10 (by simp only [learnE, hb])
  · replace hb : validB xs = true := by simpa using hb
    refine runs_skip ?_
    refine Runs.less (fr' := [(0, .dat (.lst .str) xs), (1, .dat (.int .i64) m), (7, .ptr 7 0 0 []), (9, .dat (.int .i64) (1 : Int))]) (AllLook.less ⟨rfl, rfl, rfl, rfl, trivial⟩) ?_
    exact rest 1 (by simp only [learnE, hb])
end
end Go.Ab

namespace Go.Ab
noncomputable section
open Go Go.Proofs Go.RowKit
set_option maxRecDepth 100000
theorem look_shadow {α : Type} {k : Nat} {a b : α} (id : Nat) : look id [(k, a)] = look id ((k, a) :: [(k, b)]) := by
  simp only [look_cons, look_nil]
  by_cases h : id = k <;> simp [h]
theorem nobody3 (xs : List ByteArray) (m k : Int) : PureC Tryz.prog Tryz.tbl 3 [.dat (.lst .str) xs, .dat (.int .i64) m, .dat (.int .u8) k] (.dat .bool true) Tryz.f3 (Tryz.f3.body.get rfl) where
  hfn := Tryz.func3
  hbody := rfl
  hname := by kernel_rfl
  hN := by show 3 ≤ Tryz.f3.ntmps; exact Nat.le_of_ble_eq_true rfl
  hl := by intro x hx; simp at hx; rcases hx with rfl | rfl | rfl <;> rfl
  hv := rfl
  hrun := by
    intro w1 F n hF hr
    refine Runs.entry rfl (fun hst => ?_)
    show Runs _ F n (.seq (.region _ _ _) (.seq (.seq (.region _ _ _) (.cond _ (.seq (.region _ _ _) .ret) .skip)) (.seq code3 (.seq (.seq (.region _ _ _) (.cond _ (.seq (.region _ _ _) .ret) .skip)) (.seq (.seq (.region _ _ _) (.cond _ (.region _ _ _) .skip)) (.seq (.seq (.region _ _ _) (.cond _ (.region _ _ _) .skip)) nobodyEnd)))))) _ _
    refine reg_seq [] [(0, .dat (.lst .str) xs), (1, .dat (.int .i64) m), (2, .dat (.int .u8) k)] tblOk mixed noToldOk hF (base := 0) (objs' := []) rfl ⟨rfl, rfl, rfl, trivial⟩ (fun h => by cases h) (by simp [AllHold, pinO, pinE, look_nil, Cnd.holds, InR, iLo, iHi, InRange]) ?_
    refine runs_seq ?_
    refine reg_seq [] [(0, .dat (.lst .str) xs), (1, .dat (.int .i64) m), (2, .dat (.int .u8) k), (14, .dat .bool (decide (((xs.length : Nat) : Int) > 100)))] tblOk mixed noToldOk hF (base := 0) (objs' := []) rfl ⟨rfl, rfl, rfl, rfl, trivial⟩ (fun h => by cases h) (by simp [AllHold, pinO, pinE, look_nil, Cnd.holds, InR, iLo, iHi, InRange]) ?_
    refine runs_cond rfl (fun hb => ?_) (fun hb => ?_)
    · refine reg_seq [] [(6, .dat .bool true)] tblOk mixed HAw_ok hF (base := 0) (objs' := []) rfl ⟨rfl, trivial⟩ (fun h => by cases h) (by simp [AllHold, pinO, pinE, look_nil, Cnd.holds, InR, iLo, iHi, InRange, Go.Ab.callEff]) ?_
      exact runs_ret ⟨.inr rfl, rfl, rfl⟩
    have hlen : xs.length ≤ 100 := by simp at hb; omega
    refine runs_skip ?_
    refine Runs.less (fr' := [(0, .dat (.lst .str) xs), (1, .dat (.int .i64) m), (2, .dat (.int .u8) k)]) (AllLook.less ⟨rfl, rfl, rfl, trivial⟩) ?_
    show Runs _ _ _ (.seq code3 _) _ _
    obtain ⟨τ, f1, c1, f2, c2, hx, hmk, h7, h8, hbox, h0, h1, h2⟩ := out3_some (run3 xs m k)
    refine runs_seq (((exec_sound tblOk mixed 100000 _ _ _ _ _ _ hx w1 [] F n [] hF (fun _ => hr)).start (σ := { fr := [(0, .dat (.lst .str) xs), (1, .dat (.int .i64) m), (2, .dat (.int .u8) k)], objs := [] }) ⟨fun s => by simp only [XS.st, st3]; rw [look_trFr, trArgs_get]; rfl, fun id => rfl, rfl, rfl⟩).mono ?_)
    rintro e' τ' ⟨rfl, rfl⟩
    show Runs _ _ _ (.seq (.seq (.region _ _ _) (.cond _ (.seq (.region _ _ _) .ret) .skip)) _) _ _
    refine Runs.wkBox (k := 7) (v' := .pr (.fn f1 .any) (.pr (.fn f2 .any) .un)) hbox (.pr (.fn f1 c1) (.pr (.fn f2 c2) (.refl _))) ?_
    refine Runs.drop (keep := fun id => Nat.beq id 7) (objs' := [(7, .box (.pr (.fn f1 .any) (.pr (.fn f2 .any) .un)))]) (fr' := [(0, .dat (.lst .str) xs), (1, .dat (.int .i64) m), (2, .dat (.int .u8) k), (7, .ptr 7 0 0 []), (8, .dat (.int .i64) (0 : Int))]) hst rfl hmk (fun id => ?_) (fun id o ho j hj => ?_) (fun s v hs => ?_) ?_
    · show look id [(7, _)] = if Nat.beq id 7 = true then look id ((7, _) :: τ.objs) else none
      rw [look_cons, look_nil, look_cons]
      by_cases h : id = 7
      · subst h; rfl
      · rw [if_neg h, if_neg (fun e => h (Nat.eq_of_beq_eq_true e))]
    · obtain ⟨rfl, rfl⟩ := look_one ho
      cases hj
    · show look s (trFr τ.fr) = some v ∧ _
      rw [look_trFr]
      rw [look_cons] at hs
      split at hs
      · rename_i hh; subst hh; cases hs; exact ⟨h0, fun j hj => by cases hj⟩
      rw [look_cons] at hs
      split at hs
      · rename_i hh; subst hh; cases hs; exact ⟨h1, fun j hj => by cases hj⟩
      rw [look_cons] at hs
      split at hs
      · rename_i hh; subst hh; cases hs; exact ⟨h2, fun j hj => by cases hj⟩
      rw [look_cons] at hs
      split at hs
      · rename_i hh; subst hh; cases hs; exact ⟨h7, fun j hj => by simp [avIds] at hj; subst hj; rfl⟩
      obtain ⟨rfl, rfl⟩ := look_one hs
      exact ⟨h8, fun j hj => by cases hj⟩
    refine Runs.likeSt (τ := { fr := [(0, .dat (.lst .str) xs), (1, .dat (.int .i64) m), (2, .dat (.int .u8) k), (7, .ptr 7 0 0 []), (8, .dat (.int .i64) (0 : Int))], objs := [(7, .box (.pr (.fn f1 .any) (.pr (.fn f2 .any) .un)))] }) ⟨fun _ => rfl, fun _ => rfl, rfl, hmk.symm⟩ ?_
    refine runs_seq ?_
    refine reg_seq [] [(0, .dat (.lst .str) xs), (1, .dat (.int .i64) m), (2, .dat (.int .u8) k), (7, .ptr 7 0 0 []), (22, .dat .bool false)] tblOk mixed noToldOk hF (base := 0) (objs' := [(7, .box (.pr (.fn f1 .any) (.pr (.fn f2 .any) .un)))]) rfl ⟨rfl, rfl, rfl, rfl, rfl, trivial⟩ (fun h => by cases h) (by simp [AllHold, pinO, pinE, look_nil, Cnd.holds, InR, iLo, iHi, InRange]) ?_
    refine runs_cond (b := false) rfl (fun hf => by cases hf) (fun _ => runs_skip ?_)
    show Runs _ _ _ (.seq (.seq (.region _ _ _) (.cond _ (.region _ _ _) .skip)) _) _ _
    refine runs_seq ?_
    refine reg_seq [] [(0, .dat (.lst .str) xs), (1, .dat (.int .i64) m), (2, .dat (.int .u8) k), (7, .ptr 7 0 0 []), (25, .dat .bool (decide (irem k 3 < 2)))] tblOk mixed noToldOk hF (base := 0) (objs' := [(7, .box (.pr (.fn f1 .any) (.pr (.fn f2 .any) .un)))]) rfl ⟨rfl, rfl, rfl, rfl, rfl, trivial⟩ (fun h => by cases h) (by simp [AllHold, pinO, pinE, look_nil, Cnd.holds, InR, iLo, iHi, InRange]) ?_
    refine runs_cond rfl (fun hb => ?_) (fun hb => ?_)
    · refine reg_end [] [(0, .dat (.lst .str) xs), (1, .dat (.int .i64) m), (2, .dat (.int .u8) k), (7, .ptr 7 0 0 [])] tblOk mixed noToldOk hF (base := 0) (objs' := (7, .box (.pr .nilfn (.pr (.fn f2 .any) .un))) :: [(7, .box (.pr (.fn f1 .any) (.pr (.fn f2 .any) .un)))]) rfl ⟨rfl, rfl, rfl, rfl, trivial⟩ (fun h => by cases h) (by simp [AllHold, pinO, pinE, look_nil, Cnd.holds, InR, iLo, iHi, InRange]) ?_
      refine Runs.likeSt (τ := { fr := [(0, .dat (.lst .str) xs), (1, .dat (.int .i64) m), (2, .dat (.int .u8) k), (7, .ptr 7 0 0 [])], objs := [(7, .box (.pr .nilfn (.pr (.fn f2 .any) .un)))] }) ⟨fun _ => rfl, fun id => look_shadow id, rfl, rfl⟩ ?_
      show Runs _ _ _ (.seq (.seq (.region _ _ _) (.cond _ (.region _ _ _) .skip)) _) _ _
      refine runs_seq ?_
      refine reg_seq [] [(0, .dat (.lst .str) xs), (1, .dat (.int .i64) m), (2, .dat (.int .u8) k), (7, .ptr 7 0 0 []), (29, .dat .bool (decide (irem k 3 > 0)))] tblOk mixed noToldOk hF (base := 0) (objs' := [(7, .box (.pr .nilfn (.pr (.fn f2 .any) .un)))]) rfl ⟨rfl, rfl, rfl, rfl, rfl, trivial⟩ (fun h => by cases h) (by simp [AllHold, pinO, pinE, look_nil, Cnd.holds, InR, iLo, iHi, InRange]) ?_
      refine runs_cond rfl (fun hc => ?_) (fun hc => ?_)
      · refine reg_end [] [(0, .dat (.lst .str) xs), (1, .dat (.int .i64) m), (7, .ptr 7 0 0 [])] tblOk mixed noToldOk hF (base := 0) (objs' := (7, .box (.pr .nilfn (.pr .nilfn .un))) :: [(7, .box (.pr .nilfn (.pr (.fn f2 .any) .un)))]) rfl ⟨rfl, rfl, rfl, trivial⟩ (fun h => by cases h) (by simp [AllHold, pinO, pinE, look_nil, Cnd.holds, InR, iLo, iHi, InRange]) ?_
        refine Runs.likeSt (τ := { fr := [(0, .dat (.lst .str) xs), (1, .dat (.int .i64) m), (7, .ptr 7 0 0 [])], objs := [(7, .box (.pr .nilfn (.pr .nilfn .un)))] }) ⟨fun _ => rfl, fun id => look_shadow id, rfl, rfl⟩ ?_
        exact tail_2 xs m hlen hF
      · refine runs_skip ?_
        refine Runs.less (fr' := [(0, .dat (.lst .str) xs), (1, .dat (.int .i64) m), (7, .ptr 7 0 0 [])]) (AllLook.less ⟨rfl, rfl, rfl, trivial⟩) ?_
        exact tail_0 f2 xs m hlen hF
    · refine runs_skip ?_
      show Runs _ _ _ (.seq (.seq (.region _ _ _) (.cond _ (.region _ _ _) .skip)) _) _ _
      refine runs_seq ?_
      refine reg_seq [] [(0, .dat (.lst .str) xs), (1, .dat (.int .i64) m), (2, .dat (.int .u8) k), (7, .ptr 7 0 0 []), (29, .dat .bool (decide (irem k 3 > 0)))] tblOk mixed noToldOk hF (base := 0) (objs' := [(7, .box (.pr (.fn f1 .any) (.pr (.fn f2 .any) .un)))]) rfl ⟨rfl, rfl, rfl, rfl, rfl, trivial⟩ (fun h => by cases h) (by simp [AllHold, pinO, pinE, look_nil, Cnd.holds, InR, iLo, iHi, InRange]) ?_
      refine runs_cond rfl (fun hc => ?_) (fun hc => ?_)
      · refine reg_end [] [(0, .dat (.lst .str) xs), (1, .dat (.int .i64) m), (7, .ptr 7 0 0 [])] tblOk mixed noToldOk hF (base := 0) (objs' := (7, .box (.pr (.fn f1 .any) (.pr .nilfn .un))) :: [(7, .box (.pr (.fn f1 .any) (.pr (.fn f2 .any) .un)))]) rfl ⟨rfl, rfl, rfl, trivial⟩ (fun h => by cases h) (by simp [AllHold, pinO, pinE, look_nil, Cnd.holds, InR, iLo, iHi, InRange]) ?_
        refine Runs.likeSt (τ := { fr := [(0, .dat (.lst .str) xs), (1, .dat (.int .i64) m), (7, .ptr 7 0 0 [])], objs := [(7, .box (.pr (.fn f1 .any) (.pr .nilfn .un)))] }) ⟨fun _ => rfl, fun id => look_shadow id, rfl, rfl⟩ ?_
        exact tail_1 f1 xs m hlen hF
      · exact absurd hc (by simp at hb ⊢; omega)
end
end Go.Ab
