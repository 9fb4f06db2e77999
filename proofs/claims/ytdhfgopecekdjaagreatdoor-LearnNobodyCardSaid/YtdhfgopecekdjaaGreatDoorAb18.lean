/- The runs of awake() and of Teach(vend()), by the kernel; the early returns of learn.Learn. -/
import Derived.Test.YtdhfgopecekdjaaGreatDoorAb17
namespace Go.Ab
noncomputable section
open Go Go.Proofs Go.RowKit
theorem awake_run : pureX Tryz.tbl Tryz.prog.funcs 100000 4 [] = some (.dat .bool true) := by kernel_rfl
theorem awake4 : ∃ fn c, PureC Tryz.prog Tryz.tbl 4 [] (.dat .bool true) fn c := pureX_ok tblOk mixed awake_run (fun x hx => by cases hx) rfl
end
end Go.Ab

namespace Go.Ab
noncomputable section
open Go Go.Proofs Go.RowKit
set_option maxRecDepth 100000
def gVal : List AV → Option AV
  | [.dat (.lst .str) xs] => some (.dat .bool (validB xs))
  | _ => none
theorem gVal_some {l : List AV} {v : AV} (h : gVal l = some v) : ∃ xs, l = [.dat (.lst .str) xs] ∧ v = .dat .bool (validB xs) := by
  unfold gVal at h
  split at h
  · cases h; exact ⟨_, rfl, rfl⟩
  · cases h
theorem HLe_ok : ToldsOk Tryz.prog Tryz.tbl (toldOne 23 gVal) := toldOne_ok fun l v h => by
  obtain ⟨xs, rfl, rfl⟩ := gVal_some h
  exact ⟨_, _, valid23 xs⟩
def learnE (xs : List ByteArray) : Int := match validB xs with
  | true => 1
  | false => 10
def learnV (xs : List ByteArray) : AV := .tup (.pr (.pr (.nil (.str)) (.pr (.nil (.pair (.lst (.int .i64)) (.pair (.lst (.int .i64)) (.unit)))) (.un))) (.pr (.pr (.dat (.int .i64) (0 : Int)) (.pr (.dat (.int .i64) (0 : Int)) (.un))) (.pr (.dat (.int .i64) (learnE xs)) .un)))
theorem learnV_no {xs : List ByteArray} (h : validB xs = false) : learnV xs = .tup (.pr (.pr (.nil (.str)) (.pr (.nil (.pair (.lst (.int .i64)) (.pair (.lst (.int .i64)) (.unit)))) (.un))) (.pr (.pr (.dat (.int .i64) (0 : Int)) (.pr (.dat (.int .i64) (0 : Int)) (.un))) (.pr (.dat (.int .i64) (10 : Int)) .un))) := by simp only [learnV, learnE, h]
theorem learnV_yes {xs : List ByteArray} (h : validB xs = true) : learnV xs = .tup (.pr (.pr (.nil (.str)) (.pr (.nil (.pair (.lst (.int .i64)) (.pair (.lst (.int .i64)) (.unit)))) (.un))) (.pr (.pr (.dat (.int .i64) (0 : Int)) (.pr (.dat (.int .i64) (0 : Int)) (.un))) (.pr (.dat (.int .i64) (1 : Int)) .un))) := by simp only [learnV, learnE, h]
theorem look_one {α : Type} {id k : Nat} {x o : α} (h : look id [(k, x)] = some o) : id = k ∧ x = o := by
  rw [look_cons, look_nil] at h
  split at h
  · rename_i he; cases h; exact ⟨he, rfl⟩
  · cases h
theorem learn_00 (g : FuncId) (m : Int) {w1 : Base} {F : Fence} {n : Nat} (hF : WF F) : Runs ⟨Tryz.prog, Tryz.tbl, w1, Tryz.f8.ntmps, []⟩ F n (Tryz.f8.body.get rfl) { fr := [(0, .dat (.lst .str) []), (1, (.pr .nilfn (.pr (.fn g .any) .un))), (2, .dat (.int .i64) m)], objs := [] }
    (fun e τ => (e = .normal ∨ e = .ret) ∧ resAV Tryz.tbl τ.fr τ.objs Tryz.f8.results.toList = some (learnV []) ∧ τ.mks = [] ∧ ∀ id o, look id ([] : Objs) = some o → look id τ.objs = some o) := by
  show Runs _ F n (.seq (.region _ _ _) (.seq (.block _ (.seq (.region _ _ _) (.cond _ (.seq (.region _ _ _) .ret) (.seq (.region _ _ _) (.cond _ (.seq (.region _ _ _) .ret) .skip))))) _)) _ _
  refine reg_seq [] [(0, .dat (.lst .str) []), (2, .dat (.int .i64) m), (4, .ptr 20484 0 0 []), (6, .ptr 20486 0 0 []), (7, .ptr 20487 0 0 [])] tblOk mixed HLe_ok hF (base := 5) (objs' := (20487, .box (.pr (.dat (.int .i64) (0 : Int)) (.pr (.dat (.int .i64) (0 : Int)) (.un)))) :: (20486, .box (.pr (.nil (.str)) (.pr (.nil (.pair (.lst (.int .i64)) (.pair (.lst (.int .i64)) (.unit)))) (.un)))) :: (20484, .box (.pr .nilfn (.pr (.fn g .any) .un))) :: []) rfl ⟨rfl, rfl, rfl, rfl, rfl, trivial⟩ (fun h => by cases h) (by simp [AllHold, pinO, pinE, look_nil, Cnd.holds, InR, iLo, iHi, InRange]) ?_
  refine runs_seq (runs_block ?_)
  refine reg_seq [] [(0, .dat (.lst .str) []), (2, .dat (.int .i64) m), (4, .ptr 20484 0 0 []), (6, .ptr 20486 0 0 []), (7, .ptr 20487 0 0 []), (15, .dat .bool (!validB []))] tblOk mixed HLe_ok hF (base := 0) rfl ⟨rfl, rfl, rfl, rfl, rfl, rfl, trivial⟩ (fun h => by cases h) (by simp [AllHold, pinO, pinE, look_nil, Cnd.holds, InR, iLo, iHi, InRange, Go.Ab.callEff]) ?_
  refine runs_cond (b := !validB []) rfl (fun hb => ?_) (fun hb => ?_)
  · refine reg_seq [] [(6, .ptr 20486 0 0 []), (7, .ptr 20487 0 0 []), (8, .dat (.int .i64) (10 : Int))] tblOk mixed HLe_ok hF (base := 0) rfl ⟨rfl, rfl, rfl, trivial⟩ (fun h => by cases h) (by simp [AllHold, pinO, pinE, look_nil, Cnd.holds, InR, iLo, iHi, InRange]) ?_
    replace hb : validB [] = false := by simpa using hb
    exact runs_ret ⟨.inr rfl, by rw [learnV_no hb]; rfl, rfl, fun id o h => by simp [look_nil] at h⟩
  · replace hb : validB [] = true := by simpa using hb
    refine seq_via [(6, .ptr 20486 0 0 []), (7, .ptr 20487 0 0 []), (21, .dat .bool true)] (fun hk => ?_) ?_
    · by_cases h1 : m < 1
      · exact reg_seq [(23, true)] [(6, .ptr 20486 0 0 []), (7, .ptr 20487 0 0 []), (21, .dat .bool true)] tblOk mixed HLe_ok hF (base := 0) rfl ⟨rfl, rfl, rfl, trivial⟩ (fun h => by cases h) (by simp [AllHold, pinO, pinE, look_nil, look_cons, Cnd.holds, InR, iLo, iHi, InRange, h1]) hk
      · by_cases h2 : m > 500
        · exact reg_seq [(23, false), (26, true)] [(6, .ptr 20486 0 0 []), (7, .ptr 20487 0 0 []), (21, .dat .bool true)] tblOk mixed HLe_ok hF (base := 0) rfl ⟨rfl, rfl, rfl, trivial⟩ (fun h => by cases h) (by simp [AllHold, pinO, pinE, look_nil, look_cons, Cnd.holds, InR, iLo, iHi, InRange, h1, h2]) hk
        · exact reg_seq [(23, false), (26, false)] [(6, .ptr 20486 0 0 []), (7, .ptr 20487 0 0 []), (21, .dat .bool true)] tblOk mixed HLe_ok hF (base := 0) rfl ⟨rfl, rfl, rfl, trivial⟩ (fun h => by cases h) (by simp [AllHold, pinO, pinE, look_nil, look_cons, Cnd.holds, InR, iLo, iHi, InRange, h1, h2]) hk
    · show Runs _ _ _ _ _ _
      refine runs_cond (b := true) rfl (fun _ => ?_) (fun hf => by cases hf)
      refine reg_seq [] [(6, .ptr 20486 0 0 []), (7, .ptr 20487 0 0 []), (8, .dat (.int .i64) (1 : Int))] tblOk mixed HLe_ok hF (base := 0) rfl ⟨rfl, rfl, rfl, trivial⟩ (fun h => by cases h) (by simp [AllHold, pinO, pinE, look_nil, Cnd.holds, InR, iLo, iHi, InRange]) ?_
      exact runs_ret ⟨.inr rfl, by rw [learnV_yes hb]; rfl, rfl, fun id o h => by simp [look_nil] at h⟩
theorem learn_01 (g : FuncId) (m : Int) {w1 : Base} {F : Fence} {n : Nat} (hF : WF F) : Runs ⟨Tryz.prog, Tryz.tbl, w1, Tryz.f8.ntmps, []⟩ F n (Tryz.f8.body.get rfl) { fr := [(0, .dat (.lst .str) []), (1, (.pr (.fn g .any) (.pr .nilfn .un))), (2, .dat (.int .i64) m)], objs := [] }
    (fun e τ => (e = .normal ∨ e = .ret) ∧ resAV Tryz.tbl τ.fr τ.objs Tryz.f8.results.toList = some (learnV []) ∧ τ.mks = [] ∧ ∀ id o, look id ([] : Objs) = some o → look id τ.objs = some o) := by
  show Runs _ F n (.seq (.region _ _ _) (.seq (.block _ (.seq (.region _ _ _) (.cond _ (.seq (.region _ _ _) .ret) (.seq (.region _ _ _) (.cond _ (.seq (.region _ _ _) .ret) .skip))))) _)) _ _
  refine reg_seq [] [(0, .dat (.lst .str) []), (2, .dat (.int .i64) m), (4, .ptr 20484 0 0 []), (6, .ptr 20486 0 0 []), (7, .ptr 20487 0 0 [])] tblOk mixed HLe_ok hF (base := 5) (objs' := (20487, .box (.pr (.dat (.int .i64) (0 : Int)) (.pr (.dat (.int .i64) (0 : Int)) (.un)))) :: (20486, .box (.pr (.nil (.str)) (.pr (.nil (.pair (.lst (.int .i64)) (.pair (.lst (.int .i64)) (.unit)))) (.un)))) :: (20484, .box (.pr (.fn g .any) (.pr .nilfn .un))) :: []) rfl ⟨rfl, rfl, rfl, rfl, rfl, trivial⟩ (fun h => by cases h) (by simp [AllHold, pinO, pinE, look_nil, Cnd.holds, InR, iLo, iHi, InRange]) ?_
  refine runs_seq (runs_block ?_)
  refine reg_seq [] [(0, .dat (.lst .str) []), (2, .dat (.int .i64) m), (4, .ptr 20484 0 0 []), (6, .ptr 20486 0 0 []), (7, .ptr 20487 0 0 []), (15, .dat .bool (!validB []))] tblOk mixed HLe_ok hF (base := 0) rfl ⟨rfl, rfl, rfl, rfl, rfl, rfl, trivial⟩ (fun h => by cases h) (by simp [AllHold, pinO, pinE, look_nil, Cnd.holds, InR, iLo, iHi, InRange, Go.Ab.callEff]) ?_
  refine runs_cond (b := !validB []) rfl (fun hb => ?_) (fun hb => ?_)
  · refine reg_seq [] [(6, .ptr 20486 0 0 []), (7, .ptr 20487 0 0 []), (8, .dat (.int .i64) (10 : Int))] tblOk mixed HLe_ok hF (base := 0) rfl ⟨rfl, rfl, rfl, trivial⟩ (fun h => by cases h) (by simp [AllHold, pinO, pinE, look_nil, Cnd.holds, InR, iLo, iHi, InRange]) ?_
    replace hb : validB [] = false := by simpa using hb
    exact runs_ret ⟨.inr rfl, by rw [learnV_no hb]; rfl, rfl, fun id o h => by simp [look_nil] at h⟩
  · replace hb : validB [] = true := by simpa using hb
    refine seq_via [(6, .ptr 20486 0 0 []), (7, .ptr 20487 0 0 []), (21, .dat .bool true)] (fun hk => ?_) ?_
    · by_cases h1 : m < 1
      · exact reg_seq [(23, true)] [(6, .ptr 20486 0 0 []), (7, .ptr 20487 0 0 []), (21, .dat .bool true)] tblOk mixed HLe_ok hF (base := 0) rfl ⟨rfl, rfl, rfl, trivial⟩ (fun h => by cases h) (by simp [AllHold, pinO, pinE, look_nil, look_cons, Cnd.holds, InR, iLo, iHi, InRange, h1]) hk
      · by_cases h2 : m > 500
        · exact reg_seq [(23, false), (26, true)] [(6, .ptr 20486 0 0 []), (7, .ptr 20487 0 0 []), (21, .dat .bool true)] tblOk mixed HLe_ok hF (base := 0) rfl ⟨rfl, rfl, rfl, trivial⟩ (fun h => by cases h) (by simp [AllHold, pinO, pinE, look_nil, look_cons, Cnd.holds, InR, iLo, iHi, InRange, h1, h2]) hk
        · exact reg_seq [(23, false), (26, false)] [(6, .ptr 20486 0 0 []), (7, .ptr 20487 0 0 []), (21, .dat .bool true)] tblOk mixed HLe_ok hF (base := 0) rfl ⟨rfl, rfl, rfl, trivial⟩ (fun h => by cases h) (by simp [AllHold, pinO, pinE, look_nil, look_cons, Cnd.holds, InR, iLo, iHi, InRange, h1, h2]) hk
    · show Runs _ _ _ _ _ _
      refine runs_cond (b := true) rfl (fun _ => ?_) (fun hf => by cases hf)
      refine reg_seq [] [(6, .ptr 20486 0 0 []), (7, .ptr 20487 0 0 []), (8, .dat (.int .i64) (1 : Int))] tblOk mixed HLe_ok hF (base := 0) rfl ⟨rfl, rfl, rfl, trivial⟩ (fun h => by cases h) (by simp [AllHold, pinO, pinE, look_nil, Cnd.holds, InR, iLo, iHi, InRange]) ?_
      exact runs_ret ⟨.inr rfl, by rw [learnV_yes hb]; rfl, rfl, fun id o h => by simp [look_nil] at h⟩
theorem learn_02  (m : Int) {w1 : Base} {F : Fence} {n : Nat} (hF : WF F) : Runs ⟨Tryz.prog, Tryz.tbl, w1, Tryz.f8.ntmps, []⟩ F n (Tryz.f8.body.get rfl) { fr := [(0, .dat (.lst .str) []), (1, (.pr .nilfn (.pr .nilfn .un))), (2, .dat (.int .i64) m)], objs := [] }
    (fun e τ => (e = .normal ∨ e = .ret) ∧ resAV Tryz.tbl τ.fr τ.objs Tryz.f8.results.toList = some (learnV []) ∧ τ.mks = [] ∧ ∀ id o, look id ([] : Objs) = some o → look id τ.objs = some o) := by
  show Runs _ F n (.seq (.region _ _ _) (.seq (.block _ (.seq (.region _ _ _) (.cond _ (.seq (.region _ _ _) .ret) (.seq (.region _ _ _) (.cond _ (.seq (.region _ _ _) .ret) .skip))))) _)) _ _
  refine reg_seq [] [(0, .dat (.lst .str) []), (2, .dat (.int .i64) m), (4, .ptr 20484 0 0 []), (6, .ptr 20486 0 0 []), (7, .ptr 20487 0 0 [])] tblOk mixed HLe_ok hF (base := 5) (objs' := (20487, .box (.pr (.dat (.int .i64) (0 : Int)) (.pr (.dat (.int .i64) (0 : Int)) (.un)))) :: (20486, .box (.pr (.nil (.str)) (.pr (.nil (.pair (.lst (.int .i64)) (.pair (.lst (.int .i64)) (.unit)))) (.un)))) :: (20484, .box (.pr .nilfn (.pr .nilfn .un))) :: []) rfl ⟨rfl, rfl, rfl, rfl, rfl, trivial⟩ (fun h => by cases h) (by simp [AllHold, pinO, pinE, look_nil, Cnd.holds, InR, iLo, iHi, InRange]) ?_
  refine runs_seq (runs_block ?_)
  refine reg_seq [] [(0, .dat (.lst .str) []), (2, .dat (.int .i64) m), (4, .ptr 20484 0 0 []), (6, .ptr 20486 0 0 []), (7, .ptr 20487 0 0 []), (15, .dat .bool (!validB []))] tblOk mixed HLe_ok hF (base := 0) rfl ⟨rfl, rfl, rfl, rfl, rfl, rfl, trivial⟩ (fun h => by cases h) (by simp [AllHold, pinO, pinE, look_nil, Cnd.holds, InR, iLo, iHi, InRange, Go.Ab.callEff]) ?_
  refine runs_cond (b := !validB []) rfl (fun hb => ?_) (fun hb => ?_)
  · refine reg_seq [] [(6, .ptr 20486 0 0 []), (7, .ptr 20487 0 0 []), (8, .dat (.int .i64) (10 : Int))] tblOk mixed HLe_ok hF (base := 0) rfl ⟨rfl, rfl, rfl, trivial⟩ (fun h => by cases h) (by simp [AllHold, pinO, pinE, look_nil, Cnd.holds, InR, iLo, iHi, InRange]) ?_
    replace hb : validB [] = false := by simpa using hb
    exact runs_ret ⟨.inr rfl, by rw [learnV_no hb]; rfl, rfl, fun id o h => by simp [look_nil] at h⟩
  · replace hb : validB [] = true := by simpa using hb
    refine seq_via [(6, .ptr 20486 0 0 []), (7, .ptr 20487 0 0 []), (21, .dat .bool true)] (fun hk => ?_) ?_
    · by_cases h1 : m < 1
      · exact reg_seq [(23, true)] [(6, .ptr 20486 0 0 []), (7, .ptr 20487 0 0 []), (21, .dat .bool true)] tblOk mixed HLe_ok hF (base := 0) rfl ⟨rfl, rfl, rfl, trivial⟩ (fun h => by cases h) (by simp [AllHold, pinO, pinE, look_nil, look_cons, Cnd.holds, InR, iLo, iHi, InRange, h1]) hk
      · by_cases h2 : m > 500
        · exact reg_seq [(23, false), (26, true)] [(6, .ptr 20486 0 0 []), (7, .ptr 20487 0 0 []), (21, .dat .bool true)] tblOk mixed HLe_ok hF (base := 0) rfl ⟨rfl, rfl, rfl, trivial⟩ (fun h => by cases h) (by simp [AllHold, pinO, pinE, look_nil, look_cons, Cnd.holds, InR, iLo, iHi, InRange, h1, h2]) hk
        · exact reg_seq [(23, false), (26, false)] [(6, .ptr 20486 0 0 []), (7, .ptr 20487 0 0 []), (21, .dat .bool true)] tblOk mixed HLe_ok hF (base := 0) rfl ⟨rfl, rfl, rfl, trivial⟩ (fun h => by cases h) (by simp [AllHold, pinO, pinE, look_nil, look_cons, Cnd.holds, InR, iLo, iHi, InRange, h1, h2]) hk
    · show Runs _ _ _ _ _ _
      refine runs_cond (b := true) rfl (fun _ => ?_) (fun hf => by cases hf)
      refine reg_seq [] [(6, .ptr 20486 0 0 []), (7, .ptr 20487 0 0 []), (8, .dat (.int .i64) (1 : Int))] tblOk mixed HLe_ok hF (base := 0) rfl ⟨rfl, rfl, rfl, trivial⟩ (fun h => by cases h) (by simp [AllHold, pinO, pinE, look_nil, Cnd.holds, InR, iLo, iHi, InRange]) ?_
      exact runs_ret ⟨.inr rfl, by rw [learnV_yes hb]; rfl, rfl, fun id o h => by simp [look_nil] at h⟩
theorem learn_10 (g : FuncId) (xs : List ByteArray) (m : Int) {w1 : Base} {F : Fence} {n : Nat} (hF : WF F) : Runs ⟨Tryz.prog, Tryz.tbl, w1, Tryz.f8.ntmps, []⟩ F n (Tryz.f8.body.get rfl) { fr := [(0, .dat (.lst .str) xs), (1, (.pr .nilfn (.pr (.fn g .any) .un))), (2, .dat (.int .i64) m)], objs := [(4096036, .frz .str xs)] }
    (fun e τ => (e = .normal ∨ e = .ret) ∧ resAV Tryz.tbl τ.fr τ.objs Tryz.f8.results.toList = some (learnV xs) ∧ τ.mks = [] ∧ ∀ id o, look id ([(4096036, .frz .str xs)] : Objs) = some o → look id τ.objs = some o) := by
  show Runs _ F n (.seq (.region _ _ _) (.seq (.block _ (.seq (.region _ _ _) (.cond _ (.seq (.region _ _ _) .ret) (.seq (.region _ _ _) (.cond _ (.seq (.region _ _ _) .ret) .skip))))) _)) _ _
  refine reg_seq [] [(0, .dat (.lst .str) xs), (2, .dat (.int .i64) m), (4, .ptr 20484 0 0 []), (6, .ptr 20486 0 0 []), (7, .ptr 20487 0 0 [])] tblOk mixed HLe_ok hF (base := 5) (objs' := (20487, .box (.pr (.dat (.int .i64) (0 : Int)) (.pr (.dat (.int .i64) (0 : Int)) (.un)))) :: (20486, .box (.pr (.nil (.str)) (.pr (.nil (.pair (.lst (.int .i64)) (.pair (.lst (.int .i64)) (.unit)))) (.un)))) :: (20484, .box (.pr .nilfn (.pr (.fn g .any) .un))) :: [(4096036, .frz .str xs)]) rfl ⟨rfl, rfl, rfl, rfl, rfl, trivial⟩ (fun h => by cases h) (by simp [AllHold, pinO, pinE, look_nil, Cnd.holds, InR, iLo, iHi, InRange]) ?_
  refine runs_seq (runs_block ?_)
  refine reg_seq [] [(0, .dat (.lst .str) xs), (2, .dat (.int .i64) m), (4, .ptr 20484 0 0 []), (6, .ptr 20486 0 0 []), (7, .ptr 20487 0 0 []), (15, .dat .bool (!validB xs))] tblOk mixed HLe_ok hF (base := 0) rfl ⟨rfl, rfl, rfl, rfl, rfl, rfl, trivial⟩ (fun h => by cases h) (by simp [AllHold, pinO, pinE, look_nil, Cnd.holds, InR, iLo, iHi, InRange, Go.Ab.callEff]) ?_
  refine runs_cond (b := !validB xs) rfl (fun hb => ?_) (fun hb => ?_)
  · refine reg_seq [] [(6, .ptr 20486 0 0 []), (7, .ptr 20487 0 0 []), (8, .dat (.int .i64) (10 : Int))] tblOk mixed HLe_ok hF (base := 0) rfl ⟨rfl, rfl, rfl, trivial⟩ (fun h => by cases h) (by simp [AllHold, pinO, pinE, look_nil, Cnd.holds, InR, iLo, iHi, InRange]) ?_
    replace hb : validB xs = false := by simpa using hb
    exact runs_ret ⟨.inr rfl, by rw [learnV_no hb]; rfl, rfl, fun id o h => by obtain ⟨rfl, rfl⟩ := look_one h; rfl⟩
  · replace hb : validB xs = true := by simpa using hb
    refine seq_via [(6, .ptr 20486 0 0 []), (7, .ptr 20487 0 0 []), (21, .dat .bool true)] (fun hk => ?_) ?_
    · by_cases h1 : m < 1
      · exact reg_seq [(23, true)] [(6, .ptr 20486 0 0 []), (7, .ptr 20487 0 0 []), (21, .dat .bool true)] tblOk mixed HLe_ok hF (base := 0) rfl ⟨rfl, rfl, rfl, trivial⟩ (fun h => by cases h) (by simp [AllHold, pinO, pinE, look_nil, look_cons, Cnd.holds, InR, iLo, iHi, InRange, h1]) hk
      · by_cases h2 : m > 500
        · exact reg_seq [(23, false), (26, true)] [(6, .ptr 20486 0 0 []), (7, .ptr 20487 0 0 []), (21, .dat .bool true)] tblOk mixed HLe_ok hF (base := 0) rfl ⟨rfl, rfl, rfl, trivial⟩ (fun h => by cases h) (by simp [AllHold, pinO, pinE, look_nil, look_cons, Cnd.holds, InR, iLo, iHi, InRange, h1, h2]) hk
        · exact reg_seq [(23, false), (26, false)] [(6, .ptr 20486 0 0 []), (7, .ptr 20487 0 0 []), (21, .dat .bool true)] tblOk mixed HLe_ok hF (base := 0) rfl ⟨rfl, rfl, rfl, trivial⟩ (fun h => by cases h) (by simp [AllHold, pinO, pinE, look_nil, look_cons, Cnd.holds, InR, iLo, iHi, InRange, h1, h2]) hk
    · show Runs _ _ _ _ _ _
      refine runs_cond (b := true) rfl (fun _ => ?_) (fun hf => by cases hf)
      refine reg_seq [] [(6, .ptr 20486 0 0 []), (7, .ptr 20487 0 0 []), (8, .dat (.int .i64) (1 : Int))] tblOk mixed HLe_ok hF (base := 0) rfl ⟨rfl, rfl, rfl, trivial⟩ (fun h => by cases h) (by simp [AllHold, pinO, pinE, look_nil, Cnd.holds, InR, iLo, iHi, InRange]) ?_
      exact runs_ret ⟨.inr rfl, by rw [learnV_yes hb]; rfl, rfl, fun id o h => by obtain ⟨rfl, rfl⟩ := look_one h; rfl⟩
theorem learn_11 (g : FuncId) (xs : List ByteArray) (m : Int) {w1 : Base} {F : Fence} {n : Nat} (hF : WF F) : Runs ⟨Tryz.prog, Tryz.tbl, w1, Tryz.f8.ntmps, []⟩ F n (Tryz.f8.body.get rfl) { fr := [(0, .dat (.lst .str) xs), (1, (.pr (.fn g .any) (.pr .nilfn .un))), (2, .dat (.int .i64) m)], objs := [(4096036, .frz .str xs)] }
    (fun e τ => (e = .normal ∨ e = .ret) ∧ resAV Tryz.tbl τ.fr τ.objs Tryz.f8.results.toList = some (learnV xs) ∧ τ.mks = [] ∧ ∀ id o, look id ([(4096036, .frz .str xs)] : Objs) = some o → look id τ.objs = some o) := by
  show Runs _ F n (.seq (.region _ _ _) (.seq (.block _ (.seq (.region _ _ _) (.cond _ (.seq (.region _ _ _) .ret) (.seq (.region _ _ _) (.cond _ (.seq (.region _ _ _) .ret) .skip))))) _)) _ _
  refine reg_seq [] [(0, .dat (.lst .str) xs), (2, .dat (.int .i64) m), (4, .ptr 20484 0 0 []), (6, .ptr 20486 0 0 []), (7, .ptr 20487 0 0 [])] tblOk mixed HLe_ok hF (base := 5) (objs' := (20487, .box (.pr (.dat (.int .i64) (0 : Int)) (.pr (.dat (.int .i64) (0 : Int)) (.un)))) :: (20486, .box (.pr (.nil (.str)) (.pr (.nil (.pair (.lst (.int .i64)) (.pair (.lst (.int .i64)) (.unit)))) (.un)))) :: (20484, .box (.pr (.fn g .any) (.pr .nilfn .un))) :: [(4096036, .frz .str xs)]) rfl ⟨rfl, rfl, rfl, rfl, rfl, trivial⟩ (fun h => by cases h) (by simp [AllHold, pinO, pinE, look_nil, Cnd.holds, InR, iLo, iHi, InRange]) ?_
  refine runs_seq (runs_block ?_)
  refine reg_seq [] [(0, .dat (.lst .str) xs), (2, .dat (.int .i64) m), (4, .ptr 20484 0 0 []), (6, .ptr 20486 0 0 []), (7, .ptr 20487 0 0 []), (15, .dat .bool (!validB xs))] tblOk mixed HLe_ok hF (base := 0) rfl ⟨rfl, rfl, rfl, rfl, rfl, rfl, trivial⟩ (fun h => by cases h) (by simp [AllHold, pinO, pinE, look_nil, Cnd.holds, InR, iLo, iHi, InRange, Go.Ab.callEff]) ?_
  refine runs_cond (b := !validB xs) rfl (fun hb => ?_) (fun hb => ?_)
  · refine reg_seq [] [(6, .ptr 20486 0 0 []), (7, .ptr 20487 0 0 []), (8, .dat (.int .i64) (10 : Int))] tblOk mixed HLe_ok hF (base := 0) rfl ⟨rfl, rfl, rfl, trivial⟩ (fun h => by cases h) (by simp [AllHold, pinO, pinE, look_nil, Cnd.holds, InR, iLo, iHi, InRange]) ?_
    replace hb : validB xs = false := by simpa using hb
    exact runs_ret ⟨.inr rfl, by rw [learnV_no hb]; rfl, rfl, fun id o h => by obtain ⟨rfl, rfl⟩ := look_one h; rfl⟩
  · replace hb : validB xs = true := by simpa using hb
    refine seq_via [(6, .ptr 20486 0 0 []), (7, .ptr 20487 0 0 []), (21, .dat .bool true)] (fun hk => ?_) ?_
    · by_cases h1 : m < 1
      · exact reg_seq [(23, true)] [(6, .ptr 20486 0 0 []), (7, .ptr 20487 0 0 []), (21, .dat .bool true)] tblOk mixed HLe_ok hF (base := 0) rfl ⟨rfl, rfl, rfl, trivial⟩ (fun h => by cases h) (by simp [AllHold, pinO, pinE, look_nil, look_cons, Cnd.holds, InR, iLo, iHi, InRange, h1]) hk
      · by_cases h2 : m > 500
        · exact reg_seq [(23, false), (26, true)] [(6, .ptr 20486 0 0 []), (7, .ptr 20487 0 0 []), (21, .dat .bool true)] tblOk mixed HLe_ok hF (base := 0) rfl ⟨rfl, rfl, rfl, trivial⟩ (fun h => by cases h) (by simp [AllHold, pinO, pinE, look_nil, look_cons, Cnd.holds, InR, iLo, iHi, InRange, h1, h2]) hk
        · exact reg_seq [(23, false), (26, false)] [(6, .ptr 20486 0 0 []), (7, .ptr 20487 0 0 []), (21, .dat .bool true)] tblOk mixed HLe_ok hF (base := 0) rfl ⟨rfl, rfl, rfl, trivial⟩ (fun h => by cases h) (by simp [AllHold, pinO, pinE, look_nil, look_cons, Cnd.holds, InR, iLo, iHi, InRange, h1, h2]) hk
    · show Runs _ _ _ _ _ _
      refine runs_cond (b := true) rfl (fun _ => ?_) (fun hf => by cases hf)
      refine reg_seq [] [(6, .ptr 20486 0 0 []), (7, .ptr 20487 0 0 []), (8, .dat (.int .i64) (1 : Int))] tblOk mixed HLe_ok hF (base := 0) rfl ⟨rfl, rfl, rfl, trivial⟩ (fun h => by cases h) (by simp [AllHold, pinO, pinE, look_nil, Cnd.holds, InR, iLo, iHi, InRange]) ?_
      exact runs_ret ⟨.inr rfl, by rw [learnV_yes hb]; rfl, rfl, fun id o h => by obtain ⟨rfl, rfl⟩ := look_one h; rfl⟩
theorem learn_12  (xs : List ByteArray) (m : Int) {w1 : Base} {F : Fence} {n : Nat} (hF : WF F) : Runs ⟨Tryz.prog, Tryz.tbl, w1, Tryz.f8.ntmps, []⟩ F n (Tryz.f8.body.get rfl) { fr := [(0, .dat (.lst .str) xs), (1, (.pr .nilfn (.pr .nilfn .un))), (2, .dat (.int .i64) m)], objs := [(4096036, .frz .str xs)] }
    (fun e τ => (e = .normal ∨ e = .ret) ∧ resAV Tryz.tbl τ.fr τ.objs Tryz.f8.results.toList = some (learnV xs) ∧ τ.mks = [] ∧ ∀ id o, look id ([(4096036, .frz .str xs)] : Objs) = some o → look id τ.objs = some o) := by
  show Runs _ F n (.seq (.region _ _ _) (.seq (.block _ (.seq (.region _ _ _) (.cond _ (.seq (.region _ _ _) .ret) (.seq (.region _ _ _) (.cond _ (.seq (.region _ _ _) .ret) .skip))))) _)) _ _
  refine reg_seq [] [(0, .dat (.lst .str) xs), (2, .dat (.int .i64) m), (4, .ptr 20484 0 0 []), (6, .ptr 20486 0 0 []), (7, .ptr 20487 0 0 [])] tblOk mixed HLe_ok hF (base := 5) (objs' := (20487, .box (.pr (.dat (.int .i64) (0 : Int)) (.pr (.dat (.int .i64) (0 : Int)) (.un)))) :: (20486, .box (.pr (.nil (.str)) (.pr (.nil (.pair (.lst (.int .i64)) (.pair (.lst (.int .i64)) (.unit)))) (.un)))) :: (20484, .box (.pr .nilfn (.pr .nilfn .un))) :: [(4096036, .frz .str xs)]) rfl ⟨rfl, rfl, rfl, rfl, rfl, trivial⟩ (fun h => by cases h) (by simp [AllHold, pinO, pinE, look_nil, Cnd.holds, InR, iLo, iHi, InRange]) ?_
  refine runs_seq (runs_block ?_)
  refine reg_seq [] [(0, .dat (.lst .str) xs), (2, .dat (.int .i64) m), (4, .ptr 20484 0 0 []), (6, .ptr 20486 0 0 []), (7, .ptr 20487 0 0 []), (15, .dat .bool (!validB xs))] tblOk mixed HLe_ok hF (base := 0) rfl ⟨rfl, rfl, rfl, rfl, rfl, rfl, trivial⟩ (fun h => by cases h) (by simp [AllHold, pinO, pinE, look_nil, Cnd.holds, InR, iLo, iHi, InRange, Go.Ab.callEff]) ?_
  refine runs_cond (b := !validB xs) rfl (fun hb => ?_) (fun hb => ?_)
  · refine reg_seq [] [(6, .ptr 20486 0 0 []), (7, .ptr 20487 0 0 []), (8, .dat (.int .i64) (10 : Int))] tblOk mixed HLe_ok hF (base := 0) rfl ⟨rfl, rfl, rfl, trivial⟩ (fun h => by cases h) (by simp [AllHold, pinO, pinE, look_nil, Cnd.holds, InR, iLo, iHi, InRange]) ?_
    replace hb : validB xs = false := by simpa using hb
    exact runs_ret ⟨.inr rfl, by rw [learnV_no hb]; rfl, rfl, fun id o h => by obtain ⟨rfl, rfl⟩ := look_one h; rfl⟩
  · replace hb : validB xs = true := by simpa using hb
    refine seq_via [(6, .ptr 20486 0 0 []), (7, .ptr 20487 0 0 []), (21, .dat .bool true)] (fun hk => ?_) ?_
    · by_cases h1 : m < 1
      · exact reg_seq [(23, true)] [(6, .ptr 20486 0 0 []), (7, .ptr 20487 0 0 []), (21, .dat .bool true)] tblOk mixed HLe_ok hF (base := 0) rfl ⟨rfl, rfl, rfl, trivial⟩ (fun h => by cases h) (by simp [AllHold, pinO, pinE, look_nil, look_cons, Cnd.holds, InR, iLo, iHi, InRange, h1]) hk
      · by_cases h2 : m > 500
        · exact reg_seq [(23, false), (26, true)] [(6, .ptr 20486 0 0 []), (7, .ptr 20487 0 0 []), (21, .dat .bool true)] tblOk mixed HLe_ok hF (base := 0) rfl ⟨rfl, rfl, rfl, trivial⟩ (fun h => by cases h) (by simp [AllHold, pinO, pinE, look_nil, look_cons, Cnd.holds, InR, iLo, iHi, InRange, h1, h2]) hk
        · exact reg_seq [(23, false), (26, false)] [(6, .ptr 20486 0 0 []), (7, .ptr 20487 0 0 []), (21, .dat .bool true)] tblOk mixed HLe_ok hF (base := 0) rfl ⟨rfl, rfl, rfl, trivial⟩ (fun h => by cases h) (by simp [AllHold, pinO, pinE, look_nil, look_cons, Cnd.holds, InR, iLo, iHi, InRange, h1, h2]) hk
    · show Runs _ _ _ _ _ _
      refine runs_cond (b := true) rfl (fun _ => ?_) (fun hf => by cases hf)
      refine reg_seq [] [(6, .ptr 20486 0 0 []), (7, .ptr 20487 0 0 []), (8, .dat (.int .i64) (1 : Int))] tblOk mixed HLe_ok hF (base := 0) rfl ⟨rfl, rfl, rfl, trivial⟩ (fun h => by cases h) (by simp [AllHold, pinO, pinE, look_nil, Cnd.holds, InR, iLo, iHi, InRange]) ?_
      exact runs_ret ⟨.inr rfl, by rw [learnV_yes hb]; rfl, rfl, fun id o h => by obtain ⟨rfl, rfl⟩ := look_one h; rfl⟩
end
end Go.Ab

namespace Go.Ab
noncomputable section
open Go Go.Proofs Go.RowKit
set_option maxRecDepth 100000
noncomputable def code3 : Code := match Tryz.f3.body with
  | some (.seq _ (.seq _ (.seq c _))) => c
  | _ => .skip
noncomputable def st3 (xs : List ByteArray) (m k : Int) : XS := { fr := trArgs 0 [.dat (.lst .str) xs, .dat (.int .i64) m, .dat (.int .u8) k], objs := [], mks := [], cnt := 0 }
/-- What stands behind 't, e := learn.Teach(vend())'. -/
noncomputable def out3 : Option (XE × XS) → Option (AV × AV × AV)
  | some (.nrm, τ) => match τ.mks, trGet τ.fr 7, trGet τ.fr 8, look 7 τ.objs with
    | [], some (.ptr 7 0 0 []), some (.dat (.int .i64) e), some (.box (.pr (.fn _ _) (.pr (.fn _ _) .un))) => match eqI e 0, trGet τ.fr 0, trGet τ.fr 1, trGet τ.fr 2 with
      | true, some a, some b, some c => some (a, b, c)
      | _, _, _, _ => none
    | _, _, _, _ => none
  | _ => none
theorem run3 (xs : List ByteArray) (m k : Int) : out3 (exec Tryz.tbl Tryz.prog.funcs 100000 Tryz.f3.ntmps false code3 (st3 xs m k)) = some (.dat (.lst .str) xs, .dat (.int .i64) m, .dat (.int .u8) k) := by kernel_rfl
theorem out3_some {r : Option (XE × XS)} {a b c : AV} (h : out3 r = some (a, b, c)) : ∃ τ f1 c1 f2 c2, r = some (.nrm, τ) ∧ τ.mks = [] ∧ trGet τ.fr 7 = some (.ptr 7 0 0 []) ∧ trGet τ.fr 8 = some (.dat (.int .i64) (0 : Int)) ∧
    look 7 τ.objs = some (.box (.pr (.fn f1 c1) (.pr (.fn f2 c2) .un))) ∧ trGet τ.fr 0 = some a ∧ trGet τ.fr 1 = some b ∧ trGet τ.fr 2 = some c := by
  unfold out3 at h
  split at h
  · rename_i τ
    split at h
    · rename_i h1 h2 h3 h4
      split at h
      · rename_i h5 h6 h7 h8
        cases h
        have := eqI_of h5
        subst this
        exact ⟨τ, _, _, _, _, rfl, h1, h2, h3, h4, h6, h7, h8⟩
      · cases h
    · cases h
  · cases h
theorem none_run : pureX Tryz.tbl Tryz.prog.funcs 1000 9 [.pr (.nil (.str)) (.pr (.nil (.pair (.lst (.int .i64)) (.pair (.lst (.int .i64)) (.unit)))) (.un))] = some (.dat .bool true) := by kernel_rfl
theorem none9 : ∃ fn c, PureC Tryz.prog Tryz.tbl 9 [.pr (.nil (.str)) (.pr (.nil (.pair (.lst (.int .i64)) (.pair (.lst (.int .i64)) (.unit)))) (.un))] (.dat .bool true) fn c := pureX_ok tblOk mixed none_run (fun x hx => by simp at hx; subst hx; rfl) rfl
end
end Go.Ab
