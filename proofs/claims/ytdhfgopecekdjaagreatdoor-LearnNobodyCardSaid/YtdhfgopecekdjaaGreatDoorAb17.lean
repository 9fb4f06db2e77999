/- act.Valid and makeweightref01.Is compute the same function of every list of names. -/
import Derived.Test.YtdhfgopecekdjaaGreatDoorAb16
import Derived.Test.YtdhfgopecekdjaaGreatDoorProg
import Derived.KernelRfl
namespace Go.Ab
noncomputable section
open Go
def Tryz.page0 : List (TypeId × TI) := [(2, { d := .int .i64, size := 1, bytes := 8, agg := false, zero := .dat (.int .i64) (0 : Int), ty := some (.int .i64) }),
  (3, { d := .int .i64, size := 1, bytes := 8, agg := false, zero := .dat (.int .i64) (0 : Int), ty := some (.int .i64) }),
  (4, { d := .bool, size := 1, bytes := 1, agg := false, zero := .dat .bool false, ty := some (.bool) }),
  (5, { d := .int .u8, size := 1, bytes := 1, agg := false, zero := .dat (.int .u8) (0 : Int), ty := some (.int .u8) }),
  (9, { d := .str, size := 1, bytes := 16, agg := false, zero := .dat .str ByteArray.empty, ty := some (.str) })]
def Tryz.page1 : List (TypeId × TI) := [(20, { d := .other, size := 1, bytes := 16, agg := false, zero := .any, ty := none }),
  (22, { d := .slice 9, size := 1, bytes := 24, agg := false, zero := .nil (.str), ty := some (.lst (.str)) }),
  (24, { d := .func, size := 1, bytes := 8, agg := false, zero := .nilfn, ty := none }),
  (25, { d := .func, size := 1, bytes := 8, agg := false, zero := .nilfn, ty := none }),
  (27, { d := .struct [(24, 0), (25, 1)], size := 2, bytes := 16, agg := true, zero := .pr (.nilfn) (.pr (.nilfn) (.un)), ty := none }),
  (28, { d := .int .i64, size := 1, bytes := 8, agg := false, zero := .dat (.int .i64) (0 : Int), ty := some (.int .i64) }),
  (31, { d := .slice 47, size := 1, bytes := 24, agg := false, zero := .nil (.pair (.lst (.int .i64)) (.pair (.lst (.int .i64)) (.unit))), ty := some (.lst (.pair (.lst (.int .i64)) (.pair (.lst (.int .i64)) (.unit)))) })]
def Tryz.page2 : List (TypeId × TI) := [(33, { d := .struct [(22, 0), (31, 1)], size := 2, bytes := 48, agg := true, zero := .pr (.nil (.str)) (.pr (.nil (.pair (.lst (.int .i64)) (.pair (.lst (.int .i64)) (.unit)))) (.un)), ty := some (.pair (.lst (.str)) (.pair (.lst (.pair (.lst (.int .i64)) (.pair (.lst (.int .i64)) (.unit)))) (.unit))) }),
  (37, { d := .struct [(3, 0), (3, 1)], size := 2, bytes := 16, agg := true, zero := .pr (.dat (.int .i64) (0 : Int)) (.pr (.dat (.int .i64) (0 : Int)) (.un)), ty := some (.pair (.int .i64) (.pair (.int .i64) (.unit))) }),
  (45, { d := .slice 3, size := 1, bytes := 24, agg := false, zero := .nil (.int .i64), ty := some (.lst (.int .i64)) }),
  (47, { d := .struct [(45, 0), (45, 1)], size := 2, bytes := 48, agg := true, zero := .pr (.nil (.int .i64)) (.pr (.nil (.int .i64)) (.un)), ty := some (.pair (.lst (.int .i64)) (.pair (.lst (.int .i64)) (.unit))) })]
def Tryz.page3 : List (TypeId × TI) := [(51, { d := .func, size := 1, bytes := 8, agg := false, zero := .nilfn, ty := none }),
  (59, { d := .other, size := 1, bytes := 8, agg := false, zero := .nilp, ty := none }),
  (61, { d := .map 9 113, size := 1, bytes := 8, agg := false, zero := .nilm, ty := none }),
  (62, { d := .slice 45, size := 1, bytes := 24, agg := false, zero := .nil (.lst (.int .i64)), ty := some (.lst (.lst (.int .i64))) })]
def Tryz.page4 : List (TypeId × TI) := [(64, { d := .struct [(22, 0), (27, 1), (37, 3), (61, 5), (62, 6), (62, 7), (62, 8), (4, 9)], size := 10, bytes := 144, agg := true, zero := .pr (.nil (.str)) (.pr (.pr (.nilfn) (.pr (.nilfn) (.un))) (.pr (.pr (.dat (.int .i64) (0 : Int)) (.pr (.dat (.int .i64) (0 : Int)) (.un))) (.pr (.nilm) (.pr (.nil (.lst (.int .i64))) (.pr (.nil (.lst (.int .i64))) (.pr (.nil (.lst (.int .i64))) (.pr (.dat .bool false) (.un)))))))), ty := none }),
  (69, { d := .func, size := 1, bytes := 8, agg := false, zero := .nilfn, ty := none }),
  (74, { d := .slice 78, size := 1, bytes := 24, agg := false, zero := .nil (.pair (.lst (.str)) (.pair (.lst (.lst (.pair (.int .i64) (.pair (.int .i64) (.unit))))) (.unit))), ty := some (.lst (.pair (.lst (.str)) (.pair (.lst (.lst (.pair (.int .i64) (.pair (.int .i64) (.unit))))) (.unit)))) }),
  (76, { d := .slice 88, size := 1, bytes := 24, agg := false, zero := .nil (.lst (.pair (.int .i64) (.pair (.int .i64) (.unit)))), ty := some (.lst (.lst (.pair (.int .i64) (.pair (.int .i64) (.unit))))) }),
  (78, { d := .struct [(22, 0), (76, 1)], size := 2, bytes := 48, agg := true, zero := .pr (.nil (.str)) (.pr (.nil (.lst (.pair (.int .i64) (.pair (.int .i64) (.unit))))) (.un)), ty := some (.pair (.lst (.str)) (.pair (.lst (.lst (.pair (.int .i64) (.pair (.int .i64) (.unit))))) (.unit))) }),
  (79, { d := .func, size := 1, bytes := 8, agg := false, zero := .nilfn, ty := none })]
def Tryz.page5 : List (TypeId × TI) := [(82, { d := .slice 83, size := 1, bytes := 24, agg := false, zero := .nil (.pair (.int .i64) (.pair (.int .i64) (.unit))), ty := some (.lst (.pair (.int .i64) (.pair (.int .i64) (.unit)))) }),
  (83, { d := .array 2 3, size := 2, bytes := 16, agg := true, zero := .pr (.dat (.int .i64) (0 : Int)) (.pr (.dat (.int .i64) (0 : Int)) (.un)), ty := some (.pair (.int .i64) (.pair (.int .i64) (.unit))) }),
  (85, { d := .map 9 3, size := 1, bytes := 8, agg := false, zero := .nilm, ty := none }),
  (86, { d := .slice 82, size := 1, bytes := 24, agg := false, zero := .nil (.lst (.pair (.int .i64) (.pair (.int .i64) (.unit)))), ty := some (.lst (.lst (.pair (.int .i64) (.pair (.int .i64) (.unit))))) }),
  (88, { d := .slice 91, size := 1, bytes := 24, agg := false, zero := .nil (.pair (.int .i64) (.pair (.int .i64) (.unit))), ty := some (.lst (.pair (.int .i64) (.pair (.int .i64) (.unit)))) }),
  (91, { d := .struct [(3, 0), (3, 1)], size := 2, bytes := 16, agg := true, zero := .pr (.dat (.int .i64) (0 : Int)) (.pr (.dat (.int .i64) (0 : Int)) (.un)), ty := some (.pair (.int .i64) (.pair (.int .i64) (.unit))) }),
  (95, { d := .func, size := 1, bytes := 8, agg := false, zero := .nilfn, ty := none })]
def Tryz.page6 : List (TypeId × TI) := [(104, { d := .struct [(3, 0), (3, 1), (3, 2), (3, 3)], size := 4, bytes := 32, agg := true, zero := .pr (.dat (.int .i64) (0 : Int)) (.pr (.dat (.int .i64) (0 : Int)) (.pr (.dat (.int .i64) (0 : Int)) (.pr (.dat (.int .i64) (0 : Int)) (.un)))), ty := some (.pair (.int .i64) (.pair (.int .i64) (.pair (.int .i64) (.pair (.int .i64) (.unit))))) }),
  (105, { d := .slice 104, size := 1, bytes := 24, agg := false, zero := .nil (.pair (.int .i64) (.pair (.int .i64) (.pair (.int .i64) (.pair (.int .i64) (.unit))))), ty := some (.lst (.pair (.int .i64) (.pair (.int .i64) (.pair (.int .i64) (.pair (.int .i64) (.unit)))))) }),
  (106, { d := .map 83 4, size := 1, bytes := 8, agg := false, zero := .nilm, ty := none }),
  (107, { d := .func, size := 1, bytes := 8, agg := false, zero := .nilfn, ty := none }),
  (108, { d := .func, size := 1, bytes := 8, agg := false, zero := .nilfn, ty := none })]
def Tryz.page7 : List (TypeId × TI) := [(113, { d := .struct [(45, 0), (3, 1)], size := 2, bytes := 32, agg := true, zero := .pr (.nil (.int .i64)) (.pr (.dat (.int .i64) (0 : Int)) (.un)), ty := some (.pair (.lst (.int .i64)) (.pair (.int .i64) (.unit))) }),
  (115, { d := .func, size := 1, bytes := 8, agg := false, zero := .nilfn, ty := none }),
  (116, { d := .func, size := 1, bytes := 8, agg := false, zero := .nilfn, ty := none }),
  (121, { d := .slice 5, size := 1, bytes := 24, agg := false, zero := .nil (.int .u8), ty := some (.lst (.int .u8)) }),
  (123, { d := .int .u64, size := 1, bytes := 8, agg := false, zero := .dat (.int .u64) (0 : Int), ty := some (.int .u64) })]
def Tryz.page8 : List (TypeId × TI) := [(130, { d := .func, size := 1, bytes := 8, agg := false, zero := .nilfn, ty := none }),
  (131, { d := .func, size := 1, bytes := 8, agg := false, zero := .nilfn, ty := none }),
  (133, { d := .func, size := 1, bytes := 8, agg := false, zero := .nilfn, ty := none }),
  (134, { d := .func, size := 1, bytes := 8, agg := false, zero := .nilfn, ty := none }),
  (137, { d := .int .u32, size := 1, bytes := 4, agg := false, zero := .dat (.int .u32) (0 : Int), ty := some (.int .u32) }),
  (140, { d := .int .u64, size := 1, bytes := 8, agg := false, zero := .dat (.int .u64) (0 : Int), ty := some (.int .u64) })]
def Tryz.page9 : List (TypeId × TI) := [(144, { d := .int .i64, size := 1, bytes := 8, agg := false, zero := .dat (.int .i64) (0 : Int), ty := some (.int .i64) }),
  (158, { d := .func, size := 1, bytes := 8, agg := false, zero := .nilfn, ty := none }),
  (159, { d := .slice 4, size := 1, bytes := 24, agg := false, zero := .nil (.bool), ty := some (.lst (.bool)) })]
def Tryz.page10 : List (TypeId × TI) := [(165, { d := .func, size := 1, bytes := 8, agg := false, zero := .nilfn, ty := none }),
  (167, { d := .int .u64, size := 1, bytes := 8, agg := false, zero := .dat (.int .u64) (0 : Int), ty := some (.int .u64) }),
  (171, { d := .other, size := 1, bytes := 8, agg := false, zero := .nilp, ty := none }),
  (175, { d := .array 24 5, size := 24, bytes := 24, agg := true, zero := .pr (.dat (.int .u8) (0 : Int)) (.pr (.dat (.int .u8) (0 : Int)) (.pr (.dat (.int .u8) (0 : Int)) (.pr (.dat (.int .u8) (0 : Int)) (.pr (.dat (.int .u8) (0 : Int)) (.pr (.dat (.int .u8) (0 : Int)) (.pr (.dat (.int .u8) (0 : Int)) (.pr (.dat (.int .u8) (0 : Int)) (.pr (.dat (.int .u8) (0 : Int)) (.pr (.dat (.int .u8) (0 : Int)) (.pr (.dat (.int .u8) (0 : Int)) (.pr (.dat (.int .u8) (0 : Int)) (.pr (.dat (.int .u8) (0 : Int)) (.pr (.dat (.int .u8) (0 : Int)) (.pr (.dat (.int .u8) (0 : Int)) (.pr (.dat (.int .u8) (0 : Int)) (.pr (.dat (.int .u8) (0 : Int)) (.pr (.dat (.int .u8) (0 : Int)) (.pr (.dat (.int .u8) (0 : Int)) (.pr (.dat (.int .u8) (0 : Int)) (.pr (.dat (.int .u8) (0 : Int)) (.pr (.dat (.int .u8) (0 : Int)) (.pr (.dat (.int .u8) (0 : Int)) (.pr (.dat (.int .u8) (0 : Int)) (.un)))))))))))))))))))))))), ty := none })]
def Tryz.page11 : List (TypeId × TI) := [(179, { d := .other, size := 1, bytes := 8, agg := false, zero := .nilp, ty := none }),
  (183, { d := .slice 159, size := 1, bytes := 24, agg := false, zero := .nil (.lst (.bool)), ty := some (.lst (.lst (.bool))) }),
  (184, { d := .func, size := 1, bytes := 8, agg := false, zero := .nilfn, ty := none }),
  (188, { d := .array 20 140, size := 20, bytes := 160, agg := true, zero := .pr (.dat (.int .u64) (0 : Int)) (.pr (.dat (.int .u64) (0 : Int)) (.pr (.dat (.int .u64) (0 : Int)) (.pr (.dat (.int .u64) (0 : Int)) (.pr (.dat (.int .u64) (0 : Int)) (.pr (.dat (.int .u64) (0 : Int)) (.pr (.dat (.int .u64) (0 : Int)) (.pr (.dat (.int .u64) (0 : Int)) (.pr (.dat (.int .u64) (0 : Int)) (.pr (.dat (.int .u64) (0 : Int)) (.pr (.dat (.int .u64) (0 : Int)) (.pr (.dat (.int .u64) (0 : Int)) (.pr (.dat (.int .u64) (0 : Int)) (.pr (.dat (.int .u64) (0 : Int)) (.pr (.dat (.int .u64) (0 : Int)) (.pr (.dat (.int .u64) (0 : Int)) (.pr (.dat (.int .u64) (0 : Int)) (.pr (.dat (.int .u64) (0 : Int)) (.pr (.dat (.int .u64) (0 : Int)) (.pr (.dat (.int .u64) (0 : Int)) (.un)))))))))))))))))))), ty := none }),
  (189, { d := .array 65 5, size := 65, bytes := 65, agg := true, zero := .pr (.dat (.int .u8) (0 : Int)) (.pr (.dat (.int .u8) (0 : Int)) (.pr (.dat (.int .u8) (0 : Int)) (.pr (.dat (.int .u8) (0 : Int)) (.pr (.dat (.int .u8) (0 : Int)) (.pr (.dat (.int .u8) (0 : Int)) (.pr (.dat (.int .u8) (0 : Int)) (.pr (.dat (.int .u8) (0 : Int)) (.pr (.dat (.int .u8) (0 : Int)) (.pr (.dat (.int .u8) (0 : Int)) (.pr (.dat (.int .u8) (0 : Int)) (.pr (.dat (.int .u8) (0 : Int)) (.pr (.dat (.int .u8) (0 : Int)) (.pr (.dat (.int .u8) (0 : Int)) (.pr (.dat (.int .u8) (0 : Int)) (.pr (.dat (.int .u8) (0 : Int)) (.pr (.dat (.int .u8) (0 : Int)) (.pr (.dat (.int .u8) (0 : Int)) (.pr (.dat (.int .u8) (0 : Int)) (.pr (.dat (.int .u8) (0 : Int)) (.pr (.dat (.int .u8) (0 : Int)) (.pr (.dat (.int .u8) (0 : Int)) (.pr (.dat (.int .u8) (0 : Int)) (.pr (.dat (.int .u8) (0 : Int)) (.pr (.dat (.int .u8) (0 : Int)) (.pr (.dat (.int .u8) (0 : Int)) (.pr (.dat (.int .u8) (0 : Int)) (.pr (.dat (.int .u8) (0 : Int)) (.pr (.dat (.int .u8) (0 : Int)) (.pr (.dat (.int .u8) (0 : Int)) (.pr (.dat (.int .u8) (0 : Int)) (.pr (.dat (.int .u8) (0 : Int)) (.pr (.dat (.int .u8) (0 : Int)) (.pr (.dat (.int .u8) (0 : Int)) (.pr (.dat (.int .u8) (0 : Int)) (.pr (.dat (.int .u8) (0 : Int)) (.pr (.dat (.int .u8) (0 : Int)) (.pr (.dat (.int .u8) (0 : Int)) (.pr (.dat (.int .u8) (0 : Int)) (.pr (.dat (.int .u8) (0 : Int)) (.pr (.dat (.int .u8) (0 : Int)) (.pr (.dat (.int .u8) (0 : Int)) (.pr (.dat (.int .u8) (0 : Int)) (.pr (.dat (.int .u8) (0 : Int)) (.pr (.dat (.int .u8) (0 : Int)) (.pr (.dat (.int .u8) (0 : Int)) (.pr (.dat (.int .u8) (0 : Int)) (.pr (.dat (.int .u8) (0 : Int)) (.pr (.dat (.int .u8) (0 : Int)) (.pr (.dat (.int .u8) (0 : Int)) (.pr (.dat (.int .u8) (0 : Int)) (.pr (.dat (.int .u8) (0 : Int)) (.pr (.dat (.int .u8) (0 : Int)) (.pr (.dat (.int .u8) (0 : Int)) (.pr (.dat (.int .u8) (0 : Int)) (.pr (.dat (.int .u8) (0 : Int)) (.pr (.dat (.int .u8) (0 : Int)) (.pr (.dat (.int .u8) (0 : Int)) (.pr (.dat (.int .u8) (0 : Int)) (.pr (.dat (.int .u8) (0 : Int)) (.pr (.dat (.int .u8) (0 : Int)) (.pr (.dat (.int .u8) (0 : Int)) (.pr (.dat (.int .u8) (0 : Int)) (.pr (.dat (.int .u8) (0 : Int)) (.pr (.dat (.int .u8) (0 : Int)) (.un))))))))))))))))))))))))))))))))))))))))))))))))))))))))))))))))), ty := none }),
  (190, { d := .array 32 5, size := 32, bytes := 32, agg := true, zero := .pr (.dat (.int .u8) (0 : Int)) (.pr (.dat (.int .u8) (0 : Int)) (.pr (.dat (.int .u8) (0 : Int)) (.pr (.dat (.int .u8) (0 : Int)) (.pr (.dat (.int .u8) (0 : Int)) (.pr (.dat (.int .u8) (0 : Int)) (.pr (.dat (.int .u8) (0 : Int)) (.pr (.dat (.int .u8) (0 : Int)) (.pr (.dat (.int .u8) (0 : Int)) (.pr (.dat (.int .u8) (0 : Int)) (.pr (.dat (.int .u8) (0 : Int)) (.pr (.dat (.int .u8) (0 : Int)) (.pr (.dat (.int .u8) (0 : Int)) (.pr (.dat (.int .u8) (0 : Int)) (.pr (.dat (.int .u8) (0 : Int)) (.pr (.dat (.int .u8) (0 : Int)) (.pr (.dat (.int .u8) (0 : Int)) (.pr (.dat (.int .u8) (0 : Int)) (.pr (.dat (.int .u8) (0 : Int)) (.pr (.dat (.int .u8) (0 : Int)) (.pr (.dat (.int .u8) (0 : Int)) (.pr (.dat (.int .u8) (0 : Int)) (.pr (.dat (.int .u8) (0 : Int)) (.pr (.dat (.int .u8) (0 : Int)) (.pr (.dat (.int .u8) (0 : Int)) (.pr (.dat (.int .u8) (0 : Int)) (.pr (.dat (.int .u8) (0 : Int)) (.pr (.dat (.int .u8) (0 : Int)) (.pr (.dat (.int .u8) (0 : Int)) (.pr (.dat (.int .u8) (0 : Int)) (.pr (.dat (.int .u8) (0 : Int)) (.pr (.dat (.int .u8) (0 : Int)) (.un)))))))))))))))))))))))))))))))), ty := none }),
  (191, { d := .array 64 5, size := 64, bytes := 64, agg := true, zero := .pr (.dat (.int .u8) (0 : Int)) (.pr (.dat (.int .u8) (0 : Int)) (.pr (.dat (.int .u8) (0 : Int)) (.pr (.dat (.int .u8) (0 : Int)) (.pr (.dat (.int .u8) (0 : Int)) (.pr (.dat (.int .u8) (0 : Int)) (.pr (.dat (.int .u8) (0 : Int)) (.pr (.dat (.int .u8) (0 : Int)) (.pr (.dat (.int .u8) (0 : Int)) (.pr (.dat (.int .u8) (0 : Int)) (.pr (.dat (.int .u8) (0 : Int)) (.pr (.dat (.int .u8) (0 : Int)) (.pr (.dat (.int .u8) (0 : Int)) (.pr (.dat (.int .u8) (0 : Int)) (.pr (.dat (.int .u8) (0 : Int)) (.pr (.dat (.int .u8) (0 : Int)) (.pr (.dat (.int .u8) (0 : Int)) (.pr (.dat (.int .u8) (0 : Int)) (.pr (.dat (.int .u8) (0 : Int)) (.pr (.dat (.int .u8) (0 : Int)) (.pr (.dat (.int .u8) (0 : Int)) (.pr (.dat (.int .u8) (0 : Int)) (.pr (.dat (.int .u8) (0 : Int)) (.pr (.dat (.int .u8) (0 : Int)) (.pr (.dat (.int .u8) (0 : Int)) (.pr (.dat (.int .u8) (0 : Int)) (.pr (.dat (.int .u8) (0 : Int)) (.pr (.dat (.int .u8) (0 : Int)) (.pr (.dat (.int .u8) (0 : Int)) (.pr (.dat (.int .u8) (0 : Int)) (.pr (.dat (.int .u8) (0 : Int)) (.pr (.dat (.int .u8) (0 : Int)) (.pr (.dat (.int .u8) (0 : Int)) (.pr (.dat (.int .u8) (0 : Int)) (.pr (.dat (.int .u8) (0 : Int)) (.pr (.dat (.int .u8) (0 : Int)) (.pr (.dat (.int .u8) (0 : Int)) (.pr (.dat (.int .u8) (0 : Int)) (.pr (.dat (.int .u8) (0 : Int)) (.pr (.dat (.int .u8) (0 : Int)) (.pr (.dat (.int .u8) (0 : Int)) (.pr (.dat (.int .u8) (0 : Int)) (.pr (.dat (.int .u8) (0 : Int)) (.pr (.dat (.int .u8) (0 : Int)) (.pr (.dat (.int .u8) (0 : Int)) (.pr (.dat (.int .u8) (0 : Int)) (.pr (.dat (.int .u8) (0 : Int)) (.pr (.dat (.int .u8) (0 : Int)) (.pr (.dat (.int .u8) (0 : Int)) (.pr (.dat (.int .u8) (0 : Int)) (.pr (.dat (.int .u8) (0 : Int)) (.pr (.dat (.int .u8) (0 : Int)) (.pr (.dat (.int .u8) (0 : Int)) (.pr (.dat (.int .u8) (0 : Int)) (.pr (.dat (.int .u8) (0 : Int)) (.pr (.dat (.int .u8) (0 : Int)) (.pr (.dat (.int .u8) (0 : Int)) (.pr (.dat (.int .u8) (0 : Int)) (.pr (.dat (.int .u8) (0 : Int)) (.pr (.dat (.int .u8) (0 : Int)) (.pr (.dat (.int .u8) (0 : Int)) (.pr (.dat (.int .u8) (0 : Int)) (.pr (.dat (.int .u8) (0 : Int)) (.pr (.dat (.int .u8) (0 : Int)) (.un)))))))))))))))))))))))))))))))))))))))))))))))))))))))))))))))), ty := none })]
def Tryz.pages : List (List (TypeId × TI)) := [Tryz.page0, Tryz.page1, Tryz.page2, Tryz.page3, Tryz.page4, Tryz.page5, Tryz.page6, Tryz.page7, Tryz.page8, Tryz.page9, Tryz.page10, Tryz.page11]
def Tryz.tbl : Tbl := tblOf Tryz.pages
end
end Go.Ab

namespace Go.Ab
noncomputable section
open Go Go.Proofs Go.RowKit
theorem tblOk : TblOk Tryz.prog Tryz.tbl := tblOf_ok (by kernel_rfl)
theorem mixed : Tryz.prog.follows .mixedOrders = true := by kernel_rfl
def noTold : Tolds := fun _ _ _ => none
theorem noToldOk {P : Program} {T : Tbl} : ToldsOk P T noTold := fun _ _ _ _ _ _ h => by cases h
def letterB (c : Int) : Bool := decide (c ≥ 97) && decide (c ≤ 122) || decide (c ≥ 65) && decide (c ≤ 90)
set_option maxRecDepth 100000
theorem letter77 (c : Int) : PureC Tryz.prog Tryz.tbl 77 [.dat (.int .u8) c] (.dat .bool (letterB c)) Tryz.f77 (Tryz.f77.body.get rfl) where
  hfn := Tryz.func77
  hbody := rfl
  hname := by kernel_rfl
  hN := by show 1 ≤ 17; decide
  hl := by intro x hx; simp at hx; subst hx; rfl
  hv := rfl
  hrun := by
    intro w1 F n hF hr
    show Runs _ F n (.seq (.region _ _ _) (.seq (.region _ _ _) .ret)) _ _
    refine reg_seq [] [(0, .dat (.int .u8) c)] tblOk mixed noToldOk hF (base := 0) rfl ⟨rfl, trivial⟩ (fun h => by cases h) (by simp [AllHold, pinO, pinE, look_nil]) ?_
    by_cases h1 : c ≥ 97
    · by_cases h2 : c ≤ 122
      · refine reg_seq [(4, true), (7, true)] [(2, .dat .bool true)] tblOk mixed noToldOk hF (base := 0) rfl ⟨rfl, trivial⟩ (fun h => by cases h) (by simp [AllHold, pinO, pinE, look_nil, look_cons, Cnd.holds, h1, h2]) ?_
        exact runs_ret ⟨.inr rfl, by simp [letterB, h1, h2]; rfl, rfl⟩
      · have h3 : c ≥ 65 := by omega
        have h4 : ¬ c ≤ 90 := by omega
        refine reg_seq [(4, true), (7, false), (11, true), (14, false)] [(2, .dat .bool false)] tblOk mixed noToldOk hF (base := 0) rfl ⟨rfl, trivial⟩ (fun h => by cases h) (by simp [AllHold, pinO, pinE, look_nil, look_cons, Cnd.holds, h1, h2, h3, h4]) ?_
        exact runs_ret ⟨.inr rfl, by simp [letterB, h1, h2, h3, h4]; rfl, rfl⟩
    · by_cases h3 : c ≥ 65
      · by_cases h4 : c ≤ 90
        · refine reg_seq [(4, false), (11, true), (14, true)] [(2, .dat .bool true)] tblOk mixed noToldOk hF (base := 0) rfl ⟨rfl, trivial⟩ (fun h => by cases h) (by simp [AllHold, pinO, pinE, look_nil, look_cons, Cnd.holds, h1, h3, h4]) ?_
          exact runs_ret ⟨.inr rfl, by simp [letterB, h1, h3, h4]; rfl, rfl⟩
        · refine reg_seq [(4, false), (11, true), (14, false)] [(2, .dat .bool false)] tblOk mixed noToldOk hF (base := 0) rfl ⟨rfl, trivial⟩ (fun h => by cases h) (by simp [AllHold, pinO, pinE, look_nil, look_cons, Cnd.holds, h1, h3, h4]) ?_
          exact runs_ret ⟨.inr rfl, by simp [letterB, h1, h3, h4]; rfl, rfl⟩
      · refine reg_seq [(4, false), (11, false)] [(2, .dat .bool false)] tblOk mixed noToldOk hF (base := 0) rfl ⟨rfl, trivial⟩ (fun h => by cases h) (by simp [AllHold, pinO, pinE, look_nil, look_cons, Cnd.holds, h1, h3]) ?_
        exact runs_ret ⟨.inr rfl, by simp [letterB, h1, h3]; rfl, rfl⟩
theorem letter59 (c : Int) : PureC Tryz.prog Tryz.tbl 59 [.dat (.int .u8) c] (.dat .bool (letterB c)) Tryz.f59 (Tryz.f59.body.get rfl) where
  hfn := Tryz.func59
  hbody := rfl
  hname := by kernel_rfl
  hN := by show 1 ≤ 17; decide
  hl := by intro x hx; simp at hx; subst hx; rfl
  hv := rfl
  hrun := by
    intro w1 F n hF hr
    show Runs _ F n (.seq (.region _ _ _) (.seq (.region _ _ _) .ret)) _ _
    refine reg_seq [] [(0, .dat (.int .u8) c)] tblOk mixed noToldOk hF (base := 0) rfl ⟨rfl, trivial⟩ (fun h => by cases h) (by simp [AllHold, pinO, pinE, look_nil]) ?_
    by_cases h1 : c ≥ 97
    · by_cases h2 : c ≤ 122
      · refine reg_seq [(4, true), (7, true)] [(2, .dat .bool true)] tblOk mixed noToldOk hF (base := 0) rfl ⟨rfl, trivial⟩ (fun h => by cases h) (by simp [AllHold, pinO, pinE, look_nil, look_cons, Cnd.holds, h1, h2]) ?_
        exact runs_ret ⟨.inr rfl, by simp [letterB, h1, h2]; rfl, rfl⟩
      · have h3 : c ≥ 65 := by omega
        have h4 : ¬ c ≤ 90 := by omega
        refine reg_seq [(4, true), (7, false), (11, true), (14, false)] [(2, .dat .bool false)] tblOk mixed noToldOk hF (base := 0) rfl ⟨rfl, trivial⟩ (fun h => by cases h) (by simp [AllHold, pinO, pinE, look_nil, look_cons, Cnd.holds, h1, h2, h3, h4]) ?_
        exact runs_ret ⟨.inr rfl, by simp [letterB, h1, h2, h3, h4]; rfl, rfl⟩
    · by_cases h3 : c ≥ 65
      · by_cases h4 : c ≤ 90
        · refine reg_seq [(4, false), (11, true), (14, true)] [(2, .dat .bool true)] tblOk mixed noToldOk hF (base := 0) rfl ⟨rfl, trivial⟩ (fun h => by cases h) (by simp [AllHold, pinO, pinE, look_nil, look_cons, Cnd.holds, h1, h3, h4]) ?_
          exact runs_ret ⟨.inr rfl, by simp [letterB, h1, h3, h4]; rfl, rfl⟩
        · refine reg_seq [(4, false), (11, true), (14, false)] [(2, .dat .bool false)] tblOk mixed noToldOk hF (base := 0) rfl ⟨rfl, trivial⟩ (fun h => by cases h) (by simp [AllHold, pinO, pinE, look_nil, look_cons, Cnd.holds, h1, h3, h4]) ?_
          exact runs_ret ⟨.inr rfl, by simp [letterB, h1, h3, h4]; rfl, rfl⟩
      · refine reg_seq [(4, false), (11, false)] [(2, .dat .bool false)] tblOk mixed noToldOk hF (base := 0) rfl ⟨rfl, trivial⟩ (fun h => by cases h) (by simp [AllHold, pinO, pinE, look_nil, look_cons, Cnd.holds, h1, h3]) ?_
        exact runs_ret ⟨.inr rfl, by simp [letterB, h1, h3]; rfl, rfl⟩
end
end Go.Ab

namespace Go.Ab
noncomputable section
open Go Go.Proofs Go.RowKit
set_option maxRecDepth 100000
def charB (c : Int) : Bool := letterB c || (decide (48 ≤ c) && decide (c ≤ 57)) || decide (c = 45) || decide (c = 95)
def headB (s : ByteArray) : Bool := decide (1 ≤ ByteArray.size s) && decide (ByteArray.size s ≤ 20) && letterB (byteAt s 0)
def nameB (s : ByteArray) : Bool := headB s && (List.range (ByteArray.size s)).all (fun i => charB (byteAt s ((i : Nat) : Int)))
theorem nameB_true {s : ByteArray} (h : headB s = true) (hc : ∀ j, j < ByteArray.size s → charB (byteAt s ((j : Nat) : Int)) = true) : nameB s = true := by
  simp only [nameB, h, Bool.true_and, List.all_eq_true, List.mem_range]; exact hc
theorem nameB_false {s : ByteArray} {i : Nat} (hi : i < ByteArray.size s) (hc : charB (byteAt s ((i : Nat) : Int)) = false) : nameB s = false := by
  simp only [nameB, Bool.and_eq_false_iff, List.all_eq_false]; exact .inr ⟨i, List.mem_range.2 hi, by simp [hc]⟩
theorem eqS_empty (s : ByteArray) : eqS s { data := #[] } = decide (ByteArray.size s = 0) := by
  by_cases h : ByteArray.size s = 0
  · have : s = { data := #[] } := empty_ba h rfl
    rw [decide_eq_true h, this]; exact (beqS_iff _ _).2 rfl
  · rw [decide_eq_false h]
    cases hb : eqS s { data := #[] } with
    | false => rfl
    | true => exact absurd (by rw [eqS_eq hb]; rfl) h
def H77 : Tolds := fun f l _ => match Nat.beq f 77 with
  | true => match l with
    | [.dat (.int .u8) c] => some ([], .dat .bool (letterB c), [])
    | _ => none
  | false => none
theorem H77_ok : ToldsOk Tryz.prog Tryz.tbl H77 := by
  intro f l objs kp v objs' h
  unfold H77 at h
  split at h
  · rename_i hf
    have := Nat.eq_of_beq_eq_true hf
    subst this
    split at h
    · cases h; exact ⟨_, _, _, _, WkL.refl _, (letter77 _).call objs⟩
    · cases h
  · cases h
theorem name60 (s : ByteArray) : PureC Tryz.prog Tryz.tbl 60 [.dat .str s] (.dat .bool (nameB s)) Tryz.f60 (Tryz.f60.body.get rfl) where
  hfn := Tryz.func60
  hbody := rfl
  hname := by kernel_rfl
  hN := by show 1 ≤ Tryz.f60.ntmps; exact Nat.le_of_ble_eq_true rfl
  hl := by intro x hx; simp at hx; subst hx; rfl
  hv := rfl
  hrun := by
    intro w1 F n hF hr
    show Runs _ F n (.seq (.region _ _ _) (.seq (.seq (.region _ _ _) (.cond _ (.seq (.region _ _ _) .ret) .skip)) (.seq (.seq (.region _ _ _) (.block _ (.loop (.seq (.region _ _ _) (.seq (.cond _ .skip (.exit _)) (.seq (.block _ (.seq (.region _ _ _) (.seq (.region _ _ _) (.seq (.region _ _ _) (.cond _ (.seq (.region _ _ _) .ret) .skip))))) (.region _ _ _))))))) (.seq (.region _ _ _) .ret)))) _ _
    refine reg_seq [] [(0, .dat .str s)] tblOk mixed H77_ok hF (base := 0) (objs' := []) rfl ⟨rfl, trivial⟩ (fun h => by cases h) (by simp [AllHold, pinO, pinE, look_nil, Cnd.holds, InR, iLo, iHi, InRange]) ?_
    refine runs_seq ?_
    refine seq_via [(0, .dat .str s), (17, .dat .bool (!headB s))] (fun hk => ?_) ?_
    · show Runs _ _ _ _ _ _
      by_cases h1 : ByteArray.size s = 0
      · have hb : headB s = false := by simp [headB, h1]
        rw [hb] at hk
        exact reg_seq [(6, true)] [(0, .dat .str s), (17, .dat .bool true)] tblOk mixed H77_ok hF (base := 0) (objs' := []) rfl ⟨rfl, rfl, trivial⟩ (fun h => by cases h) (by simp [AllHold, pinO, pinE, look_nil, look_cons, Cnd.holds, InR, iLo, iHi, InRange, eqS_empty, h1]) hk
      · have hs : 0 < ByteArray.size s := by omega
        by_cases h2 : 20 < ByteArray.size s
        · have h2n : ¬ ByteArray.size s ≤ 20 := by omega
          have hb : headB s = false := by simp [headB, h2n]
          have h2' : ((ByteArray.size s : Nat) : Int) > 20 := by omega
          rw [hb] at hk
          exact reg_seq [(6, false), (10, true)] [(0, .dat .str s), (17, .dat .bool true)] tblOk mixed H77_ok hF (base := 0) (objs' := []) rfl ⟨rfl, rfl, trivial⟩ (fun h => by cases h) (by simp [AllHold, pinO, pinE, look_nil, look_cons, Cnd.holds, InR, iLo, iHi, InRange, eqS_empty, h1, h2']) hk
        · have h2' : ¬ ((ByteArray.size s : Nat) : Int) > 20 := by omega
          cases h3 : letterB (byteAt s 0) with
          | true =>
            have hb : headB s = true := by simp [headB, h3]; omega
            rw [hb] at hk
            exact reg_seq [(6, false), (10, false), (15, true)] [(0, .dat .str s), (17, .dat .bool false)] tblOk mixed H77_ok hF (base := 0) (objs' := []) rfl ⟨rfl, rfl, trivial⟩ (fun h => by cases h) (by simp [AllHold, pinO, pinE, look_nil, look_cons, Cnd.holds, InR, iLo, iHi, InRange, Go.Ab.callEff, eqS_empty, h1, h2', h3, hs]) hk
          | false =>
            have hb : headB s = false := by simp [headB, h3]
            rw [hb] at hk
            exact reg_seq [(6, false), (10, false), (15, false)] [(0, .dat .str s), (17, .dat .bool true)] tblOk mixed H77_ok hF (base := 0) (objs' := []) rfl ⟨rfl, rfl, trivial⟩ (fun h => by cases h) (by simp [AllHold, pinO, pinE, look_nil, look_cons, Cnd.holds, InR, iLo, iHi, InRange, Go.Ab.callEff, eqS_empty, h1, h2', h3, hs]) hk
    show Runs _ _ _ _ _ _
    refine runs_cond (b := !headB s) rfl (fun hb => ?_) (fun hb => ?_)
    · refine reg_seq [] [(2, .dat .bool false)] tblOk mixed H77_ok hF (base := 0) (objs' := []) rfl ⟨rfl, trivial⟩ (fun h => by cases h) (by simp [AllHold, pinO, pinE, look_nil, Cnd.holds, InR, iLo, iHi, InRange]) ?_
      have hb' : headB s = false := by simpa using hb
      exact runs_ret ⟨.inr rfl, by simp [nameB, hb']; rfl, rfl⟩
    · have hb' : headB s = true := by simpa using hb
      have hs : 1 ≤ ByteArray.size s ∧ ByteArray.size s ≤ 20 := by simp [headB] at hb'; omega
      refine runs_skip ?_
      show Runs _ _ _ _ _ _
      refine runs_seq ?_
      refine reg_seq [] [(0, .dat .str s), (19, .dat (.int .i64) ((ByteArray.size s : Nat) : Int)), (20, .dat (.int .i64) ((0 : Nat) : Int))] tblOk mixed H77_ok hF (base := 0) (objs' := []) rfl ⟨rfl, rfl, rfl, trivial⟩ (fun h => by cases h) (by simp [AllHold, pinO, pinE, look_nil, Cnd.holds, InR, iLo, iHi, InRange]) ?_
      refine runs_block ?_
      refine runs_count (fun i => { fr := [(0, .dat .str s), (19, .dat (.int .i64) ((ByteArray.size s : Nat) : Int)), (20, .dat (.int .i64) ((i : Nat) : Int))], objs := [] }) (fun i => i ≤ ByteArray.size s ∧ ∀ j, j < i → charB (byteAt s j) = true) (ByteArray.size s) (i0 := 0) ⟨by omega, fun j hj => by omega⟩ (fun i hi => ?_)
      obtain ⟨hi1, hi2⟩ := hi
      refine reg_seq [] [(0, .dat .str s), (19, .dat (.int .i64) ((ByteArray.size s : Nat) : Int)), (20, .dat (.int .i64) ((i : Nat) : Int)), (21, .dat .bool (decide (((i : Nat) : Int) < ((ByteArray.size s : Nat) : Int))))] tblOk mixed H77_ok hF (base := 0) (objs' := []) rfl ⟨rfl, rfl, rfl, rfl, trivial⟩ (fun h => by cases h) (by simp [AllHold, pinO, pinE, look_nil, Cnd.holds, InR, iLo, iHi, InRange]) ?_
      refine runs_seq (runs_cond rfl (fun hlt => runs_skip ?_) (fun hge => runs_exit ?_))
      rotate_left
      · -- the end
        have hge' : i = ByteArray.size s := by simp at hge; omega
        show Runs _ _ _ _ _ _
        refine Runs.less (fr' := []) (fun s v h => by simp [look_nil] at h) ?_
        refine reg_seq [] [(2, .dat .bool true)] tblOk mixed H77_ok hF (base := 0) (objs' := []) rfl ⟨rfl, trivial⟩ (fun h => by cases h) (by simp [AllHold, pinO, pinE, look_nil, Cnd.holds, InR, iLo, iHi, InRange]) ?_
        exact runs_ret ⟨.inr rfl, by rw [nameB_true hb' (fun j hj => hi2 j (by omega))]; rfl, rfl⟩
      have hlt' : i < ByteArray.size s := by simp at hlt; omega
      have hix : 0 ≤ ((i : Nat) : Int) ∧ ((i : Nat) : Int) < ((ByteArray.size s : Nat) : Int) := by omega
      show Runs _ _ _ _ _ _
      refine runs_seq (runs_block ?_)
      have frk : ∀ {v : AV}, AllLook [(0, .dat .str s), (19, .dat (.int .i64) ((ByteArray.size s : Nat) : Int)), (20, .dat (.int .i64) ((i : Nat) : Int)), (3, v)] [(0, .dat .str s), (19, .dat (.int .i64) ((ByteArray.size s : Nat) : Int)), (20, .dat (.int .i64) ((i : Nat) : Int)), (3, v)] := ⟨rfl, rfl, rfl, rfl, trivial⟩
      refine reg_seq [] [(0, .dat .str s), (19, .dat (.int .i64) ((ByteArray.size s : Nat) : Int)), (20, .dat (.int .i64) ((i : Nat) : Int)), (3, .dat (.int .i64) ((i : Nat) : Int))] tblOk mixed H77_ok hF (base := 0) (objs' := []) rfl ⟨rfl, rfl, rfl, rfl, trivial⟩ (fun h => by cases h) (by simp [AllHold, pinO, pinE, look_nil, Cnd.holds, InR, iLo, iHi, InRange]) ?_
      refine reg_seq [] [(0, .dat .str s), (19, .dat (.int .i64) ((ByteArray.size s : Nat) : Int)), (20, .dat (.int .i64) ((i : Nat) : Int)), (4, .dat (.int .u8) (byteAt s ((i : Nat) : Int)))] tblOk mixed H77_ok hF (base := 0) (objs' := []) rfl ⟨rfl, rfl, rfl, rfl, trivial⟩ (fun h => by cases h) (by simp [AllHold, pinO, pinE, look_nil, Cnd.holds, InR, iLo, iHi, InRange, hix]) ?_
      generalize hc : byteAt s ((i : Nat) : Int) = c
      refine seq_via [(0, .dat .str s), (19, .dat (.int .i64) ((ByteArray.size s : Nat) : Int)), (20, .dat (.int .i64) ((i : Nat) : Int)), (44, .dat .bool (!charB c))] (fun hk => ?_) ?_
      · skip
        cases h1 : letterB c with
        | true =>
          have hb : charB c = true := by simp [charB, h1]
          rw [hb] at hk
          exact reg_seq [(27, true)] [(0, .dat .str s), (19, .dat (.int .i64) ((ByteArray.size s : Nat) : Int)), (20, .dat (.int .i64) ((i : Nat) : Int)), (44, .dat .bool false)] tblOk mixed H77_ok hF (base := 0) (objs' := []) rfl ⟨rfl, rfl, rfl, rfl, trivial⟩ (fun h => by cases h) (by simp [AllHold, pinO, pinE, look_nil, look_cons, Cnd.holds, InR, iLo, iHi, InRange, Go.Ab.callEff, h1]) hk
        | false =>
          by_cases h2 : c < 48
          · have h2' : ¬ 48 ≤ c := by omega
            by_cases h4 : c = 45
            · replace h4 := eq_true h4
              have hb : charB c = true := by simp [charB, h1, h2', h4]
              rw [hb] at hk
              exact reg_seq [(27, false), (31, true), (39, false)] [(0, .dat .str s), (19, .dat (.int .i64) ((ByteArray.size s : Nat) : Int)), (20, .dat (.int .i64) ((i : Nat) : Int)), (44, .dat .bool false)] tblOk mixed H77_ok hF (base := 0) (objs' := []) rfl ⟨rfl, rfl, rfl, rfl, trivial⟩ (fun h => by cases h) (by simp [AllHold, pinO, pinE, look_nil, look_cons, Cnd.holds, InR, iLo, iHi, InRange, Go.Ab.callEff, h1, h2, h4]) hk
            · by_cases h5 : c = 95
              · replace h5 := eq_true h5
                have hb : charB c = true := by simp [charB, h1, h2', h4, h5]
                rw [hb] at hk
                exact reg_seq [(27, false), (31, true), (39, true), (43, false)] [(0, .dat .str s), (19, .dat (.int .i64) ((ByteArray.size s : Nat) : Int)), (20, .dat (.int .i64) ((i : Nat) : Int)), (44, .dat .bool false)] tblOk mixed H77_ok hF (base := 0) (objs' := []) rfl ⟨rfl, rfl, rfl, rfl, trivial⟩ (fun h => by cases h) (by simp [AllHold, pinO, pinE, look_nil, look_cons, Cnd.holds, InR, iLo, iHi, InRange, Go.Ab.callEff, h1, h2, h4, h5]) hk
              · have hb : charB c = false := by simp [charB, h1, h2', h4, h5]
                rw [hb] at hk
                exact reg_seq [(27, false), (31, true), (39, true), (43, true)] [(0, .dat .str s), (19, .dat (.int .i64) ((ByteArray.size s : Nat) : Int)), (20, .dat (.int .i64) ((i : Nat) : Int)), (44, .dat .bool true)] tblOk mixed H77_ok hF (base := 0) (objs' := []) rfl ⟨rfl, rfl, rfl, rfl, trivial⟩ (fun h => by cases h) (by simp [AllHold, pinO, pinE, look_nil, look_cons, Cnd.holds, InR, iLo, iHi, InRange, Go.Ab.callEff, h1, h2, h4, h5]) hk
          · have h2' : 48 ≤ c := by omega
            by_cases h3 : c > 57
            · have h3' : ¬ c ≤ 57 := by omega
              by_cases h4 : c = 45
              · replace h4 := eq_true h4
                have hb : charB c = true := by simp [charB, h1, h2', h3', h4]
                rw [hb] at hk
                exact reg_seq [(27, false), (31, false), (34, true), (39, false)] [(0, .dat .str s), (19, .dat (.int .i64) ((ByteArray.size s : Nat) : Int)), (20, .dat (.int .i64) ((i : Nat) : Int)), (44, .dat .bool false)] tblOk mixed H77_ok hF (base := 0) (objs' := []) rfl ⟨rfl, rfl, rfl, rfl, trivial⟩ (fun h => by cases h) (by simp [AllHold, pinO, pinE, look_nil, look_cons, Cnd.holds, InR, iLo, iHi, InRange, Go.Ab.callEff, h1, h2, h3, h4]) hk
              · by_cases h5 : c = 95
                · replace h5 := eq_true h5
                  have hb : charB c = true := by simp [charB, h1, h2', h3', h4, h5]
                  rw [hb] at hk
                  exact reg_seq [(27, false), (31, false), (34, true), (39, true), (43, false)] [(0, .dat .str s), (19, .dat (.int .i64) ((ByteArray.size s : Nat) : Int)), (20, .dat (.int .i64) ((i : Nat) : Int)), (44, .dat .bool false)] tblOk mixed H77_ok hF (base := 0) (objs' := []) rfl ⟨rfl, rfl, rfl, rfl, trivial⟩ (fun h => by cases h) (by simp [AllHold, pinO, pinE, look_nil, look_cons, Cnd.holds, InR, iLo, iHi, InRange, Go.Ab.callEff, h1, h2, h3, h4, h5]) hk
                · have hb : charB c = false := by simp [charB, h1, h2', h3', h4, h5]
                  rw [hb] at hk
                  exact reg_seq [(27, false), (31, false), (34, true), (39, true), (43, true)] [(0, .dat .str s), (19, .dat (.int .i64) ((ByteArray.size s : Nat) : Int)), (20, .dat (.int .i64) ((i : Nat) : Int)), (44, .dat .bool true)] tblOk mixed H77_ok hF (base := 0) (objs' := []) rfl ⟨rfl, rfl, rfl, rfl, trivial⟩ (fun h => by cases h) (by simp [AllHold, pinO, pinE, look_nil, look_cons, Cnd.holds, InR, iLo, iHi, InRange, Go.Ab.callEff, h1, h2, h3, h4, h5]) hk
            · have h3' : c ≤ 57 := by omega
              have hb : charB c = true := by simp [charB, h1, h2', h3']
              rw [hb] at hk
              exact reg_seq [(27, false), (31, false), (34, false)] [(0, .dat .str s), (19, .dat (.int .i64) ((ByteArray.size s : Nat) : Int)), (20, .dat (.int .i64) ((i : Nat) : Int)), (44, .dat .bool false)] tblOk mixed H77_ok hF (base := 0) (objs' := []) rfl ⟨rfl, rfl, rfl, rfl, trivial⟩ (fun h => by cases h) (by simp [AllHold, pinO, pinE, look_nil, look_cons, Cnd.holds, InR, iLo, iHi, InRange, Go.Ab.callEff, h1, h2, h3]) hk
      show Runs _ _ _ _ _ _
      refine runs_cond (b := !charB c) rfl (fun hcb => ?_) (fun hcb => ?_)
      · refine reg_seq [] [(2, .dat .bool false)] tblOk mixed H77_ok hF (base := 0) (objs' := []) rfl ⟨rfl, trivial⟩ (fun h => by cases h) (by simp [AllHold, pinO, pinE, look_nil, Cnd.holds, InR, iLo, iHi, InRange]) ?_
        exact runs_ret ⟨.inr rfl, by rw [nameB_false hlt' (by rw [hc]; simpa using hcb)]; rfl, rfl⟩
      · refine runs_skip ?_
        show Runs _ _ _ _ _ _
        refine reg_end [] [(0, .dat .str s), (19, .dat (.int .i64) ((ByteArray.size s : Nat) : Int)), (20, .dat (.int .i64) (((i + 1 : Nat)) : Int))] tblOk mixed H77_ok hF (base := 0) (objs' := []) rfl ⟨rfl, rfl, rfl, trivial⟩ (fun h => by cases h) (by simp [AllHold, pinO, pinE, look_nil, Cnd.holds, InR, iLo, iHi, InRange]; omega) ?_
        exact ⟨rfl, ⟨by omega, fun j hj => by
          by_cases hji : j = i
          · subst hji; rw [hc]; simpa using hcb
          · exact hi2 j (by omega)⟩, hlt'⟩
end
end Go.Ab

namespace Go.Ab
noncomputable section
open Go Go.Proofs Go.RowKit
set_option maxRecDepth 100000
def H59 : Tolds := fun f l _ => match Nat.beq f 59 with
  | true => match l with
    | [.dat (.int .u8) c] => some ([], .dat .bool (letterB c), [])
    | _ => none
  | false => none
theorem H59_ok : ToldsOk Tryz.prog Tryz.tbl H59 := by
  intro f l objs kp v objs' h
  unfold H59 at h
  split at h
  · rename_i hf
    have := Nat.eq_of_beq_eq_true hf
    subst this
    split at h
    · cases h; exact ⟨_, _, _, _, WkL.refl _, (letter59 _).call objs⟩
    · cases h
  · cases h
theorem name21 (s : ByteArray) : PureC Tryz.prog Tryz.tbl 21 [.dat .str s] (.dat .bool (nameB s)) Tryz.f21 (Tryz.f21.body.get rfl) where
  hfn := Tryz.func21
  hbody := rfl
  hname := by kernel_rfl
  hN := by show 1 ≤ Tryz.f21.ntmps; exact Nat.le_of_ble_eq_true rfl
  hl := by intro x hx; simp at hx; subst hx; rfl
  hv := rfl
  hrun := by
    intro w1 F n hF hr
    show Runs _ F n (.seq (.region _ _ _) (.seq (.seq (.region _ _ _) (.cond _ (.seq (.region _ _ _) .ret) .skip)) (.seq (.seq (.region _ _ _) (.block _ (.loop (.seq (.region _ _ _) (.seq (.cond _ .skip (.exit _)) (.seq (.block _ (.seq (.region _ _ _) (.seq (.region _ _ _) (.seq (.region _ _ _) (.cond _ (.seq (.region _ _ _) .ret) .skip))))) (.region _ _ _))))))) (.seq (.region _ _ _) .ret)))) _ _
    refine reg_seq [] [(0, .dat .str s)] tblOk mixed H59_ok hF (base := 0) (objs' := []) rfl ⟨rfl, trivial⟩ (fun h => by cases h) (by simp [AllHold, pinO, pinE, look_nil, Cnd.holds, InR, iLo, iHi, InRange]) ?_
    refine runs_seq ?_
    refine seq_via [(0, .dat .str s), (18, .dat .bool (!headB s))] (fun hk => ?_) ?_
    · show Runs _ _ _ _ _ _
      by_cases h1 : ByteArray.size s = 0
      · have hb : headB s = false := by simp [headB, h1]
        rw [hb] at hk
        exact reg_seq [(7, true)] [(0, .dat .str s), (18, .dat .bool true)] tblOk mixed H59_ok hF (base := 0) (objs' := []) rfl ⟨rfl, rfl, trivial⟩ (fun h => by cases h) (by simp [AllHold, pinO, pinE, look_nil, look_cons, Cnd.holds, InR, iLo, iHi, InRange, h1]) hk
      · have hs : 0 < ByteArray.size s := by omega
        have h1' : ¬ ((ByteArray.size s : Nat) : Int) < 1 := by omega
        by_cases h2 : 20 < ByteArray.size s
        · have h2n : ¬ ByteArray.size s ≤ 20 := by omega
          have hb : headB s = false := by simp [headB, h2n]
          have h2' : ((ByteArray.size s : Nat) : Int) > 20 := by omega
          rw [hb] at hk
          exact reg_seq [(7, false), (11, true)] [(0, .dat .str s), (18, .dat .bool true)] tblOk mixed H59_ok hF (base := 0) (objs' := []) rfl ⟨rfl, rfl, trivial⟩ (fun h => by cases h) (by simp [AllHold, pinO, pinE, look_nil, look_cons, Cnd.holds, InR, iLo, iHi, InRange, h1', h2']) hk
        · have h2' : ¬ ((ByteArray.size s : Nat) : Int) > 20 := by omega
          cases h3 : letterB (byteAt s 0) with
          | true =>
            have hb : headB s = true := by simp [headB, h3]; omega
            rw [hb] at hk
            exact reg_seq [(7, false), (11, false), (16, true)] [(0, .dat .str s), (18, .dat .bool false)] tblOk mixed H59_ok hF (base := 0) (objs' := []) rfl ⟨rfl, rfl, trivial⟩ (fun h => by cases h) (by simp [AllHold, pinO, pinE, look_nil, look_cons, Cnd.holds, InR, iLo, iHi, InRange, Go.Ab.callEff, h1', h2', h3, hs]) hk
          | false =>
            have hb : headB s = false := by simp [headB, h3]
            rw [hb] at hk
            exact reg_seq [(7, false), (11, false), (16, false)] [(0, .dat .str s), (18, .dat .bool true)] tblOk mixed H59_ok hF (base := 0) (objs' := []) rfl ⟨rfl, rfl, trivial⟩ (fun h => by cases h) (by simp [AllHold, pinO, pinE, look_nil, look_cons, Cnd.holds, InR, iLo, iHi, InRange, Go.Ab.callEff, h1', h2', h3, hs]) hk
    show Runs _ _ _ _ _ _
    refine runs_cond (b := !headB s) rfl (fun hb => ?_) (fun hb => ?_)
    · refine reg_seq [] [(2, .dat .bool false)] tblOk mixed H59_ok hF (base := 0) (objs' := []) rfl ⟨rfl, trivial⟩ (fun h => by cases h) (by simp [AllHold, pinO, pinE, look_nil, Cnd.holds, InR, iLo, iHi, InRange]) ?_
      have hb' : headB s = false := by simpa using hb
      exact runs_ret ⟨.inr rfl, by simp [nameB, hb']; rfl, rfl⟩
    · have hb' : headB s = true := by simpa using hb
      have hs : 1 ≤ ByteArray.size s ∧ ByteArray.size s ≤ 20 := by simp [headB] at hb'; omega
      refine runs_skip ?_
      show Runs _ _ _ _ _ _
      refine runs_seq ?_
      refine reg_seq [] [(0, .dat .str s), (20, .dat (.int .i64) ((ByteArray.size s : Nat) : Int)), (21, .dat (.int .i64) ((0 : Nat) : Int))] tblOk mixed H59_ok hF (base := 0) (objs' := []) rfl ⟨rfl, rfl, rfl, trivial⟩ (fun h => by cases h) (by simp [AllHold, pinO, pinE, look_nil, Cnd.holds, InR, iLo, iHi, InRange]) ?_
      refine runs_block ?_
      refine runs_count (fun i => { fr := [(0, .dat .str s), (20, .dat (.int .i64) ((ByteArray.size s : Nat) : Int)), (21, .dat (.int .i64) ((i : Nat) : Int))], objs := [] }) (fun i => i ≤ ByteArray.size s ∧ ∀ j, j < i → charB (byteAt s j) = true) (ByteArray.size s) (i0 := 0) ⟨by omega, fun j hj => by omega⟩ (fun i hi => ?_)
      obtain ⟨hi1, hi2⟩ := hi
      refine reg_seq [] [(0, .dat .str s), (20, .dat (.int .i64) ((ByteArray.size s : Nat) : Int)), (21, .dat (.int .i64) ((i : Nat) : Int)), (22, .dat .bool (decide (((i : Nat) : Int) < ((ByteArray.size s : Nat) : Int))))] tblOk mixed H59_ok hF (base := 0) (objs' := []) rfl ⟨rfl, rfl, rfl, rfl, trivial⟩ (fun h => by cases h) (by simp [AllHold, pinO, pinE, look_nil, Cnd.holds, InR, iLo, iHi, InRange]) ?_
      refine runs_seq (runs_cond rfl (fun hlt => runs_skip ?_) (fun hge => runs_exit ?_))
      rotate_left
      · -- the end
        have hge' : i = ByteArray.size s := by simp at hge; omega
        show Runs _ _ _ _ _ _
        refine Runs.less (fr' := []) (fun s v h => by simp [look_nil] at h) ?_
        refine reg_seq [] [(2, .dat .bool true)] tblOk mixed H59_ok hF (base := 0) (objs' := []) rfl ⟨rfl, trivial⟩ (fun h => by cases h) (by simp [AllHold, pinO, pinE, look_nil, Cnd.holds, InR, iLo, iHi, InRange]) ?_
        exact runs_ret ⟨.inr rfl, by rw [nameB_true hb' (fun j hj => hi2 j (by omega))]; rfl, rfl⟩
      have hlt' : i < ByteArray.size s := by simp at hlt; omega
      have hix : 0 ≤ ((i : Nat) : Int) ∧ ((i : Nat) : Int) < ((ByteArray.size s : Nat) : Int) := by omega
      show Runs _ _ _ _ _ _
      refine runs_seq (runs_block ?_)
      have frk : ∀ {v : AV}, AllLook [(0, .dat .str s), (20, .dat (.int .i64) ((ByteArray.size s : Nat) : Int)), (21, .dat (.int .i64) ((i : Nat) : Int)), (3, v)] [(0, .dat .str s), (20, .dat (.int .i64) ((ByteArray.size s : Nat) : Int)), (21, .dat (.int .i64) ((i : Nat) : Int)), (3, v)] := ⟨rfl, rfl, rfl, rfl, trivial⟩
      refine reg_seq [] [(0, .dat .str s), (20, .dat (.int .i64) ((ByteArray.size s : Nat) : Int)), (21, .dat (.int .i64) ((i : Nat) : Int)), (3, .dat (.int .i64) ((i : Nat) : Int))] tblOk mixed H59_ok hF (base := 0) (objs' := []) rfl ⟨rfl, rfl, rfl, rfl, trivial⟩ (fun h => by cases h) (by simp [AllHold, pinO, pinE, look_nil, Cnd.holds, InR, iLo, iHi, InRange]) ?_
      refine reg_seq [] [(0, .dat .str s), (20, .dat (.int .i64) ((ByteArray.size s : Nat) : Int)), (21, .dat (.int .i64) ((i : Nat) : Int)), (4, .dat (.int .u8) (byteAt s ((i : Nat) : Int)))] tblOk mixed H59_ok hF (base := 0) (objs' := []) rfl ⟨rfl, rfl, rfl, rfl, trivial⟩ (fun h => by cases h) (by simp [AllHold, pinO, pinE, look_nil, Cnd.holds, InR, iLo, iHi, InRange, hix]) ?_
      generalize hc : byteAt s ((i : Nat) : Int) = c
      refine seq_via [(0, .dat .str s), (20, .dat (.int .i64) ((ByteArray.size s : Nat) : Int)), (21, .dat (.int .i64) ((i : Nat) : Int)), (45, .dat .bool (!charB c))] (fun hk => ?_) ?_
      · skip
        cases h1 : letterB c with
        | true =>
          have hb : charB c = true := by simp [charB, h1]
          rw [hb] at hk
          exact reg_seq [(28, true)] [(0, .dat .str s), (20, .dat (.int .i64) ((ByteArray.size s : Nat) : Int)), (21, .dat (.int .i64) ((i : Nat) : Int)), (45, .dat .bool false)] tblOk mixed H59_ok hF (base := 0) (objs' := []) rfl ⟨rfl, rfl, rfl, rfl, trivial⟩ (fun h => by cases h) (by simp [AllHold, pinO, pinE, look_nil, look_cons, Cnd.holds, InR, iLo, iHi, InRange, Go.Ab.callEff, h1]) hk
        | false =>
          by_cases h2 : c < 48
          · have h2' : ¬ 48 ≤ c := by omega
            by_cases h4 : c = 45
            · replace h4 := eq_true h4
              have hb : charB c = true := by simp [charB, h1, h2', h4]
              rw [hb] at hk
              exact reg_seq [(28, false), (32, true), (40, false)] [(0, .dat .str s), (20, .dat (.int .i64) ((ByteArray.size s : Nat) : Int)), (21, .dat (.int .i64) ((i : Nat) : Int)), (45, .dat .bool false)] tblOk mixed H59_ok hF (base := 0) (objs' := []) rfl ⟨rfl, rfl, rfl, rfl, trivial⟩ (fun h => by cases h) (by simp [AllHold, pinO, pinE, look_nil, look_cons, Cnd.holds, InR, iLo, iHi, InRange, Go.Ab.callEff, h1, h2, h4]) hk
            · by_cases h5 : c = 95
              · replace h5 := eq_true h5
                have hb : charB c = true := by simp [charB, h1, h2', h4, h5]
                rw [hb] at hk
                exact reg_seq [(28, false), (32, true), (40, true), (44, false)] [(0, .dat .str s), (20, .dat (.int .i64) ((ByteArray.size s : Nat) : Int)), (21, .dat (.int .i64) ((i : Nat) : Int)), (45, .dat .bool false)] tblOk mixed H59_ok hF (base := 0) (objs' := []) rfl ⟨rfl, rfl, rfl, rfl, trivial⟩ (fun h => by cases h) (by simp [AllHold, pinO, pinE, look_nil, look_cons, Cnd.holds, InR, iLo, iHi, InRange, Go.Ab.callEff, h1, h2, h4, h5]) hk
              · have hb : charB c = false := by simp [charB, h1, h2', h4, h5]
                rw [hb] at hk
                exact reg_seq [(28, false), (32, true), (40, true), (44, true)] [(0, .dat .str s), (20, .dat (.int .i64) ((ByteArray.size s : Nat) : Int)), (21, .dat (.int .i64) ((i : Nat) : Int)), (45, .dat .bool true)] tblOk mixed H59_ok hF (base := 0) (objs' := []) rfl ⟨rfl, rfl, rfl, rfl, trivial⟩ (fun h => by cases h) (by simp [AllHold, pinO, pinE, look_nil, look_cons, Cnd.holds, InR, iLo, iHi, InRange, Go.Ab.callEff, h1, h2, h4, h5]) hk
          · have h2' : 48 ≤ c := by omega
            by_cases h3 : c > 57
            · have h3' : ¬ c ≤ 57 := by omega
              by_cases h4 : c = 45
              · replace h4 := eq_true h4
                have hb : charB c = true := by simp [charB, h1, h2', h3', h4]
                rw [hb] at hk
                exact reg_seq [(28, false), (32, false), (35, true), (40, false)] [(0, .dat .str s), (20, .dat (.int .i64) ((ByteArray.size s : Nat) : Int)), (21, .dat (.int .i64) ((i : Nat) : Int)), (45, .dat .bool false)] tblOk mixed H59_ok hF (base := 0) (objs' := []) rfl ⟨rfl, rfl, rfl, rfl, trivial⟩ (fun h => by cases h) (by simp [AllHold, pinO, pinE, look_nil, look_cons, Cnd.holds, InR, iLo, iHi, InRange, Go.Ab.callEff, h1, h2, h3, h4]) hk
              · by_cases h5 : c = 95
                · replace h5 := eq_true h5
                  have hb : charB c = true := by simp [charB, h1, h2', h3', h4, h5]
                  rw [hb] at hk
                  exact reg_seq [(28, false), (32, false), (35, true), (40, true), (44, false)] [(0, .dat .str s), (20, .dat (.int .i64) ((ByteArray.size s : Nat) : Int)), (21, .dat (.int .i64) ((i : Nat) : Int)), (45, .dat .bool false)] tblOk mixed H59_ok hF (base := 0) (objs' := []) rfl ⟨rfl, rfl, rfl, rfl, trivial⟩ (fun h => by cases h) (by simp [AllHold, pinO, pinE, look_nil, look_cons, Cnd.holds, InR, iLo, iHi, InRange, Go.Ab.callEff, h1, h2, h3, h4, h5]) hk
                · have hb : charB c = false := by simp [charB, h1, h2', h3', h4, h5]
                  rw [hb] at hk
                  exact reg_seq [(28, false), (32, false), (35, true), (40, true), (44, true)] [(0, .dat .str s), (20, .dat (.int .i64) ((ByteArray.size s : Nat) : Int)), (21, .dat (.int .i64) ((i : Nat) : Int)), (45, .dat .bool true)] tblOk mixed H59_ok hF (base := 0) (objs' := []) rfl ⟨rfl, rfl, rfl, rfl, trivial⟩ (fun h => by cases h) (by simp [AllHold, pinO, pinE, look_nil, look_cons, Cnd.holds, InR, iLo, iHi, InRange, Go.Ab.callEff, h1, h2, h3, h4, h5]) hk
            · have h3' : c ≤ 57 := by omega
              have hb : charB c = true := by simp [charB, h1, h2', h3']
              rw [hb] at hk
              exact reg_seq [(28, false), (32, false), (35, false)] [(0, .dat .str s), (20, .dat (.int .i64) ((ByteArray.size s : Nat) : Int)), (21, .dat (.int .i64) ((i : Nat) : Int)), (45, .dat .bool false)] tblOk mixed H59_ok hF (base := 0) (objs' := []) rfl ⟨rfl, rfl, rfl, rfl, trivial⟩ (fun h => by cases h) (by simp [AllHold, pinO, pinE, look_nil, look_cons, Cnd.holds, InR, iLo, iHi, InRange, Go.Ab.callEff, h1, h2, h3]) hk
      show Runs _ _ _ _ _ _
      refine runs_cond (b := !charB c) rfl (fun hcb => ?_) (fun hcb => ?_)
      · refine reg_seq [] [(2, .dat .bool false)] tblOk mixed H59_ok hF (base := 0) (objs' := []) rfl ⟨rfl, trivial⟩ (fun h => by cases h) (by simp [AllHold, pinO, pinE, look_nil, Cnd.holds, InR, iLo, iHi, InRange]) ?_
        exact runs_ret ⟨.inr rfl, by rw [nameB_false hlt' (by rw [hc]; simpa using hcb)]; rfl, rfl⟩
      · refine runs_skip ?_
        show Runs _ _ _ _ _ _
        refine reg_end [] [(0, .dat .str s), (20, .dat (.int .i64) ((ByteArray.size s : Nat) : Int)), (21, .dat (.int .i64) (((i + 1 : Nat)) : Int))] tblOk mixed H59_ok hF (base := 0) (objs' := []) rfl ⟨rfl, rfl, rfl, trivial⟩ (fun h => by cases h) (by simp [AllHold, pinO, pinE, look_nil, Cnd.holds, InR, iLo, iHi, InRange]; omega) ?_
        exact ⟨rfl, ⟨by omega, fun j hj => by
          by_cases hji : j = i
          · subst hji; rw [hc]; simpa using hcb
          · exact hi2 j (by omega)⟩, hlt'⟩
end
end Go.Ab

namespace Go.Ab
noncomputable section
open Go Go.Proofs Go.RowKit
set_option maxRecDepth 100000
def idxA (s : ByteArray) : List ByteArray → Nat → Int
  | [], _ => -1
  | x :: r, k => if eqS x s = true then ((k : Nat) : Int) else idxA s r (k + 1)
theorem eqS_self (s : ByteArray) : eqS s s = true := (beqS_iff s s).2 rfl
theorem idxA_none' {s : ByteArray} : ∀ {xs : List ByteArray} {k : Nat}, (∀ j, j < xs.length → List.getD xs j ByteArray.empty ≠ s) → idxA s xs k = -1
  | [], _, _ => rfl
  | x :: r, k, h => by
    have h0 : ¬ eqS x s = true := fun e => h 0 (by simp) (by simpa using eqS_eq e)
    simp only [idxA, if_neg h0]
    exact idxA_none' fun j hj => by have := h (j + 1) (by simpa using hj); simpa using this
theorem idxA_none {s : ByteArray} {xs : List ByteArray} (h : ∀ j, j < xs.length → List.getD xs j ByteArray.empty ≠ s) : idxA s xs 0 = -1 := idxA_none' h
theorem idxA_some' {s : ByteArray} : ∀ {xs : List ByteArray} {k i : Nat}, i < xs.length → (∀ j, j < i → List.getD xs j ByteArray.empty ≠ s) → List.getD xs i ByteArray.empty = s → idxA s xs k = ((k + i : Nat) : Int)
  | [], _, _, h, _, _ => by simp at h
  | x :: r, k, i, hi, h, he => by
    cases i with
    | zero =>
      have h0 : x = s := by simpa using he
      subst h0
      simp only [idxA, eqS_self, if_true, Nat.add_zero]
    | succ i =>
      have h0 : ¬ eqS x s = true := fun e => h 0 (by omega) (by simpa using eqS_eq e)
      simp only [idxA, if_neg h0]
      rw [idxA_some' (k := k + 1) (i := i) (by simpa using hi) (fun j hj => by have := h (j + 1) (by omega); simpa using this) (by simpa using he)]
      congr 1; omega
theorem idxA_some {s : ByteArray} {xs : List ByteArray} {i : Nat} (hi : i < xs.length) (h : ∀ j, j < i → List.getD xs j ByteArray.empty ≠ s) (he : List.getD xs i ByteArray.empty = s) : idxA s xs 0 = ((i : Nat) : Int) := by
  rw [idxA_some' hi h he]; congr 1; omega
theorem index22 (xs : List ByteArray) (s : ByteArray) : PureC Tryz.prog Tryz.tbl 22 [.dat (.lst .str) xs, .dat .str s] (.dat (.int .i64) (idxA s xs 0)) Tryz.f22 (Tryz.f22.body.get rfl) where
  hfn := Tryz.func22
  hbody := rfl
  hname := by kernel_rfl
  hN := by show 2 ≤ Tryz.f22.ntmps; exact Nat.le_of_ble_eq_true rfl
  hl := by intro x hx; simp at hx; rcases hx with rfl | rfl <;> rfl
  hv := rfl
  hrun := by
    intro w1 F n hF hr
    show Runs _ F n (.seq (.region _ _ _) (.seq (.seq (.region _ _ _) (.block _ (.loop (.seq (.region _ _ _) (.seq (.cond _ .skip (.exit _)) (.seq (.block _ (.seq (.region _ _ _) (.seq (.region _ _ _) (.cond _ (.seq (.region _ _ _) .ret) .skip)))) (.region _ _ _))))))) (.seq (.region _ _ _) .ret))) _ _
    refine Runs.small (t := .str) (xs := xs) 0 rfl (fun hlen => ?_)
    replace hlen : xs.length ≤ 9223372036854775807 := hlen
    refine reg_seq [] [(0, .dat (.lst .str) xs), (1, .dat .str s)] tblOk mixed noToldOk hF (base := 0) (objs' := []) rfl ⟨rfl, rfl, trivial⟩ (fun h => by cases h) (by simp [AllHold, pinO, pinE, look_nil, Cnd.holds, InR, iLo, iHi, InRange]) ?_
    refine runs_seq ?_
    refine reg_seq [] [(0, .dat (.lst .str) xs), (1, .dat .str s), (7, .dat (.lst .str) xs), (8, .dat (.int .i64) ((List.length xs : Nat) : Int)), (9, .dat (.int .i64) ((0 : Nat) : Int))] tblOk mixed noToldOk hF (base := 0) (objs' := []) rfl ⟨rfl, rfl, rfl, rfl, rfl, trivial⟩ (fun h => by cases h) (by simp [AllHold, pinO, pinE, look_nil, Cnd.holds, InR, iLo, iHi, InRange]) ?_
    refine runs_block ?_
    refine runs_count (fun i => { fr := [(0, .dat (.lst .str) xs), (1, .dat .str s), (7, .dat (.lst .str) xs), (8, .dat (.int .i64) ((List.length xs : Nat) : Int)), (9, .dat (.int .i64) ((i : Nat) : Int))], objs := [] }) (fun i => i ≤ xs.length ∧ ∀ j, j < i → List.getD xs j ByteArray.empty ≠ s) xs.length (i0 := 0) ⟨by omega, fun j hj => by omega⟩ (fun i hi => ?_)
    obtain ⟨hi1, hi2⟩ := hi
    refine reg_seq [] [(0, .dat (.lst .str) xs), (1, .dat .str s), (7, .dat (.lst .str) xs), (8, .dat (.int .i64) ((List.length xs : Nat) : Int)), (9, .dat (.int .i64) ((i : Nat) : Int)), (10, .dat .bool (decide (((i : Nat) : Int) < ((xs.length : Nat) : Int))))] tblOk mixed noToldOk hF (base := 0) (objs' := []) rfl ⟨rfl, rfl, rfl, rfl, rfl, rfl, trivial⟩ (fun h => by cases h) (by simp [AllHold, pinO, pinE, look_nil, Cnd.holds, InR, iLo, iHi, InRange]) ?_
    refine runs_seq (runs_cond rfl (fun hlt => runs_skip ?_) (fun hge => runs_exit ?_))
    rotate_left
    · have hge' : i = xs.length := by simp at hge; omega
      show Runs _ _ _ _ _ _
      refine Runs.less (fr' := []) (fun s v h => by simp [look_nil] at h) ?_
      refine reg_seq [] [(4, .dat (.int .i64) (-1 : Int))] tblOk mixed noToldOk hF (base := 0) (objs' := []) rfl ⟨rfl, trivial⟩ (fun h => by cases h) (by simp [AllHold, pinO, pinE, look_nil, Cnd.holds, InR, iLo, iHi, InRange]) ?_
      exact runs_ret ⟨.inr rfl, by rw [idxA_none (fun j hj => hi2 j (by omega))]; rfl, rfl⟩
    have hlt' : i < xs.length := by simp at hlt; omega
    have hix : 0 ≤ ((i : Nat) : Int) ∧ ((i : Nat) : Int) < ((xs.length : Nat) : Int) := by omega
    show Runs _ _ _ _ _ _
    refine runs_seq (runs_block ?_)
    refine reg_seq [] [(0, .dat (.lst .str) xs), (1, .dat .str s), (7, .dat (.lst .str) xs), (8, .dat (.int .i64) ((List.length xs : Nat) : Int)), (9, .dat (.int .i64) ((i : Nat) : Int)), (5, .dat (.int .i64) ((i : Nat) : Int)), (6, .dat .str (List.getD xs i ByteArray.empty))] tblOk mixed noToldOk hF (base := 0) (objs' := []) rfl ⟨rfl, rfl, rfl, rfl, rfl, rfl, rfl, trivial⟩ (fun h => by cases h) (by simp [AllHold, pinO, pinE, look_nil, Cnd.holds, InR, iLo, iHi, InRange]; exact hlt') ?_
    refine reg_seq [] [(0, .dat (.lst .str) xs), (1, .dat .str s), (7, .dat (.lst .str) xs), (8, .dat (.int .i64) ((List.length xs : Nat) : Int)), (9, .dat (.int .i64) ((i : Nat) : Int)), (5, .dat (.int .i64) ((i : Nat) : Int)), (16, .dat .bool (eqS (List.getD xs i ByteArray.empty) s))] tblOk mixed noToldOk hF (base := 0) (objs' := []) rfl ⟨rfl, rfl, rfl, rfl, rfl, rfl, rfl, trivial⟩ (fun h => by cases h) (by simp [AllHold, pinO, pinE, look_nil, Cnd.holds, InR, iLo, iHi, InRange]) ?_
    refine runs_cond (b := eqS (List.getD xs i ByteArray.empty) s) rfl (fun hcb => ?_) (fun hcb => ?_)
    · refine reg_seq [] [(4, .dat (.int .i64) ((i : Nat) : Int))] tblOk mixed noToldOk hF (base := 0) (objs' := []) rfl ⟨rfl, trivial⟩ (fun h => by cases h) (by simp [AllHold, pinO, pinE, look_nil, Cnd.holds, InR, iLo, iHi, InRange]) ?_
      exact runs_ret ⟨.inr rfl, by rw [idxA_some hlt' hi2 (eqS_eq hcb)]; rfl, rfl⟩
    · refine runs_skip ?_
      show Runs _ _ _ _ _ _
      refine reg_end [] [(0, .dat (.lst .str) xs), (1, .dat .str s), (7, .dat (.lst .str) xs), (8, .dat (.int .i64) ((List.length xs : Nat) : Int)), (9, .dat (.int .i64) (((i + 1 : Nat)) : Int))] tblOk mixed noToldOk hF (base := 0) (objs' := []) rfl ⟨rfl, rfl, rfl, rfl, rfl, trivial⟩ (fun h => by cases h) (by simp [AllHold, pinO, pinE, look_nil, Cnd.holds, InR, iLo, iHi, InRange]; omega) ?_
      exact ⟨rfl, ⟨by omega, fun j hj => by
        by_cases hji : j = i
        · subst hji; exact fun e => by rw [e, eqS_self] at hcb; cases hcb
        · exact hi2 j (by omega)⟩, hlt'⟩
theorem index78 (xs : List ByteArray) (s : ByteArray) : PureC Tryz.prog Tryz.tbl 78 [.dat (.lst .str) xs, .dat .str s] (.dat (.int .i64) (idxA s xs 0)) Tryz.f78 (Tryz.f78.body.get rfl) where
  hfn := Tryz.func78
  hbody := rfl
  hname := by kernel_rfl
  hN := by show 2 ≤ Tryz.f78.ntmps; exact Nat.le_of_ble_eq_true rfl
  hl := by intro x hx; simp at hx; rcases hx with rfl | rfl <;> rfl
  hv := rfl
  hrun := by
    intro w1 F n hF hr
    show Runs _ F n (.seq (.region _ _ _) (.seq (.seq (.region _ _ _) (.block _ (.loop (.seq (.region _ _ _) (.seq (.cond _ .skip (.exit _)) (.seq (.block _ (.seq (.region _ _ _) (.seq (.region _ _ _) (.cond _ (.seq (.region _ _ _) .ret) .skip)))) (.region _ _ _))))))) (.seq (.region _ _ _) .ret))) _ _
    refine Runs.small (t := .str) (xs := xs) 0 rfl (fun hlen => ?_)
    replace hlen : xs.length ≤ 9223372036854775807 := hlen
    refine reg_seq [] [(0, .dat (.lst .str) xs), (1, .dat .str s)] tblOk mixed noToldOk hF (base := 0) (objs' := []) rfl ⟨rfl, rfl, trivial⟩ (fun h => by cases h) (by simp [AllHold, pinO, pinE, look_nil, Cnd.holds, InR, iLo, iHi, InRange]) ?_
    refine runs_seq ?_
    refine reg_seq [] [(0, .dat (.lst .str) xs), (1, .dat .str s), (7, .dat (.int .i64) ((List.length xs : Nat) : Int)), (8, .dat (.int .i64) ((0 : Nat) : Int))] tblOk mixed noToldOk hF (base := 0) (objs' := []) rfl ⟨rfl, rfl, rfl, rfl, trivial⟩ (fun h => by cases h) (by simp [AllHold, pinO, pinE, look_nil, Cnd.holds, InR, iLo, iHi, InRange]) ?_
    refine runs_block ?_
    refine runs_count (fun i => { fr := [(0, .dat (.lst .str) xs), (1, .dat .str s), (7, .dat (.int .i64) ((List.length xs : Nat) : Int)), (8, .dat (.int .i64) ((i : Nat) : Int))], objs := [] }) (fun i => i ≤ xs.length ∧ ∀ j, j < i → List.getD xs j ByteArray.empty ≠ s) xs.length (i0 := 0) ⟨by omega, fun j hj => by omega⟩ (fun i hi => ?_)
    obtain ⟨hi1, hi2⟩ := hi
    refine reg_seq [] [(0, .dat (.lst .str) xs), (1, .dat .str s), (7, .dat (.int .i64) ((List.length xs : Nat) : Int)), (8, .dat (.int .i64) ((i : Nat) : Int)), (9, .dat .bool (decide (((i : Nat) : Int) < ((xs.length : Nat) : Int))))] tblOk mixed noToldOk hF (base := 0) (objs' := []) rfl ⟨rfl, rfl, rfl, rfl, rfl, trivial⟩ (fun h => by cases h) (by simp [AllHold, pinO, pinE, look_nil, Cnd.holds, InR, iLo, iHi, InRange]) ?_
    refine runs_seq (runs_cond rfl (fun hlt => runs_skip ?_) (fun hge => runs_exit ?_))
    rotate_left
    · have hge' : i = xs.length := by simp at hge; omega
      show Runs _ _ _ _ _ _
      refine Runs.less (fr' := []) (fun s v h => by simp [look_nil] at h) ?_
      refine reg_seq [] [(4, .dat (.int .i64) (-1 : Int))] tblOk mixed noToldOk hF (base := 0) (objs' := []) rfl ⟨rfl, trivial⟩ (fun h => by cases h) (by simp [AllHold, pinO, pinE, look_nil, Cnd.holds, InR, iLo, iHi, InRange]) ?_
      exact runs_ret ⟨.inr rfl, by rw [idxA_none (fun j hj => hi2 j (by omega))]; rfl, rfl⟩
    have hlt' : i < xs.length := by simp at hlt; omega
    have hix : 0 ≤ ((i : Nat) : Int) ∧ ((i : Nat) : Int) < ((xs.length : Nat) : Int) := by omega
    show Runs _ _ _ _ _ _
    refine runs_seq (runs_block ?_)
    refine reg_seq [] [(0, .dat (.lst .str) xs), (1, .dat .str s), (7, .dat (.int .i64) ((List.length xs : Nat) : Int)), (8, .dat (.int .i64) ((i : Nat) : Int)), (5, .dat (.int .i64) ((i : Nat) : Int))] tblOk mixed noToldOk hF (base := 0) (objs' := []) rfl ⟨rfl, rfl, rfl, rfl, rfl, trivial⟩ (fun h => by cases h) (by simp [AllHold, pinO, pinE, look_nil, Cnd.holds, InR, iLo, iHi, InRange]) ?_
    refine reg_seq [] [(0, .dat (.lst .str) xs), (1, .dat .str s), (7, .dat (.int .i64) ((List.length xs : Nat) : Int)), (8, .dat (.int .i64) ((i : Nat) : Int)), (5, .dat (.int .i64) ((i : Nat) : Int)), (16, .dat .bool (eqS s (List.getD xs i ByteArray.empty)))] tblOk mixed noToldOk hF (base := 0) (objs' := []) rfl ⟨rfl, rfl, rfl, rfl, rfl, rfl, trivial⟩ (fun h => by cases h) (by simp [AllHold, pinO, pinE, look_nil, Cnd.holds, InR, iLo, iHi, InRange]; exact hlt') ?_
    refine runs_cond (b := eqS s (List.getD xs i ByteArray.empty)) rfl (fun hcb => ?_) (fun hcb => ?_)
    · refine reg_seq [] [(4, .dat (.int .i64) ((i : Nat) : Int))] tblOk mixed noToldOk hF (base := 0) (objs' := []) rfl ⟨rfl, trivial⟩ (fun h => by cases h) (by simp [AllHold, pinO, pinE, look_nil, Cnd.holds, InR, iLo, iHi, InRange]) ?_
      exact runs_ret ⟨.inr rfl, by rw [idxA_some hlt' hi2 ((eqS_eq hcb).symm)]; rfl, rfl⟩
    · refine runs_skip ?_
      show Runs _ _ _ _ _ _
      refine reg_end [] [(0, .dat (.lst .str) xs), (1, .dat .str s), (7, .dat (.int .i64) ((List.length xs : Nat) : Int)), (8, .dat (.int .i64) (((i + 1 : Nat)) : Int))] tblOk mixed noToldOk hF (base := 0) (objs' := []) rfl ⟨rfl, rfl, rfl, rfl, trivial⟩ (fun h => by cases h) (by simp [AllHold, pinO, pinE, look_nil, Cnd.holds, InR, iLo, iHi, InRange]; omega) ?_
      exact ⟨rfl, ⟨by omega, fun j hj => by
        by_cases hji : j = i
        · subst hji; exact fun e => by rw [e, eqS_self] at hcb; cases hcb
        · exact hi2 j (by omega)⟩, hlt'⟩
end
end Go.Ab

namespace Go.Ab
noncomputable section
open Go Go.Proofs Go.RowKit
set_option maxRecDepth 100000
def toldOne (f : FuncId) (g : List AV → Option AV) : Tolds := fun f' l _ => match Nat.beq f' f with
  | true => match g l with
    | some v => some ([], v, [])
    | none => none
  | false => none
theorem toldOne_ok {P : Program} {T : Tbl} {f : FuncId} {g : List AV → Option AV} (h : ∀ l v, g l = some v → ∃ fn c, PureC P T f l v fn c) : ToldsOk P T (toldOne f g) := by
  intro f' l objs kp v objs' hh
  unfold toldOne at hh
  split at hh
  · rename_i hf
    have := Nat.eq_of_beq_eq_true hf
    subst this
    split at hh
    · rename_i v0 hg
      cases hh
      obtain ⟨fn, c, hp⟩ := h _ _ hg
      exact ⟨l, fn, c, [], WkL.refl l, hp.call objs⟩
    · cases hh
  · cases hh
def Tolds.or (H1 H2 : Tolds) : Tolds := fun f l objs => match H1 f l objs with
  | some r => some r
  | none => H2 f l objs
theorem Tolds.or_ok {P : Program} {T : Tbl} {H1 H2 : Tolds} (h1 : ToldsOk P T H1) (h2 : ToldsOk P T H2) : ToldsOk P T (H1.or H2) := by
  intro f l objs kp v objs' hh
  unfold Tolds.or at hh
  split at hh
  · rename_i r hr; cases hh; exact h1 _ _ _ _ _ _ hr
  · exact h2 _ _ _ _ _ _ hh
def gIdx : List AV → Option AV
  | [.dat (.lst .str) xs, .dat .str s] => some (.dat (.int .i64) (idxA s xs 0))
  | _ => none
def gCont : List AV → Option AV
  | [.dat (.lst .str) xs, .dat .str s] => some (.dat .bool (decide (idxA s xs 0 ≥ 0)))
  | _ => none
def gName : List AV → Option AV
  | [.dat .str s] => some (.dat .bool (nameB s))
  | _ => none
theorem gName_some {l : List AV} {v : AV} (h : gName l = some v) : ∃ s, l = [.dat .str s] ∧ v = .dat .bool (nameB s) := by
  unfold gName at h
  split at h
  · cases h; exact ⟨_, rfl, rfl⟩
  · cases h
theorem gIdx_some {l : List AV} {v : AV} (h : gIdx l = some v) : ∃ xs s, l = [.dat (.lst .str) xs, .dat .str s] ∧ v = .dat (.int .i64) (idxA s xs 0) := by
  unfold gIdx at h
  split at h
  · cases h; exact ⟨_, _, rfl, rfl⟩
  · cases h
theorem gCont_some {l : List AV} {v : AV} (h : gCont l = some v) : ∃ xs s, l = [.dat (.lst .str) xs, .dat .str s] ∧ v = .dat .bool (decide (idxA s xs 0 ≥ 0)) := by
  unfold gCont at h
  split at h
  · cases h; exact ⟨_, _, rfl, rfl⟩
  · cases h
theorem H78_ok : ToldsOk Tryz.prog Tryz.tbl (toldOne 78 gIdx) := toldOne_ok fun l v h => by
  obtain ⟨xs, s, rfl, rfl⟩ := gIdx_some h
  exact ⟨_, _, index78 xs s⟩
theorem contains61 (xs : List ByteArray) (s : ByteArray) : PureC Tryz.prog Tryz.tbl 61 [.dat (.lst .str) xs, .dat .str s] (.dat .bool (decide (idxA s xs 0 ≥ 0))) Tryz.f61 (Tryz.f61.body.get rfl) where
  hfn := Tryz.func61
  hbody := rfl
  hname := by kernel_rfl
  hN := by show 2 ≤ Tryz.f61.ntmps; exact Nat.le_of_ble_eq_true rfl
  hl := by intro x hx; simp at hx; rcases hx with rfl | rfl <;> rfl
  hv := rfl
  hrun := by
    intro w1 F n hF hr
    show Runs _ F n (.seq (.region _ _ _) (.seq (.region _ _ _) .ret)) _ _
    refine reg_seq [] [(0, .dat (.lst .str) xs), (1, .dat .str s)] tblOk mixed H78_ok hF (base := 0) (objs' := []) rfl ⟨rfl, rfl, trivial⟩ (fun h => by cases h) (by simp [AllHold, pinO, pinE, look_nil, Cnd.holds, InR, iLo, iHi, InRange]) ?_
    refine reg_seq [] [(4, .dat .bool (decide (idxA s xs 0 ≥ 0)))] tblOk mixed H78_ok hF (base := 0) (objs' := []) rfl ⟨rfl, trivial⟩ (fun h => by cases h) (by simp [AllHold, pinO, pinE, look_nil, Cnd.holds, InR, iLo, iHi, InRange, Go.Ab.callEff]) ?_
    exact runs_ret ⟨.inr rfl, rfl, rfl⟩
theorem HIs_ok : ToldsOk Tryz.prog Tryz.tbl (Tolds.or (toldOne 22 gIdx) (toldOne 21 gName)) := Tolds.or_ok
  (toldOne_ok fun l v h => by
    obtain ⟨xs, s, rfl, rfl⟩ := gIdx_some h
    exact ⟨_, _, index22 xs s⟩)
  (toldOne_ok fun l v h => by
    obtain ⟨s, rfl, rfl⟩ := gName_some h
    exact ⟨_, _, name21 s⟩)
theorem HVa_ok : ToldsOk Tryz.prog Tryz.tbl (Tolds.or (toldOne 61 gCont) (toldOne 60 gName)) := Tolds.or_ok
  (toldOne_ok fun l v h => by
    obtain ⟨xs, s, rfl, rfl⟩ := gCont_some h
    exact ⟨_, _, contains61 xs s⟩)
  (toldOne_ok fun l v h => by
    obtain ⟨s, rfl, rfl⟩ := gName_some h
    exact ⟨_, _, name60 s⟩)
def okAt (xs : List ByteArray) (i : Nat) : Bool := nameB (List.getD xs i ByteArray.empty) && decide (idxA (List.getD xs i ByteArray.empty) xs 0 = ((i : Nat) : Int))
def validB (xs : List ByteArray) : Bool := decide (xs.length ≤ 8) && (List.range xs.length).all (okAt xs)
theorem validB_long {xs : List ByteArray} (h : ¬ xs.length ≤ 8) : validB xs = false := by simp [validB, h]
theorem validB_true {xs : List ByteArray} (h : xs.length ≤ 8) (hc : ∀ j, j < xs.length → okAt xs j = true) : validB xs = true := by
  simp only [validB, decide_eq_true h, Bool.true_and, List.all_eq_true, List.mem_range]; exact hc
theorem validB_false {xs : List ByteArray} {i : Nat} (hi : i < xs.length) (hc : okAt xs i = false) : validB xs = false := by
  simp only [validB, Bool.and_eq_false_iff, List.all_eq_false]; exact .inr ⟨i, List.mem_range.2 hi, by simp [hc]⟩
/-- The first place: told by the places before. -/
theorem first_or {s : ByteArray} {xs : List ByteArray} : ∀ i : Nat, (∀ j, j < i → List.getD xs j ByteArray.empty ≠ s) ∨ ∃ k, k < i ∧ List.getD xs k ByteArray.empty = s ∧ ∀ j, j < k → List.getD xs j ByteArray.empty ≠ s
  | 0 => .inl fun j hj => by omega
  | i + 1 => by
    rcases first_or (s := s) (xs := xs) i with h | ⟨k, h1, h2, h3⟩
    · by_cases he : List.getD xs i ByteArray.empty = s
      · exact .inr ⟨i, by omega, he, h⟩
      · refine .inl fun j hj => ?_
        by_cases hji : j = i
        · subst hji; exact he
        · exact h j (by omega)
    · exact .inr ⟨k, by omega, h2, h3⟩
theorem getD_sub {xs : List ByteArray} {i j : Nat} (hj : j < i) : List.getD (subL xs 0 ((i : Nat) : Int)) j ByteArray.empty = List.getD xs j ByteArray.empty := by
  simp only [subL, Int.toNat_natCast, List.getD_eq_getElem?_getD]
  rw [show Int.toNat 0 = 0 from rfl, List.drop_zero, List.getElem?_take_of_lt hj]
theorem len_sub {xs : List ByteArray} {i : Nat} (hi : i ≤ xs.length) : (subL xs 0 ((i : Nat) : Int)).length = i := by
  simp only [subL, Int.toNat_natCast]
  rw [show Int.toNat 0 = 0 from rfl, List.drop_zero, List.length_take]; omega
theorem idxA_take {xs : List ByteArray} {i : Nat} (hi : i < xs.length) : (idxA (List.getD xs i ByteArray.empty) xs 0 = ((i : Nat) : Int)) ↔ decide (idxA (List.getD xs i ByteArray.empty) (subL xs 0 ((i : Nat) : Int)) 0 ≥ 0) = false := by
  generalize hs : List.getD xs i ByteArray.empty = s
  rcases first_or (s := s) (xs := xs) i with h | ⟨k, h1, h2, h3⟩
  · rw [idxA_some hi h hs, idxA_none (fun j hj => by rw [len_sub (by omega)] at hj; rw [getD_sub hj]; exact h j hj)]
    simp
  · rw [idxA_some (i := k) (by omega) h3 h2, idxA_some (xs := subL xs 0 ((i : Nat) : Int)) (i := k) (by rw [len_sub (by omega)]; exact h1) (fun j hj => by rw [getD_sub (by omega)]; exact h3 j hj) (by rw [getD_sub h1]; exact h2)]
    simp; omega
theorem idxA_neg {s : ByteArray} {xs : List ByteArray} (h : decide (idxA s xs 0 ≥ 0) = false) : idxA s xs 0 < 0 := by simp at h; exact h
theorem idxA_nn {s : ByteArray} {xs : List ByteArray} (h : decide (idxA s xs 0 ≥ 0) = true) : 0 ≤ idxA s xs 0 := by simp at h; exact h
theorem idxA_take' {xs : List ByteArray} {i : Nat} (hi : i < xs.length) (h : ¬ idxA (List.getD xs i ByteArray.empty) xs 0 = ((i : Nat) : Int)) : decide (idxA (List.getD xs i ByteArray.empty) (subL xs 0 ((i : Nat) : Int)) 0 ≥ 0) = true := by
  cases hb : decide (idxA (List.getD xs i ByteArray.empty) (subL xs 0 ((i : Nat) : Int)) 0 ≥ 0) with
  | true => rfl
  | false => exact absurd ((idxA_take hi).2 hb) h
theorem valid7 (xs : List ByteArray) : PureC Tryz.prog Tryz.tbl 7 [.dat (.lst .str) xs] (.dat .bool (validB xs)) Tryz.f7 (Tryz.f7.body.get rfl) where
  hfn := Tryz.func7
  hbody := rfl
  hname := by kernel_rfl
  hN := by show 1 ≤ Tryz.f7.ntmps; exact Nat.le_of_ble_eq_true rfl
  hl := by intro x hx; simp at hx; subst hx; rfl
  hv := rfl
  hrun := by
    intro w1 F n hF hr
    show Runs _ F n (.seq (.region _ _ _) (.seq (.seq (.region _ _ _) (.cond _ (.seq (.region _ _ _) .ret) .skip)) (.seq (.seq (.region _ _ _) (.block _ (.loop (.seq (.region _ _ _) (.seq (.cond _ .skip (.exit _)) (.seq (.block _ (.seq (.region _ _ _) (.seq (.region _ _ _) (.cond _ (.seq (.region _ _ _) .ret) .skip)))) (.region _ _ _))))))) (.seq (.region _ _ _) .ret)))) _ _
    refine reg_seq [] [(0, .dat (.lst .str) xs)] tblOk mixed HIs_ok hF (base := 0) (objs' := []) rfl ⟨rfl, trivial⟩ (fun h => by cases h) (by simp [AllHold, pinO, pinE, look_nil, Cnd.holds, InR, iLo, iHi, InRange]) ?_
    refine runs_seq ?_
    refine reg_seq [] [(0, .dat (.lst .str) xs), (7, .dat .bool (decide (((xs.length : Nat) : Int) > 8)))] tblOk mixed HIs_ok hF (base := 0) (objs' := []) rfl ⟨rfl, rfl, trivial⟩ (fun h => by cases h) (by simp [AllHold, pinO, pinE, look_nil, Cnd.holds, InR, iLo, iHi, InRange]) ?_
    refine runs_cond rfl (fun hb => ?_) (fun hb => ?_)
    · refine reg_seq [] [(2, .dat .bool false)] tblOk mixed HIs_ok hF (base := 0) (objs' := []) rfl ⟨rfl, trivial⟩ (fun h => by cases h) (by simp [AllHold, pinO, pinE, look_nil, Cnd.holds, InR, iLo, iHi, InRange]) ?_
      have hlen : ¬ xs.length ≤ 8 := by simp at hb; omega
      exact runs_ret ⟨.inr rfl, by rw [validB_long hlen]; rfl, rfl⟩
    · have hlen : xs.length ≤ 8 := by simp at hb; omega
      refine runs_skip ?_
      show Runs _ _ _ _ _ _
      refine runs_seq ?_
      refine reg_seq [] [(0, .dat (.lst .str) xs), (8, .dat (.lst .str) xs), (9, .dat (.int .i64) ((List.length xs : Nat) : Int)), (10, .dat (.int .i64) ((0 : Nat) : Int))] tblOk mixed HIs_ok hF (base := 0) (objs' := []) rfl ⟨rfl, rfl, rfl, rfl, trivial⟩ (fun h => by cases h) (by simp [AllHold, pinO, pinE, look_nil, Cnd.holds, InR, iLo, iHi, InRange]) ?_
      refine runs_block ?_
      refine runs_count (fun i => { fr := [(0, .dat (.lst .str) xs), (8, .dat (.lst .str) xs), (9, .dat (.int .i64) ((List.length xs : Nat) : Int)), (10, .dat (.int .i64) ((i : Nat) : Int))], objs := [] }) (fun i => i ≤ xs.length ∧ ∀ j, j < i → okAt xs j = true) xs.length (i0 := 0) ⟨by omega, fun j hj => by omega⟩ (fun i hi => ?_)
      obtain ⟨hi1, hi2⟩ := hi
      refine reg_seq [] [(0, .dat (.lst .str) xs), (8, .dat (.lst .str) xs), (9, .dat (.int .i64) ((List.length xs : Nat) : Int)), (10, .dat (.int .i64) ((i : Nat) : Int)), (11, .dat .bool (decide (((i : Nat) : Int) < ((xs.length : Nat) : Int))))] tblOk mixed HIs_ok hF (base := 0) (objs' := []) rfl ⟨rfl, rfl, rfl, rfl, rfl, trivial⟩ (fun h => by cases h) (by simp [AllHold, pinO, pinE, look_nil, Cnd.holds, InR, iLo, iHi, InRange]) ?_
      refine runs_seq (runs_cond rfl (fun hlt => runs_skip ?_) (fun hge => runs_exit ?_))
      rotate_left
      · have hge' : i = xs.length := by simp at hge; omega
        show Runs _ _ _ _ _ _
        refine Runs.less (fr' := []) (fun s v h => by simp [look_nil] at h) ?_
        refine reg_seq [] [(2, .dat .bool true)] tblOk mixed HIs_ok hF (base := 0) (objs' := []) rfl ⟨rfl, trivial⟩ (fun h => by cases h) (by simp [AllHold, pinO, pinE, look_nil, Cnd.holds, InR, iLo, iHi, InRange]) ?_
        exact runs_ret ⟨.inr rfl, by rw [validB_true hlen (fun j hj => hi2 j (by omega))]; rfl, rfl⟩
      have hlt' : i < xs.length := by simp at hlt; omega
      have hix : 0 ≤ ((i : Nat) : Int) ∧ ((i : Nat) : Int) < ((xs.length : Nat) : Int) := by omega
      show Runs _ _ _ _ _ _
      refine runs_seq (runs_block ?_)
      refine reg_seq [] [(0, .dat (.lst .str) xs), (8, .dat (.lst .str) xs), (9, .dat (.int .i64) ((List.length xs : Nat) : Int)), (10, .dat (.int .i64) ((i : Nat) : Int)), (3, .dat (.int .i64) ((i : Nat) : Int)), (4, .dat .str (List.getD xs i ByteArray.empty))] tblOk mixed HIs_ok hF (base := 0) (objs' := []) rfl ⟨rfl, rfl, rfl, rfl, rfl, rfl, trivial⟩ (fun h => by cases h) (by simp [AllHold, pinO, pinE, look_nil, Cnd.holds, InR, iLo, iHi, InRange, hix]; exact hlt') ?_
      refine seq_via [(0, .dat (.lst .str) xs), (8, .dat (.lst .str) xs), (9, .dat (.int .i64) ((List.length xs : Nat) : Int)), (10, .dat (.int .i64) ((i : Nat) : Int)), (24, .dat .bool (!okAt xs i))] (fun hk => ?_) ?_
      · cases h1 : nameB (List.getD xs i ByteArray.empty) with
        | false =>
          have hb : okAt xs i = false := by simp only [okAt, h1, Bool.false_and]
          rw [hb] at hk
          exact reg_seq [(16, false)] [(0, .dat (.lst .str) xs), (8, .dat (.lst .str) xs), (9, .dat (.int .i64) ((List.length xs : Nat) : Int)), (10, .dat (.int .i64) ((i : Nat) : Int)), (24, .dat .bool true)] tblOk mixed HIs_ok hF (base := 0) (objs' := []) rfl ⟨rfl, rfl, rfl, rfl, rfl, trivial⟩ (fun h => by cases h) (by simp [AllHold, pinO, pinE, look_nil, look_cons, Cnd.holds, InR, iLo, iHi, InRange, Go.Ab.callEff]; exact h1) hk
        | true =>
          by_cases h2 : idxA (List.getD xs i ByteArray.empty) xs 0 = ((i : Nat) : Int)
          · have hb : okAt xs i = true := by simp only [okAt, h1, Bool.true_and, decide_eq_true_eq]; exact h2
            rw [hb] at hk
            exact reg_seq [(16, true), (23, false)] [(0, .dat (.lst .str) xs), (8, .dat (.lst .str) xs), (9, .dat (.int .i64) ((List.length xs : Nat) : Int)), (10, .dat (.int .i64) ((i : Nat) : Int)), (24, .dat .bool false)] tblOk mixed HIs_ok hF (base := 0) (objs' := []) rfl ⟨rfl, rfl, rfl, rfl, rfl, trivial⟩ (fun h => by cases h) (by simp [AllHold, pinO, pinE, look_nil, look_cons, Cnd.holds, InR, iLo, iHi, InRange, Go.Ab.callEff]; exact ⟨h1, h2⟩) hk
          · have hb : okAt xs i = false := by simp only [okAt, h1, Bool.true_and, decide_eq_false_iff_not]; exact h2
            rw [hb] at hk
            exact reg_seq [(16, true), (23, true)] [(0, .dat (.lst .str) xs), (8, .dat (.lst .str) xs), (9, .dat (.int .i64) ((List.length xs : Nat) : Int)), (10, .dat (.int .i64) ((i : Nat) : Int)), (24, .dat .bool true)] tblOk mixed HIs_ok hF (base := 0) (objs' := []) rfl ⟨rfl, rfl, rfl, rfl, rfl, trivial⟩ (fun h => by cases h) (by simp [AllHold, pinO, pinE, look_nil, look_cons, Cnd.holds, InR, iLo, iHi, InRange, Go.Ab.callEff]; exact ⟨h1, h2⟩) hk
      · show Runs _ _ _ _ _ _
        refine runs_cond (b := !okAt xs i) rfl (fun hcb => ?_) (fun hcb => ?_)
        · refine reg_seq [] [(2, .dat .bool false)] tblOk mixed HIs_ok hF (base := 0) (objs' := []) rfl ⟨rfl, trivial⟩ (fun h => by cases h) (by simp [AllHold, pinO, pinE, look_nil, Cnd.holds, InR, iLo, iHi, InRange]) ?_
          exact runs_ret ⟨.inr rfl, by rw [validB_false hlt' (by simpa using hcb)]; rfl, rfl⟩
        · refine runs_skip ?_
          show Runs _ _ _ _ _ _
          refine reg_end [] [(0, .dat (.lst .str) xs), (8, .dat (.lst .str) xs), (9, .dat (.int .i64) ((List.length xs : Nat) : Int)), (10, .dat (.int .i64) (((i + 1 : Nat)) : Int))] tblOk mixed HIs_ok hF (base := 0) (objs' := []) rfl ⟨rfl, rfl, rfl, rfl, trivial⟩ (fun h => by cases h) (by simp [AllHold, pinO, pinE, look_nil, Cnd.holds, InR, iLo, iHi, InRange]; omega) ?_
          exact ⟨rfl, ⟨by omega, fun j hj => by
            by_cases hji : j = i
            · subst hji; simpa using hcb
            · exact hi2 j (by omega)⟩, hlt'⟩
theorem valid23 (xs : List ByteArray) : PureC Tryz.prog Tryz.tbl 23 [.dat (.lst .str) xs] (.dat .bool (validB xs)) Tryz.f23 (Tryz.f23.body.get rfl) where
  hfn := Tryz.func23
  hbody := rfl
  hname := by kernel_rfl
  hN := by show 1 ≤ Tryz.f23.ntmps; exact Nat.le_of_ble_eq_true rfl
  hl := by intro x hx; simp at hx; subst hx; rfl
  hv := rfl
  hrun := by
    intro w1 F n hF hr
    show Runs _ F n (.seq (.region _ _ _) (.seq (.seq (.region _ _ _) (.cond _ (.seq (.region _ _ _) .ret) .skip)) (.seq (.seq (.region _ _ _) (.block _ (.loop (.seq (.region _ _ _) (.seq (.cond _ .skip (.exit _)) (.seq (.block _ (.seq (.region _ _ _) (.seq (.region _ _ _) (.cond _ (.seq (.region _ _ _) .ret) .skip)))) (.region _ _ _))))))) (.seq (.region _ _ _) .ret)))) _ _
    refine reg_seq [] [(0, .dat (.lst .str) xs)] tblOk mixed HVa_ok hF (base := 0) (objs' := []) rfl ⟨rfl, trivial⟩ (fun h => by cases h) (by simp [AllHold, pinO, pinE, look_nil, Cnd.holds, InR, iLo, iHi, InRange]) ?_
    refine runs_seq ?_
    refine reg_seq [] [(0, .dat (.lst .str) xs), (7, .dat .bool (decide (((xs.length : Nat) : Int) > 8)))] tblOk mixed HVa_ok hF (base := 0) (objs' := []) rfl ⟨rfl, rfl, trivial⟩ (fun h => by cases h) (by simp [AllHold, pinO, pinE, look_nil, Cnd.holds, InR, iLo, iHi, InRange]) ?_
    refine runs_cond rfl (fun hb => ?_) (fun hb => ?_)
    · refine reg_seq [] [(2, .dat .bool false)] tblOk mixed HVa_ok hF (base := 0) (objs' := []) rfl ⟨rfl, trivial⟩ (fun h => by cases h) (by simp [AllHold, pinO, pinE, look_nil, Cnd.holds, InR, iLo, iHi, InRange]) ?_
      have hlen : ¬ xs.length ≤ 8 := by simp at hb; omega
      exact runs_ret ⟨.inr rfl, by rw [validB_long hlen]; rfl, rfl⟩
    · have hlen : xs.length ≤ 8 := by simp at hb; omega
      refine runs_skip ?_
      show Runs _ _ _ _ _ _
      refine runs_seq ?_
      refine reg_seq [] [(0, .dat (.lst .str) xs), (8, .dat (.lst .str) xs), (9, .dat (.int .i64) ((List.length xs : Nat) : Int)), (10, .dat (.int .i64) ((0 : Nat) : Int))] tblOk mixed HVa_ok hF (base := 0) (objs' := []) rfl ⟨rfl, rfl, rfl, rfl, trivial⟩ (fun h => by cases h) (by simp [AllHold, pinO, pinE, look_nil, Cnd.holds, InR, iLo, iHi, InRange]) ?_
      refine runs_block ?_
      refine runs_count (fun i => { fr := [(0, .dat (.lst .str) xs), (8, .dat (.lst .str) xs), (9, .dat (.int .i64) ((List.length xs : Nat) : Int)), (10, .dat (.int .i64) ((i : Nat) : Int))], objs := [] }) (fun i => i ≤ xs.length ∧ ∀ j, j < i → okAt xs j = true) xs.length (i0 := 0) ⟨by omega, fun j hj => by omega⟩ (fun i hi => ?_)
      obtain ⟨hi1, hi2⟩ := hi
      refine reg_seq [] [(0, .dat (.lst .str) xs), (8, .dat (.lst .str) xs), (9, .dat (.int .i64) ((List.length xs : Nat) : Int)), (10, .dat (.int .i64) ((i : Nat) : Int)), (11, .dat .bool (decide (((i : Nat) : Int) < ((xs.length : Nat) : Int))))] tblOk mixed HVa_ok hF (base := 0) (objs' := []) rfl ⟨rfl, rfl, rfl, rfl, rfl, trivial⟩ (fun h => by cases h) (by simp [AllHold, pinO, pinE, look_nil, Cnd.holds, InR, iLo, iHi, InRange]) ?_
      refine runs_seq (runs_cond rfl (fun hlt => runs_skip ?_) (fun hge => runs_exit ?_))
      rotate_left
      · have hge' : i = xs.length := by simp at hge; omega
        show Runs _ _ _ _ _ _
        refine Runs.less (fr' := []) (fun s v h => by simp [look_nil] at h) ?_
        refine reg_seq [] [(2, .dat .bool true)] tblOk mixed HVa_ok hF (base := 0) (objs' := []) rfl ⟨rfl, trivial⟩ (fun h => by cases h) (by simp [AllHold, pinO, pinE, look_nil, Cnd.holds, InR, iLo, iHi, InRange]) ?_
        exact runs_ret ⟨.inr rfl, by rw [validB_true hlen (fun j hj => hi2 j (by omega))]; rfl, rfl⟩
      have hlt' : i < xs.length := by simp at hlt; omega
      have hix : 0 ≤ ((i : Nat) : Int) ∧ ((i : Nat) : Int) < ((xs.length : Nat) : Int) := by omega
      show Runs _ _ _ _ _ _
      refine runs_seq (runs_block ?_)
      refine reg_seq [] [(0, .dat (.lst .str) xs), (8, .dat (.lst .str) xs), (9, .dat (.int .i64) ((List.length xs : Nat) : Int)), (10, .dat (.int .i64) ((i : Nat) : Int)), (3, .dat (.int .i64) ((i : Nat) : Int)), (4, .dat .str (List.getD xs i ByteArray.empty))] tblOk mixed HVa_ok hF (base := 0) (objs' := []) rfl ⟨rfl, rfl, rfl, rfl, rfl, rfl, trivial⟩ (fun h => by cases h) (by simp [AllHold, pinO, pinE, look_nil, Cnd.holds, InR, iLo, iHi, InRange, hix]; exact hlt') ?_
      refine seq_via [(0, .dat (.lst .str) xs), (8, .dat (.lst .str) xs), (9, .dat (.int .i64) ((List.length xs : Nat) : Int)), (10, .dat (.int .i64) ((i : Nat) : Int)), (24, .dat .bool (!okAt xs i))] (fun hk => ?_) ?_
      · cases h1 : nameB (List.getD xs i ByteArray.empty) with
        | false =>
          have hb : okAt xs i = false := by simp only [okAt, h1, Bool.false_and]
          rw [hb] at hk
          exact reg_seq [(16, false)] [(0, .dat (.lst .str) xs), (8, .dat (.lst .str) xs), (9, .dat (.int .i64) ((List.length xs : Nat) : Int)), (10, .dat (.int .i64) ((i : Nat) : Int)), (24, .dat .bool true)] tblOk mixed HVa_ok hF (base := 0) (objs' := []) rfl ⟨rfl, rfl, rfl, rfl, rfl, trivial⟩ (fun h => by cases h) (by simp [AllHold, pinO, pinE, look_nil, look_cons, Cnd.holds, InR, iLo, iHi, InRange, Go.Ab.callEff]; exact h1) hk
        | true =>
          by_cases h2 : idxA (List.getD xs i ByteArray.empty) xs 0 = ((i : Nat) : Int)
          · have hb : okAt xs i = true := by simp only [okAt, h1, Bool.true_and, decide_eq_true_eq]; exact h2
            have h3 := (idxA_take hlt').1 h2
            rw [hb] at hk
            exact reg_seq [(16, true), (23, false)] [(0, .dat (.lst .str) xs), (8, .dat (.lst .str) xs), (9, .dat (.int .i64) ((List.length xs : Nat) : Int)), (10, .dat (.int .i64) ((i : Nat) : Int)), (24, .dat .bool false)] tblOk mixed HVa_ok hF (base := 0) (objs' := []) rfl ⟨rfl, rfl, rfl, rfl, rfl, trivial⟩ (fun h => by cases h) (by simp [AllHold, pinO, pinE, look_nil, look_cons, Cnd.holds, InR, iLo, iHi, InRange, Go.Ab.callEff, SubOk]; exact ⟨h1, Nat.le_of_lt hlt', idxA_neg h3⟩) hk
          · have hb : okAt xs i = false := by simp only [okAt, h1, Bool.true_and, decide_eq_false_iff_not]; exact h2
            have h3 := idxA_take' hlt' h2
            rw [hb] at hk
            exact reg_seq [(16, true), (23, true)] [(0, .dat (.lst .str) xs), (8, .dat (.lst .str) xs), (9, .dat (.int .i64) ((List.length xs : Nat) : Int)), (10, .dat (.int .i64) ((i : Nat) : Int)), (24, .dat .bool true)] tblOk mixed HVa_ok hF (base := 0) (objs' := []) rfl ⟨rfl, rfl, rfl, rfl, rfl, trivial⟩ (fun h => by cases h) (by simp [AllHold, pinO, pinE, look_nil, look_cons, Cnd.holds, InR, iLo, iHi, InRange, Go.Ab.callEff, SubOk]; exact ⟨h1, Nat.le_of_lt hlt', idxA_nn h3⟩) hk
      · show Runs _ _ _ _ _ _
        refine runs_cond (b := !okAt xs i) rfl (fun hcb => ?_) (fun hcb => ?_)
        · refine reg_seq [] [(2, .dat .bool false)] tblOk mixed HVa_ok hF (base := 0) (objs' := []) rfl ⟨rfl, trivial⟩ (fun h => by cases h) (by simp [AllHold, pinO, pinE, look_nil, Cnd.holds, InR, iLo, iHi, InRange]) ?_
          exact runs_ret ⟨.inr rfl, by rw [validB_false hlt' (by simpa using hcb)]; rfl, rfl⟩
        · refine runs_skip ?_
          show Runs _ _ _ _ _ _
          refine reg_end [] [(0, .dat (.lst .str) xs), (8, .dat (.lst .str) xs), (9, .dat (.int .i64) ((List.length xs : Nat) : Int)), (10, .dat (.int .i64) (((i + 1 : Nat)) : Int))] tblOk mixed HVa_ok hF (base := 0) (objs' := []) rfl ⟨rfl, rfl, rfl, rfl, trivial⟩ (fun h => by cases h) (by simp [AllHold, pinO, pinE, look_nil, Cnd.holds, InR, iLo, iHi, InRange]; omega) ?_
          exact ⟨rfl, ⟨by omega, fun j hj => by
            by_cases hji : j = i
            · subst hji; simpa using hcb
            · exact hi2 j (by omega)⟩, hlt'⟩
end
end Go.Ab
