/- What the executor says, the machine does. -/
import Derived.Test.YtdhfgopecekdjaaGreatDoorAb14
import Derived.LoopNIn
namespace Go.Ab
noncomputable section
open Go Go.RowKit

/-! ### The executor's parts mean what they say -/
theorem brec {α : Type} {a b : α} {x y : Nat} : Bool.rec (motive := fun _ => α) a b (Nat.beq x y) = if x = y then b else a := by
  by_cases h : x = y
  · subst h; rw [Nat.beq_refl]; simp
  · have : Nat.beq x y = false := by
      cases hb : Nat.beq x y with
      | false => rfl
      | true => exact absurd (Nat.eq_of_beq_eq_true hb) h
    rw [this]; simp [h]
theorem trGet_lf {k : Nat} : trGet .lf k = none := rfl
theorem trGet_nd {v : Option AV} {l r : Tr} {k : Nat} : trGet (.nd v l r) k = if k = 0 then v else if k % 2 = 1 then trGet l (k / 2) else trGet r (k / 2 - 1) := by
  show Bool.rec (motive := fun _ => Option AV) (Bool.rec (motive := fun _ => Option AV) (trGet r (k / 2 - 1)) (trGet l (k / 2)) (Nat.beq (k % 2) 1)) v (Nat.beq k 0) = _
  rw [brec, brec]
theorem trOne_succ {v : AV} {f k : Nat} : trOne v (f + 1) k = if k = 0 then .nd (some v) .lf .lf else if k % 2 = 1 then .nd none (trOne v f (k / 2)) .lf else .nd none .lf (trOne v f (k / 2 - 1)) := by
  show Bool.rec (motive := fun _ => Tr) (Bool.rec (motive := fun _ => Tr) (.nd none .lf (trOne v f (k / 2 - 1))) (.nd none (trOne v f (k / 2)) .lf) (Nat.beq (k % 2) 1)) (.nd (some v) .lf .lf) (Nat.beq k 0) = _
  rw [brec, brec]
theorem trSet_nd {v : AV} {u : Option AV} {l r : Tr} {k : Nat} : trSet v (.nd u l r) k = if k = 0 then .nd (some v) l r else if k % 2 = 1 then .nd u (trSet v l (k / 2)) r else .nd u l (trSet v r (k / 2 - 1)) := by
  show Bool.rec (motive := fun _ => Tr) (Bool.rec (motive := fun _ => Tr) (.nd u l (trSet v r (k / 2 - 1))) (.nd u (trSet v l (k / 2)) r) (Nat.beq (k % 2) 1)) (.nd (some v) l r) (Nat.beq k 0) = _
  rw [brec, brec]
theorem trOne_get {v : AV} : ∀ {f k s : Nat}, k ≤ f → trGet (trOne v f k) s = if s = k then some v else none := by
  intro f
  induction f with
  | zero =>
    intro k s h
    obtain rfl : k = 0 := by omega
    show trGet (.nd (some v) .lf .lf) s = _
    rw [trGet_nd]; simp only [trGet_lf, ite_self]
  | succ f ih =>
    intro k s h
    rw [trOne_succ]
    by_cases h0 : k = 0
    · subst h0; rw [if_pos rfl, trGet_nd]; simp only [trGet_lf, ite_self]
    · rw [if_neg h0]
      by_cases h1 : k % 2 = 1
      · rw [if_pos h1, trGet_nd]
        by_cases s0 : s = 0
        · subst s0; rw [if_pos rfl, if_neg (by omega)]
        · rw [if_neg s0, ih (by omega), trGet_lf]
          by_cases s1 : s % 2 = 1
          · rw [if_pos s1]
            by_cases he : s = k
            · subst he; simp
            · rw [if_neg he, if_neg (by omega)]
          · rw [if_neg s1, if_neg (by rintro rfl; exact s1 h1)]
      · rw [if_neg h1, trGet_nd]
        by_cases s0 : s = 0
        · subst s0; rw [if_pos rfl, if_neg (by omega)]
        · rw [if_neg s0, ih (by omega), trGet_lf]
          by_cases s1 : s % 2 = 1
          · rw [if_pos s1, if_neg (by rintro rfl; exact h1 s1)]
          · rw [if_neg s1]
            by_cases he : s = k
            · subst he; simp
            · rw [if_neg he, if_neg (by omega)]
theorem trSet_get {v : AV} : ∀ {t : Tr} {k s : Nat}, trGet (trSet v t k) s = if s = k then some v else trGet t s := by
  intro t
  induction t with
  | lf => intro k s; exact trOne_get (Nat.le_refl k)
  | nd u l r ihl ihr =>
    intro k s
    rw [trSet_nd]
    by_cases h0 : k = 0
    · subst h0; rw [if_pos rfl, trGet_nd, trGet_nd]
      by_cases s0 : s = 0 <;> simp [s0]
    · rw [if_neg h0]
      by_cases h1 : k % 2 = 1
      · rw [if_pos h1, trGet_nd, trGet_nd]
        by_cases s0 : s = 0
        · subst s0; rw [if_pos rfl, if_neg (by omega), if_pos rfl]
        · rw [if_neg s0, ihl, if_neg s0]
          by_cases s1 : s % 2 = 1
          · rw [if_pos s1, if_pos s1]
            by_cases he : s = k
            · subst he; simp
            · rw [if_neg he, if_neg (by omega)]
          · rw [if_neg s1, if_neg s1, if_neg (by rintro rfl; exact s1 h1)]
      · rw [if_neg h1, trGet_nd, trGet_nd]
        by_cases s0 : s = 0
        · subst s0; rw [if_pos rfl, if_neg (by omega), if_pos rfl]
        · rw [if_neg s0, ihr, if_neg s0]
          by_cases s1 : s % 2 = 1
          · rw [if_pos s1, if_pos s1, if_neg (by rintro rfl; exact h1 s1)]
          · rw [if_neg s1, if_neg s1]
            by_cases he : s = k
            · subst he; simp
            · rw [if_neg he, if_neg (by omega)]
theorem look_odd : ∀ {l : Fr} {k : Nat}, look k (l.map (fun p => (2 * p.1 + 1, p.2))) = if k % 2 = 1 then look (k / 2) l else none
  | [], k => by simp [look_nil]
  | (j, v) :: r, k => by
    simp only [List.map_cons, look_cons]
    rw [look_odd (l := r)]
    by_cases h : k = 2 * j + 1
    · subst h
      rw [if_pos rfl, if_pos (by omega), if_pos (by omega)]
    · rw [if_neg h]
      by_cases h1 : k % 2 = 1
      · rw [if_pos h1, if_pos h1, if_neg (by omega)]
      · rw [if_neg h1, if_neg h1]
theorem look_even : ∀ {l : Fr} {k : Nat}, look k (l.map (fun p => (2 * p.1 + 2, p.2))) = if k % 2 = 0 ∧ k ≠ 0 then look (k / 2 - 1) l else none
  | [], k => by simp [look_nil]
  | (j, v) :: r, k => by
    simp only [List.map_cons, look_cons]
    rw [look_even (l := r)]
    by_cases h : k = 2 * j + 2
    · subst h
      rw [if_pos rfl, if_pos (by omega), if_pos (by omega)]
    · rw [if_neg h]
      by_cases h1 : k % 2 = 0 ∧ k ≠ 0
      · rw [if_pos h1, if_pos h1, if_neg (by omega)]
      · rw [if_neg h1, if_neg h1]
theorem look_trFr : ∀ {t : Tr} {k : Nat}, look k (trFr t) = trGet t k := by
  intro t
  induction t with
  | lf => intro k; rfl
  | nd v l r ihl ihr =>
    intro k
    rw [trGet_nd]
    simp only [trFr]
    rw [look_append, look_append, look_odd, look_even, ihl, ihr]
    by_cases h0 : k = 0
    · subst h0
      cases v <;> simp [optFr, look_nil, look_cons]
    · rw [if_neg h0]
      have : look k (optFr v) = none := by cases v <;> simp [optFr, look_nil, look_cons, h0]
      rw [this]
      by_cases h1 : k % 2 = 1
      · rw [if_pos h1, if_pos h1, if_neg (by omega)]; cases trGet l (k / 2) <;> rfl
      · rw [if_neg h1, if_neg h1, if_pos ⟨by omega, h0⟩]
theorem trOf_get : ∀ {fr : Fr} {s : Nat}, trGet (trOf fr) s = look s fr
  | [], _ => rfl
  | (k, v) :: r, s => by simp only [trOf]; rw [trSet_get, look_cons, trOf_get]
theorem trArgs_get : ∀ {l : List AV} {k s : Nat}, trGet (trArgs k l) s = look s (frOf k l)
  | [], _, _ => rfl
  | v :: r, k, s => by simp only [trArgs, frOf]; rw [trSet_get, look_cons, trArgs_get]
theorem trSetD_get {d : Option Tmp} {v : AV} {t : Tr} {s : Nat} : look s (trFr (trSetD d v t)) = look s (putFr d v (trFr t)) := by
  cases d with
  | none => rfl
  | some d => simp only [trSetD, putFr]; rw [look_trFr, trSet_get, look_cons, look_trFr]

theorem sm_sub {t : Tr} : ∀ {xs : List Operand} {s : Nat}, trGet t s = none → look s (sm t xs) = none
  | [], _, _ => rfl
  | .tmp k :: r, s, h => by
    simp only [sm]
    split
    · rename_i v hv
      rw [look_cons, if_neg (by rintro rfl; rw [hv] at h; cases h)]
      exact sm_sub h
    · exact sm_sub h
  | .const _ :: r, _, h => sm_sub (xs := r) h
  | .func _ :: r, _, h => sm_sub (xs := r) h
  | .global _ :: r, _, h => sm_sub (xs := r) h
theorem sm_look {t : Tr} : ∀ {xs : List Operand} {s : Nat}, .tmp s ∈ xs → look s (sm t xs) = trGet t s
  | [], _, h => by cases h
  | .tmp k :: r, s, h => by
    simp only [sm]
    by_cases hsk : s = k
    · subst hsk
      split
      · rename_i v hv; rw [look_cons, if_pos rfl, hv]
      · rename_i hv; rw [sm_sub hv, hv]
    · have hm : .tmp s ∈ r := by
        rcases List.mem_cons.1 h with h | h
        · cases h; exact absurd rfl hsk
        · exact h
      split
      · rw [look_cons, if_neg hsk]; exact sm_look hm
      · exact sm_look hm
  | .const _ :: r, _, h => sm_look (xs := r) (by simpa using h)
  | .func _ :: r, _, h => sm_look (xs := r) (by simpa using h)
  | .global _ :: r, _, h => sm_look (xs := r) (by simpa using h)
theorem ev_sm {T : Tbl} {t : Tr} {xs : List Operand} {x : Operand} (h : x ∈ xs) (ty : TypeId) : ev T ty (sm t xs) x = ev T ty (trFr t) x := by
  cases x with
  | tmp s => simp only [ev]; rw [sm_look h, look_trFr]
  | _ => rfl
theorem opsOf_mem {o : Op} {x : Operand} (h : x ∈ o.operands) : x ∈ opsOf o := by
  cases o with
  | call c =>
    obtain ⟨callee, args, argTypes⟩ := c
    cases callee <;> simp only [opsOf, Op.operands, Call.operands] at h ⊢ <;> simpa using h
  | _ => simp only [opsOf, Op.operands] at h ⊢ <;> first | (exfalso; simp at h; done) | simpa using h
theorem step_sm {T : Tbl} {fn : Nat} {o : Oper} {t : Tr} {objs : Objs} : stepS T fn o (sm t (opsOf o.op)) objs = step T fn o (trFr t) objs := by
  rw [stepS_eq]
  exact step_fr (fun x hx ty => ev_sm (opsOf_mem hx) ty)
theorem guardT_eq {ops : Array Oper} {t : Tr} {g : Option (Nat × Bool)} : guardT ops t g = guardSays ops (trFr t) g := by
  cases g with
  | none => rfl
  | some p =>
    obtain ⟨j, want⟩ := p
    simp only [guardT, guardSays]
    cases (ops[j]?).bind (·.dst) with
    | none => rfl
    | some d => simp only [look_trFr]; rfl
theorem argsAV_sm {T : Tbl} {t : Tr} {args : Array Operand} {ts : List TypeId} : argsAV T (sm t args.toList) (args.toList.zip ts) = argsAV T (trFr t) (args.toList.zip ts) :=
  argsAV_agree fun p hp ty => ev_sm (List.of_mem_zip hp).1 ty
theorem resList_sm {T : Tbl} {t : Tr} {objs : Objs} {fr : Fr} : ∀ {rs : List ResultVar}, (∀ s, .tmp s ∈ resOps rs → look s fr = trGet t s) → resList T fr objs rs = resList T (trFr t) objs rs
  | [], _ => rfl
  | .tmp s :: r, h => by
    simp only [resList, resOne]
    rw [h s (by simp [resOps]), look_trFr, resList_sm (rs := r) (fun s hs => h s (by simp [resOps, hs]))]
  | .cell a u :: r, h => by
    simp only [resList, resOne]
    rw [h a (by simp [resOps]), look_trFr, resList_sm (rs := r) (fun s hs => h s (by simp [resOps, hs]))]
theorem resAV_sm {T : Tbl} {t : Tr} {objs : Objs} {rs : List ResultVar} : resAV T (sm t (resOps rs)) objs rs = resAV T (trFr t) objs rs := by
  simp only [resAV]
  rw [resList_sm (t := t) (fun s hs => sm_look hs)]

theorem setL_look {α : Type} {k : Nat} {v : α} : ∀ {l : List (Nat × α)} {s : Nat}, look s (setL k v l) = look s ((k, v) :: l)
  | [], s => rfl
  | (j, u) :: r, s => by
    have e : setL k v ((j, u) :: r) = if k = j then (k, v) :: r else (j, u) :: setL k v r := by
      show Bool.rec (motive := fun _ => List (Nat × α)) ((j, u) :: setL k v r) ((k, v) :: r) (Nat.beq k j) = _
      rw [brec]
    rw [e]
    by_cases h : k = j
    · subst h
      rw [if_pos rfl]; simp only [look_cons]
      by_cases hs : s = k <;> simp [hs]
    · rw [if_neg h]; simp only [look_cons]
      rw [setL_look (l := r), look_cons]
      by_cases hs : s = k
      · subst hs; simp [h]
      · simp [hs]
theorem setAll_look {α : Type} : ∀ {u l : List (Nat × α)} {s : Nat}, look s (setAll u l) = look s (u ++ l)
  | [], _, _ => rfl
  | (k, v) :: r, l, s => by
    simp only [setAll, List.cons_append]
    rw [setL_look, look_cons, look_cons, setAll_look (u := r)]
theorem memB_eq {x : Nat} : ∀ {l : List Nat}, memB x l = l.contains x
  | [] => rfl
  | y :: r => by
    have e : memB x (y :: r) = if x = y then true else memB x r := by
      show Bool.rec (motive := fun _ => Bool) (memB x r) true (Nat.beq x y) = _
      rw [brec]
    rw [e, memB_eq (l := r), List.contains_cons]
    by_cases h : x = y <;> simp [h]
theorem only_look {kp : List Nat} {id : Nat} : ∀ {objs : Objs}, look id (only kp objs) = if kp.contains id = true then look id objs else none
  | [] => by simp [only, look_nil]
  | (k, o) :: r => by
    simp only [only, look_cons, memB_eq]
    have ih := only_look (kp := kp) (id := id) (objs := r)
    cases hk : kp.contains k with
    | true =>
      simp only [look_cons, ih]
      by_cases h : id = k
      · subst h; rw [hk]; simp
      · simp [h]
    | false =>
      simp only [ih]
      by_cases h : id = k
      · subst h; rw [hk]; simp
      · simp [h]
theorem allIn_mem {kp : List Nat} : ∀ {l : List Nat}, allIn kp l = true → ∀ j ∈ l, kp.contains j = true
  | [], _, j, h => by cases h
  | x :: r, h, j, hj => by
    simp only [allIn] at h
    split at h
    · rename_i hx
      rcases List.mem_cons.1 hj with rfl | hj
      · rw [← memB_eq]; exact hx
      · exact allIn_mem h j hj
    · cases h
theorem closedB_look {kp : List Nat} : ∀ {objs : Objs}, closedB kp objs = true → ∀ id o, look id objs = some o → ∀ j ∈ objIds o, kp.contains j = true
  | [], _, id, o, h, _, _ => by simp [look_nil] at h
  | (k, p) :: r, hc, id, o, h, j, hj => by
    simp only [closedB] at hc
    split at hc
    · rename_i hx
      rw [look_cons] at h
      split at h
      · cases h; exact allIn_mem hx j hj
      · exact closedB_look hc id o h j hj
    · cases hc
theorem newB_look {kp : List Nat} {objs : Objs} : ∀ {l : Objs}, newB kp objs l = true → ∀ id o, look id l = some o → kp.contains id = true ∨ look id objs = none
  | [], _, id, o, h => by simp [look_nil] at h
  | (k, p) :: r, hc, id, o, h => by
    simp only [newB] at hc
    rw [look_cons] at h
    split at hc
    · rename_i hx
      split at h
      · rename_i he; subst he; exact .inl (by rw [← memB_eq]; exact hx)
      · exact newB_look hc id o h
    · split at hc
      · rename_i hn
        split at h
        · rename_i he; subst he; exact .inr hn
        · exact newB_look hc id o h
      · cases hc
theorem keepX_ok {kp : List Nat} {objs objsP objs' : Objs} {v : AV} (h : keepX kp objs v objsP = some objs') : KeepOk kp.contains objs (fun v' o' => v' = v ∧ o' = objs') v objsP := by
  simp only [keepX, keepX1, keepX2] at h
  split at h
  · rename_i h1 h2 h3 h4
    cases h
    exact ⟨_, (reach reachFuel objsP (kp ++ avIds v) []).contains, fun id => only_look, fun id hid => allIn_mem h1 id (by simpa using hid), allIn_mem h2, closedB_look h3, newB_look h4, rfl, rfl⟩
  · cases h
theorem nodupB_ok : ∀ {l : List Nat}, nodupB l = true → l.Nodup
  | [], _ => List.nodup_nil
  | x :: r, h => by
    simp only [nodupB] at h
    split at h
    · cases h
    · rename_i hx
      rw [memB_eq] at hx
      exact List.nodup_cons.2 ⟨by simpa using hx, nodupB_ok h⟩
theorem marksB_ok {objs : Objs} : ∀ {l : List Nat}, marksB objs l = true → ∀ id ∈ l, look id objs = some .mark
  | [], _, id, h => by cases h
  | x :: r, h, id, hid => by
    simp only [marksB] at h
    split at h
    · rename_i hx
      rcases List.mem_cons.1 hid with rfl | hid
      · exact hx
      · exact marksB_ok h id hid
    · cases h
theorem ltAll_ok {n : Nat} : ∀ {l : List Tmp}, ltAll n l = true → ∀ t ∈ l, t < n
  | [], _, t, h => by cases h
  | x :: r, h, t, ht => by
    simp only [ltAll] at h
    split at h
    · rename_i hx
      rcases List.mem_cons.1 ht with rfl | ht
      · simpa [Nat.blt_eq] using hx
      · exact ltAll_ok h t ht
    · cases h
theorem chkAll_ok : ∀ {l : List Cnd}, chkAll l = true → ∀ q ∈ l, q.holds
  | [], _, q, h => by cases h
  | c :: r, h, q, hq => by
    simp only [chkAll] at h
    split at h
    · rename_i hc
      rcases List.mem_cons.1 hq with rfl | hq
      · exact Cnd.chk_holds hc
      · exact chkAll_ok h q hq
    · cases h
end
end Go.Ab

namespace Go.Ab
noncomputable section
open Go Go.RowKit

/-! ### What the drawn order must keep -/
inductive Bef (ops : Array Oper) : Nat → Nat → Prop where
  | base {i : Nat} {o : Oper} {e : Edge} : ops[i]? = some o → e ∈ o.after → Region.binds .any e = true → Bef ops e.on i
  | step {i j : Nat} {o : Oper} {e : Edge} : Bef ops j e.on → ops[i]? = some o → e ∈ o.after → Region.binds .any e = true → Bef ops j i

theorem textB_ok : ∀ {l : List Oper} {k : Nat}, textB l k = true → ∀ (j : Nat) (o : Oper), l[j]? = some o → ∀ e ∈ o.after, Region.binds .any e = true → e.on < k + j
  | [], _, _, j, o, h => by simp at h
  | x :: r, k, h, j, o, hj => by
    simp only [textB, Bool.and_eq_true, List.all_eq_true] at h
    cases j with
    | zero =>
      simp only [List.getElem?_cons_zero, Option.some.injEq] at hj
      subst hj
      intro e he hb
      have := h.1 e (Array.mem_toList_iff.2 he)
      simpa [hb] using this
    | succ j =>
      intro e he hb
      have := textB_ok h.2 j o (by simpa using hj) e he hb
      omega

/-- The numbers in a mask are those of earlier operations. -/
def MaskOk (ops : Array Oper) (i m : Nat) : Prop := ∀ j, m.testBit j = true → Bef ops j i
theorem maskOf_ok {ops : Array Oper} {acc : List Nat} {i : Nat} {o : Oper} (ho : ops[i]? = some o) (hacc : ∀ (k m : Nat), acc[k]? = some m → MaskOk ops k m) : MaskOk ops i (maskOf acc o) := by
  have key : ∀ (l : List Edge) (s : Nat), (∀ e ∈ l, e ∈ o.after) → MaskOk ops i s → MaskOk ops i (l.foldl (fun s e => if Region.binds .any e = true then s ||| 2 ^ e.on ||| acc.getD e.on 0 else s) s) := by
    intro l
    induction l with
    | nil => intro s _ h; exact h
    | cons e r ih =>
      intro s hl hs
      simp only [List.foldl_cons]
      refine ih _ (fun e' he' => hl e' (by simp [he'])) ?_
      split
      · rename_i hb
        intro j hj
        rw [Nat.testBit_or, Nat.testBit_or, Bool.or_eq_true, Bool.or_eq_true] at hj
        rcases hj with (hj | hj) | hj
        · exact hs j hj
        · rw [Nat.testBit_two_pow] at hj
          simp only [decide_eq_true_eq] at hj
          subst hj
          exact .base ho (hl e (by simp)) hb
        · have hm : ∃ m, acc[e.on]? = some m ∧ m.testBit j = true := by
            rw [List.getD_eq_getElem?_getD] at hj
            cases ha : acc[e.on]? with
            | none => rw [ha] at hj; simp at hj
            | some m => rw [ha] at hj; exact ⟨m, rfl, hj⟩
          obtain ⟨m, h1, h2⟩ := hm
          exact .step (hacc _ _ h1 j h2) ho (hl e (by simp)) hb
      · exact hs
  exact key _ 0 (fun e he => Array.mem_toList_iff.1 he) (fun j hj => by simp at hj)
theorem masks_ok {ops : Array Oper} : ∀ (l : List Oper) (acc : List Nat), (∀ j o, l[j]? = some o → ops[acc.length + j]? = some o) → (∀ (k m : Nat), acc[k]? = some m → MaskOk ops k m) →
    ∀ (k m : Nat), (masks l acc)[k]? = some m → MaskOk ops k m
  | [], acc, _, ha, k, m, h => ha k m h
  | o :: r, acc, hl, ha, k, m, h => by
    simp only [masks] at h
    refine masks_ok r (acc ++ [maskOf acc o]) (fun j p hj => ?_) (fun k m hk => ?_) k m h
    · have := hl (j + 1) p (by simpa using hj)
      rw [List.length_append, List.length_singleton, show acc.length + 1 + j = acc.length + (j + 1) from by omega]
      exact this
    · by_cases hlt : k < acc.length
      · rw [List.getElem?_append_left hlt] at hk; exact ha k m hk
      · rw [List.getElem?_append_right (by omega)] at hk
        have hk0 : k - acc.length = 0 := by
          cases hh : k - acc.length with
          | zero => rfl
          | succ n => rw [hh] at hk; simp at hk
        rw [hk0] at hk
        simp only [List.getElem?_cons_zero, Option.some.injEq] at hk
        have : k = acc.length := by omega
        subst this
        subst hk
        exact maskOf_ok (by simpa using hl 0 o rfl) ha
theorem masks_len : ∀ (l : List Oper) (acc : List Nat), (masks l acc).length = acc.length + l.length
  | [], acc => by simp [masks]
  | o :: r, acc => by simp only [masks]; rw [masks_len r]; simp; omega

/-- The effects of a region's operations. -/
def evsOf (es : List Eff) (i : Nat) : Ev := match es[i]? with | some e => e.ev | none => { v := .any }
theorem evsOf_some {es : List Eff} {i : Nat} {e : Eff} (h : es[i]? = some e) : evsOf es i = e.ev := by simp [evsOf, h]

theorem pairsB_ok {ops : Array Oper} {j : Nat} {oj : Oper} {ej : Eff} {m : Nat} : ∀ {l : List Oper} {s : List Eff} {i : Nat}, pairsB ops j oj ej m l s i = true →
    ∀ (k : Nat) (ok : Oper) (ek : Eff), l[k]? = some ok → s[k]? = some ek → i ≤ j → i + k < j → m.testBit (i + k) = true ∨ touchB ops ok oj ek ej = false
  | [], _, _, _, k, ok, ek, h1, _, _, _ => by simp at h1
  | _ :: _, [], _, _, k, ok, ek, _, h2, _, _ => by simp at h2
  | x :: r, y :: s, i, h, k, ok, ek, h1, h2, hle, hlt => by
    simp only [pairsB] at h
    split at h
    · rename_i hb
      have := Nat.eq_of_beq_eq_true hb
      omega
    · split at h
      · rename_i hne ht
        cases k with
        | zero =>
          simp only [List.getElem?_cons_zero, Option.some.injEq] at h1 h2
          subst h1; subst h2
          simpa using ht
        | succ k =>
          have := pairsB_ok h k ok ek (by simpa using h1) (by simpa using h2) (by omega) (by omega)
          rwa [show i + 1 + k = i + (k + 1) from by omega] at this
      · cases h
theorem orderB_ok {ops : Array Oper} {all : List Oper} {es : List Eff} : ∀ {l : List Oper} {s : List Eff} {ms : List Nat} {j : Nat}, orderB ops all es l s ms j = true →
    ∀ (k : Nat) (ok : Oper) (ek : Eff) (m : Nat), l[k]? = some ok → s[k]? = some ek → ms[k]? = some m → pairsB ops (j + k) ok ek m all es 0 = true
  | [], _, _, _, _, k, ok, ek, m, h1, _, _ => by simp at h1
  | _ :: _, [], _, _, _, k, ok, ek, m, _, h2, _ => by simp at h2
  | _ :: _, _ :: _, [], _, _, k, ok, ek, m, _, _, h3 => by simp at h3
  | x :: r, y :: s, z :: ms, j, h, k, ok, ek, m, h1, h2, h3 => by
    simp only [orderB] at h
    split at h
    · rename_i hp
      cases k with
      | zero =>
        simp only [List.getElem?_cons_zero, Option.some.injEq] at h1 h2 h3
        subst h1; subst h2; subst h3
        exact hp
      | succ k =>
        have := orderB_ok h k ok ek m (by simpa using h1) (by simpa using h2) (by simpa using h3)
        rwa [show j + 1 + k = j + (k + 1) from by omega] at this
    · cases h

theorem meetB_false {a b : List Nat} (h : meetB a b = false) {x : Nat} (ha : x ∈ a) : ¬ x ∈ b := by
  intro hb
  have : meetB a b = true := List.any_eq_true.2 ⟨x, ha, by rw [memB_eq]; simpa using hb⟩
  rw [this] at h; cases h
theorem touchB_ok {ops : Array Oper} {i j : Nat} {oi oj : Oper} {es : List Eff} {ei ej : Eff} (h1 : ops[i]? = some oi) (h2 : ops[j]? = some oj) (h3 : es[i]? = some ei) (h4 : es[j]? = some ej) (h : touchB ops oi oj ei ej = false) :
    ¬ Touch ops (evsOf es) i j ∧ ¬ Touch ops (evsOf es) j i := by
  simp only [touchB, Bool.or_eq_false_iff] at h
  obtain ⟨⟨⟨⟨q1, q2⟩, q3⟩, q4⟩, q5⟩ := h
  have a1 : ∀ s, oi.dst = some s → ¬ s ∈ oj.looksAt ops ∧ ¬ oj.dst = some s := by
    intro s hs
    rw [hs] at q1
    simp only [optMem, Bool.or_eq_false_iff] at q1
    refine ⟨by have := q1.1; rw [memB_eq] at this; simpa using this, fun hd => ?_⟩
    have := q1.2; rw [hd] at this; simp at this
  have a2 : ∀ s, oj.dst = some s → ¬ s ∈ oi.looksAt ops := by
    intro s hs
    rw [hs] at q2
    simp only [optMem] at q2
    rw [memB_eq] at q2; simpa using q2
  have e1 := evsOf_some h3
  have e2 := evsOf_some h4
  constructor
  · rintro (⟨s, hs, h5⟩ | ⟨id, hw, h5⟩)
    · have hs' : oi.dst = some s := by simpa [wrS, h1] using hs
      rcases h5 with h5 | h5
      · exact (a1 s hs').1 (by simpa [slotsOf, h2] using h5)
      · exact (a1 s hs').2 (by simpa [wrS, h2] using h5)
    · rw [e1] at hw; rw [e2] at h5
      simp only [Eff.ev, List.contains_eq_mem, decide_eq_true_eq] at hw h5
      rcases h5 with h5 | h5
      · exact meetB_false q3 hw h5
      · exact meetB_false q4 hw h5
  · rintro (⟨s, hs, h5⟩ | ⟨id, hw, h5⟩)
    · have hs' : oj.dst = some s := by simpa [wrS, h2] using hs
      rcases h5 with h5 | h5
      · exact a2 s hs' (by simpa [slotsOf, h1] using h5)
      · exact (a1 s (by simpa [wrS, h1] using h5)).2 hs'
    · rw [e2] at hw; rw [e1] at h5
      simp only [Eff.ev, List.contains_eq_mem, decide_eq_true_eq] at hw h5
      rcases h5 with h5 | h5
      · exact meetB_false q5 h5 hw
      · exact meetB_false q4 h5 hw

theorem drawB_ok {ops : Array Oper} {es : List Eff} (hlen : es.length = ops.size) (h : drawB ops es = true) : Ordered ops (evsOf es) (Bef ops) := by
  simp only [drawB, Bool.and_eq_true] at h
  obtain ⟨ht, ho⟩ := h
  have text : ∀ (i : Nat) (o : Oper), ops[i]? = some o → ∀ e ∈ o.after, Region.binds .any e = true → e.on < i := by
    intro i o hi e he hb
    have := textB_ok ht i o (by simpa using hi) e he hb
    omega
  have less : ∀ j i, Bef ops j i → j < i := by
    intro j i hb
    induction hb with
    | base h1 h2 h3 => exact text _ _ h1 _ h2 h3
    | step _ h1 h2 h3 ih => have := text _ _ h1 _ h2 h3; omega
  have closed : ∀ D : Nat → Bool, (∀ (i : Nat) (o : Oper), ops[i]? = some o → D i = true → ∀ e ∈ o.after, Region.binds .any e = true → D e.on = true) → ∀ j i, Bef ops j i → D i = true → D j = true := by
    intro D hD j i hb
    induction hb with
    | base h1 h2 h3 => exact fun hi => hD _ _ h1 hi _ h2 h3
    | step _ h1 h2 h3 ih => exact fun hi => ih (hD _ _ h1 hi _ h2 h3)
  have pair : ∀ i j, i < j → j < ops.size → Bef ops i j ∨ (¬ Touch ops (evsOf es) i j ∧ ¬ Touch ops (evsOf es) j i) := by
    intro i j hij hj
    have hi : i < ops.size := by omega
    have h1 : ops[i]? = some ops[i] := by simp [hi]
    have h2 : ops[j]? = some ops[j] := by simp [hj]
    have h3 : es[i]? = some (es[i]'(by omega)) := by simp [hlen, hi]
    have h4 : es[j]? = some (es[j]'(by omega)) := by simp [hlen, hj]
    have hml : (masks ops.toList []).length = ops.size := by rw [masks_len]; simp
    have h5 : (masks ops.toList [])[j]? = some ((masks ops.toList [])[j]'(by omega)) := by simp [hml, hj]
    have hp := orderB_ok ho j ops[j] _ _ (by simp) h4 h5
    rw [Nat.zero_add] at hp
    have := pairsB_ok hp i ops[i] _ (by simp) h3 (by omega) (by omega)
    rw [Nat.zero_add] at this
    rcases this with hb | hb
    · exact .inl (masks_ok ops.toList [] (fun j o h => by simpa using h) (fun k m h => by simp at h) j _ h5 i hb)
    · exact .inr (touchB_ok h1 h2 h3 h4 hb)
  refine ⟨closed, fun D i o hi hD hall j hb => ?_, less, fun i j hi hj hne ht => ?_, text⟩
  · cases hb with
    | base h1 h2 h3 => rw [hi] at h1; cases h1; exact hall _ h2 h3
    | step h0 h1 h2 h3 => rw [hi] at h1; cases h1; exact closed D hD _ _ h0 (hall _ h2 h3)
  · rcases Nat.lt_or_gt_of_ne hne with hlt | hlt
    · rcases pair i j hlt hj with h | h
      · exact .inl h
      · exact absurd ht h.1
    · rcases pair j i hlt hi with h | h
      · exact .inr h
      · exact absurd ht h.2
end
end Go.Ab

namespace Go.Ab
noncomputable section
open Go Go.RowKit

def XE.out : XE → Exit
  | .nrm => .normal
  | .ext id => .exit id
  | .ret => .ret
def XS.st (σ : XS) (hid : List Fr) : St := { fr := trFr σ.fr, objs := σ.objs, hid := hid, mks := σ.mks }
def Post (e : XE) (τ : XS) (hid : List Fr) : Exit → St → Prop := fun e' τ' => e' = e.out ∧ τ' = τ.st hid
/-- What the executor says, the machine does. -/
def Sound (P : Program) (T : Tbl) (ex : Ex) : Prop := ∀ (N : Nat) (rd : Bool) (c : Code) (σ : XS) (e : XE) (τ : XS), ex N rd c σ = some (e, τ) →
  ∀ (w0 : Base) (as : List Act) (F : Fence) (n : Nat) (hid : List Fr), WF F → (rd = false → F.round = none) → Runs ⟨P, T, w0, N, as⟩ F n c (σ.st hid) (Post e τ hid)

theorem WF.plain {F : Fence} (h : WF F) : WF F.plain := ⟨h.fn, h.depth⟩
theorem WF.inRound {F : Fence} (h : WF F) (b : Nat) : WF (F.inRound b) := ⟨h.fn, h.depth⟩
theorem Runs.fin {C : Cx} {F : Fence} {n : Nat} {c : Code} {σ ρ : St} {e : Exit} (h : Runs C F n c σ (fun e' τ' => e' = e ∧ Like τ' ρ)) : Runs C F n c σ (fun e' τ' => e' = e ∧ τ' = ρ) :=
  fun a w hR => wpIn_mono (h a w hR) (fun _ _ _ ⟨_, ⟨h1, h2⟩, h3⟩ => ⟨ρ, ⟨h1, rfl⟩, h3.like h2⟩)
theorem Runs.start {C : Cx} {F : Fence} {n : Nat} {c : Code} {σ τ : St} {Q : Exit → St → Prop} (h : Runs C F n c τ Q) (hl : Like σ τ) : Runs C F n c σ Q := h.weaken (fun _ _ hR => hR.like hl)
theorem FiresF.like {C : Cx} {F : Fence} {n : Nat} {ops : Array Oper} {i : Nat} {e : Ev} {σ σ' : St} (h : FiresF C F n ops i e σ) (hl : Like σ σ') : FiresF C F n ops i e σ' :=
  ⟨h.1, fun τ h1 h2 h3 => h.2 τ (fun s hs => (h1 s hs).trans (hl.1 s)) (fun id hid => (h2 id hid).trans (hl.2.1 id)) (h3.trans hl.2.2.1)⟩
theorem Like.symm {σ τ : St} (h : Like σ τ) : Like τ σ := ⟨fun s => (h.1 s).symm, fun id => (h.2.1 id).symm, h.2.2.1.symm, h.2.2.2.symm⟩
theorem KeepOk.like {kp : Nat → Bool} {objs0 : Objs} {R : AV → Objs → Prop} {v : AV} {o1 o2 : Objs} (hh : KeepOk kp objs0 R v o1) (h : ∀ id, look id o2 = look id o1) : KeepOk kp objs0 R v o2 := by
  obtain ⟨objs', keep, h4, h5, h6, h7, h8, h9⟩ := hh
  exact ⟨objs', keep, fun id => by rw [h4, h], h5, h6, h7, h8, h9⟩
theorem RetF.weak {T : Tbl} {kp : Nat → Bool} {objs0 : Objs} {rs : List ResultVar} {R R' : AV → Objs → Prop} (h : ∀ v o, R v o → R' v o) {e : Exit} {τ : St} (hh : RetF T kp objs0 rs R e τ) : RetF T kp objs0 rs R' e τ := by
  have key : RetOk T kp objs0 rs R τ → RetOk T kp objs0 rs R' τ := by
    rintro ⟨h1, h2, v, h3, objs', keep, h4, h5, h6, h7, h8, h9⟩
    exact ⟨h1, h2, v, h3, objs', keep, h4, h5, h6, h7, h8, h _ _ h9⟩
  cases e with
  | normal => exact key hh
  | ret => exact key hh
  | _ => exact hh.elim

section
variable {P : Program} {T : Tbl} {ex : Ex}

/-- What a call's walk must show. -/
structure CallOk (P : Program) (T : Tbl) (f : FuncId) (l : List AV) (objs : Objs) (kp : List Nat) (v : AV) (objs' : Objs) (fn : Func) (c : Code) (small : Objs) : Prop where
  hfn : P.funcs[f]? = some fn
  hbody : fn.body = some c
  hname : (fn.name == "runtime.NumGoroutine") = false
  hN : l.length ≤ fn.ntmps
  hs : ∀ id, look id small = if kp.contains id = true then look id objs else none
  hcl : ∀ id o, look id small = some o → ∀ j ∈ objIds o, kp.contains j = true
  hl : ∀ v ∈ l, ∀ j ∈ avIds v, kp.contains j = true
  hrun : ∀ (w1 : Base) (F : Fence) (n : Nat), WF F → F.round = none → Runs ⟨P, T, w1, fn.ntmps, []⟩ F n c { fr := frOf 0 l, objs := small } (RetF T kp.contains objs fn.results.toList (fun v' o' => v' = v ∧ o' = objs'))

theorem retX_ok {kp : List Nat} {objs objsP : Objs} {cnt : Nat} {x : Option AV} {r : List Nat × AV × Objs × Nat} (h : retX kp objs cnt objsP x = some r) :
    ∃ v objs', x = some v ∧ r = (kp, v, objs', cnt) ∧ KeepOk kp.contains objs (fun v' o' => v' = v ∧ o' = objs') v objsP := by
  unfold retX at h
  split at h
  · rename_i v
    split at h
    · rename_i objs' hk
      cases h
      exact ⟨v, objs', rfl, rfl, keepX_ok hk⟩
    · cases h
  · cases h
theorem endX_ok {fn : Func} {kp : List Nat} {objs : Objs} {τ : XS} {r : List Nat × AV × Objs × Nat} (h : endX T fn kp objs τ = some r) :
    ∃ v objs', r = (kp, v, objs', τ.cnt) ∧ RetOk T kp.contains objs fn.results.toList (fun v' o' => v' = v ∧ o' = objs') (τ.st []) := by
  unfold endX at h
  split at h
  · rename_i h1 h2
    obtain ⟨v, objs', h3, h4, h5⟩ := retX_ok h
    rw [resAV_sm] at h3
    exact ⟨v, objs', h4, nodupB_ok h1, marksB_ok h2, v, h3, h5⟩
  · cases h
theorem callX_ok (hex : Sound P T ex) {f : FuncId} {l : List AV} {objs : Objs} {cnt : Nat} {r : List Nat × AV × Objs × Nat} (h : callX T P.funcs ex f l objs cnt = some r) :
    ∃ kp v objs' cnt' fn c small, r = (kp, v, objs', cnt') ∧ CallOk P T f l objs kp v objs' fn c small := by
  unfold callX at h
  split at h
  · rename_i fn hfn
    split at h
    · rename_i c hb
      unfold enterX1 enterX at h
      split at h
      · rename_i h1 h2 h3 h4
        generalize hkp : reach reachFuel objs (avsIds l) [] = kp at h h3 h4
        cases hx : ex fn.ntmps false c { fr := trArgs 0 l, objs := only kp objs, mks := [], cnt := cnt } with
        | none => rw [hx] at h; cases h
        | some q =>
          obtain ⟨e, τ⟩ := q
          rw [hx] at h
          have hrun := hex _ _ _ _ _ _ hx
          have hst : ∀ hid, Like { fr := frOf 0 l, objs := only kp objs, hid := hid } (XS.st { fr := trArgs 0 l, objs := only kp objs, mks := [], cnt := cnt } hid) :=
            fun hid => ⟨fun s => by simp only [XS.st]; rw [look_trFr, trArgs_get], fun id => rfl, rfl, rfl⟩
          have fin : endX T fn kp objs τ = some r → (e = .nrm ∨ e = .ret) → ∃ kp v objs' cnt' fn c small, r = (kp, v, objs', cnt') ∧ CallOk P T f l objs kp v objs' fn c small := by
            intro h he
            obtain ⟨v, objs', h5, h6⟩ := endX_ok h
            refine ⟨kp, v, objs', τ.cnt, fn, c, only kp objs, h5, hfn, hb, h1, Nat.le_of_ble_eq_true h2, fun id => only_look, closedB_look h3, fun v hv j hj => allIn_mem h4 j (avsIds_mem hv j hj), fun w1 F n hF hr => ?_⟩
            refine ((hrun w1 [] F n [] hF (fun _ => hr)).start (hst [])).mono ?_
            rintro e' τ' ⟨rfl, rfl⟩
            rcases he with rfl | rfl
            · exact h6
            · exact h6
          cases e with
          | nrm => exact fin h (.inl rfl)
          | ret => exact fin h (.inr rfl)
          | ext j => cases h
      · cases h
    · cases h
  · cases h

/-- What a round's walk must show. -/
structure RoundOk (P : Program) (T : Tbl) (id : Nat) (la : List AV) (objs : Objs) (kp : List Nat) (v : AV) (objs' : Objs) (L : LRec) (fr : Fr) (small : Objs) : Prop where
  hlp : look id objs = some (.lp L fr)
  hps : la.length = L.params.size
  hpN : ∀ t ∈ L.params.toList, t < L.n
  hs : ∀ id, look id small = if kp.contains id = true then look id objs else none
  hcl : ∀ id o, look id small = some o → ∀ j ∈ objIds o, kp.contains j = true
  hkid : kp.contains id = true
  hl : ∀ v ∈ la, ∀ j ∈ avIds v, kp.contains j = true
  hrun : ∀ (w0 : Base) (N : Nat) (as : List Act) (F : Fence) (n : Nat), WF F → RoundRuns ⟨P, T, w0, N, as⟩ F n kp.contains id objs small L fr la (fun v' o' => v' = v ∧ o' = objs')

theorem roundX_ok (hex : Sound P T ex) {id : Nat} {la : List AV} {objs : Objs} {cnt : Nat} {r : List Nat × AV × Objs × Nat} (h : roundX ex id la objs cnt = some r) :
    ∃ kp v objs' cnt' L fr small, r = (kp, v, objs', cnt') ∧ RoundOk P T id la objs kp v objs' L fr small := by
  unfold roundX at h
  split at h
  · rename_i L fr hlp
    split at h
    · rename_i hst
      unfold roundX1 roundGo at h
      split at h
      · rename_i h1 h2 h3 h4
        generalize hkp : reach reachFuel objs (id :: avsIds la) [] = kp at h h3 h4
        cases hx : ex L.n true L.assign { fr := trOf (setPs L.params.toList la fr), objs := only kp objs, mks := [], cnt := cnt } with
        | none => rw [hx] at h; cases h
        | some q =>
          obtain ⟨e, τ⟩ := q
          rw [hx] at h
          cases e with
          | ret => cases h
          | ext j => cases h
          | nrm =>
            simp only [roundMid] at h
            split at h
            · rename_i L1 fr1 hl1
              split at h
              · rename_i hst1
                cases hy : ex L.n true L.body { τ with objs := setL id (.lp { L1 with st := .busy } fr1) τ.objs } with
                | none => rw [hy] at h; cases h
                | some q =>
                  obtain ⟨e2, τ2⟩ := q
                  rw [hy] at h
                  simp only [roundBody] at h
                  split at h
                  · rename_i L2 fr2 hl2
                    have fin : ∃ v objs' st pend rr, roundEnd e2.out = some (rr, st, pend) ∧ r = (kp, v, objs', τ2.cnt) ∧ KeepOk kp.contains objs (fun v' o' => v' = v ∧ o' = objs') (.dat .bool rr) ((id, .lp { L2 with st := st, pend := pend } fr2) :: τ2.objs) := by
                      cases e2 with
                      | nrm =>
                        simp only [roundFin] at h
                        obtain ⟨v, objs', h5, h6, h7⟩ := retX_ok h
                        cases h5
                        exact ⟨_, objs', .ready, none, true, rfl, h6, h7.like (fun id => setL_look.symm)⟩
                      | ret =>
                        simp only [roundFin] at h
                        obtain ⟨v, objs', h5, h6, h7⟩ := retX_ok h
                        cases h5
                        exact ⟨_, objs', .done, some .ret, false, rfl, h6, h7.like (fun id => setL_look.symm)⟩
                      | ext j =>
                        simp only [roundFin] at h
                        obtain ⟨v, objs', h5, h6, h7⟩ := retX_ok h
                        cases h5
                        exact ⟨_, objs', .done, some (.exit j), false, rfl, h6, h7.like (fun id => setL_look.symm)⟩
                    obtain ⟨v, objs', st, pend, rr, h5, h6, h7⟩ := fin
                    refine ⟨kp, v, objs', τ2.cnt, L, fr, only kp objs, h6, hlp, Nat.eq_of_beq_eq_true h1, ltAll_ok h2, fun id => only_look, closedB_look h3, allIn_mem h4 id (by simp),
                      fun v hv j hj => allIn_mem h4 j (by simp [avsIds_mem hv j hj]), fun w0 N as F n hF w1 b => ?_⟩
                    refine ((hex _ _ _ _ _ _ hx w1 [] (F.inRound b) n [] (hF.inRound b) (fun h => by cases h)).start (σ := { fr := setPs L.params.toList la fr, objs := only kp objs }) ⟨fun s => by simp only [XS.st]; rw [look_trFr, trOf_get], fun id => rfl, rfl, rfl⟩).mono ?_
                    rintro e' τ' ⟨rfl, rfl⟩
                    refine ⟨rfl, L1, fr1, hl1, hst1, ?_⟩
                    refine ((hex _ _ _ _ _ _ hy w1 [] (F.inRound b) n [] (hF.inRound b) (fun h => by cases h)).start (σ := { τ.st [] with objs := (id, .lp { L1 with st := .busy } fr1) :: τ.objs }) ⟨fun s => rfl, fun k => setL_look, rfl, rfl⟩).mono ?_
                    rintro e' τ' ⟨rfl, rfl⟩
                    exact ⟨rr, st, pend, L2, fr2, h5, hl2, h7⟩
                  · cases h
              · cases h
            · cases h
      · cases h
    · cases h
  · cases h

variable {F : Fence} {n N : Nat} {ops : Array Oper} {w0 : Base} {as : List Act} {hid : List Fr}

theorem effR_ok {x : CallR} {q : Eff × Nat} (h : effR x = some q) : ∃ kp v objs' cnt, x = some (kp, v, objs', cnt) ∧ q = (callEff v objs' kp, cnt) := by
  unfold effR at h
  split at h
  · rename_i kp v objs' cnt
    cases h; exact ⟨kp, v, objs', cnt, rfl, rfl⟩
  · cases h

theorem opX_fires (hT : TblOk P T) (hex : Sound P T ex) (hF : WF F) {i : Nat} {o : Oper} (hi : ops[i]? = some o) (hd : ∀ t, o.dst = some t → t < N) {σ : XS} (hg : guardSays ops (trFr σ.fr) o.guard = some true) {base cnt : Nat} {e : Eff}
    (h : opX T P.funcs ex o base σ = some (e, cnt)) : FiresF ⟨P, T, w0, N, as⟩ F n ops i e.ev (σ.st hid) := by
  unfold opX at h
  split at h
  · rename_i g args argTypes hv
    have hop : o.op = .call { callee := .value g, args, argTypes } := by
      unfold valCall at hv
      split at hv
      · rename_i heq; cases hv; exact heq
      · cases hv
    split at h
    · rename_i hlen
      rw [argsAV_sm] at h
      have hlen' := Nat.eq_of_beq_eq_true hlen
      unfold valArgs at h
      split at h
      · rename_i la hla
        rw [ev_sm (by simp)] at h
        unfold valX at h
        split at h
        · rename_i f caps hev
          split at h
          · rename_i lc hlc
            obtain ⟨kp, v, objs', cnt', h1, h2⟩ := effR_ok h
            cases h2
            obtain ⟨kp2, v2, objs2, cnt2, fn, c, small, h3, h4⟩ := callX_ok hex h1
            cases h3
            exact call_firesF (C := ⟨P, T, w0, N, as⟩) hT hF hi hop hg hd hev hlc hlen' hla h4.hfn h4.hbody h4.hname (WkL.refl _) h4.hN h4.hs h4.hcl h4.hl (fun w1 => h4.hrun w1 F.plain (n - 1) hF.plain rfl)
          · cases h
        · rename_i id hev
          obtain ⟨kp, v, objs', cnt', h1, h2⟩ := effR_ok h
          cases h2
          obtain ⟨kp2, v2, objs2, cnt2, L, fr, small, h3, h4⟩ := roundX_ok hex h1
          cases h3
          exact round_firesF (C := ⟨P, T, w0, N, as⟩) hF hi hop hg hd hev hlen' hla h4.hlp h4.hps h4.hpN h4.hs h4.hcl h4.hkid h4.hl (h4.hrun w0 N as F (n - 1) hF)
        · cases h
      · cases h
    · cases h
  · rw [step_sm] at h
    unfold effChk at h
    split at h
    · rename_i e' hs
      split at h
      · rename_i hc
        cases h
        exact step_firesF (C := ⟨P, T, w0, N, as⟩) hT hF hi hd hg hs (chkAll_ok hc)
      · cases h
    · cases h

theorem dstB_ok {d : Option Tmp} (h : dstB N d = true) : ∀ t, d = some t → t < N := by
  rintro t rfl
  simpa [dstB, Nat.blt_eq] using h

theorem consX_ok {e : Eff} {x : Option (List Eff × XS)} {es : List Eff} {τ : XS} (h : consX e x = some (es, τ)) : ∃ es', x = some (es', τ) ∧ es = e :: es' := by
  unfold consX at h
  split at h
  · cases h; exact ⟨_, rfl, rfl⟩
  · cases h

theorem opsX_ok (hT : TblOk P T) (hex : Sound P T ex) (hF : WF F) {esAll : List Eff} {s0 : St} {base : Nat} : ∀ (l : List Oper) (k : Nat) (σ : XS) (es : List Eff) (τ : XS), (∀ j, l[j]? = ops[k + j]?) → (∀ (j : Nat) (e : Eff), es[j]? = some e → esAll[k + j]? = some e) →
    opsX T P.funcs ex ops N base l σ = some (es, τ) → Like (stOf ops (evsOf esAll) s0 (fun _ => true) k) (σ.st hid) →
    es.length = l.length ∧ (∀ j, j < l.length → FiresF ⟨P, T, w0, N, as⟩ F n ops (k + j) (evsOf esAll (k + j)) (stOf ops (evsOf esAll) s0 (fun _ => true) (k + j))) ∧ Like (stOf ops (evsOf esAll) s0 (fun _ => true) (k + l.length)) (τ.st hid)
  | [], k, σ, es, τ, _, _, h, hl => by
    simp only [opsX, Option.some.injEq, Prod.mk.injEq] at h
    obtain ⟨rfl, rfl⟩ := h
    exact ⟨rfl, fun j hj => by simp at hj, hl⟩
  | o :: r, k, σ, es, τ, hops, hes, h, hl => by
    have hi : ops[k]? = some o := by have := hops 0; simpa using this.symm
    simp only [opsX] at h
    split at h
    · rename_i hd
      split at h
      · rename_i e cnt ho
        obtain ⟨es', h1, rfl⟩ := consX_ok h
        have hev : evsOf esAll k = e.ev := evsOf_some (by have := hes 0 e rfl; simpa using this)
        have hfire : FiresF ⟨P, T, w0, N, as⟩ F n ops k e.ev (σ.st hid) := by
          rw [guardT_eq] at ho
          unfold oneX at ho
          split at ho
          · rename_i hg; exact opX_fires hT hex hF hi (dstB_ok hd) hg ho
          · rename_i hg
            cases ho
            exact skip_firesF (C := ⟨P, T, w0, N, as⟩) hF hi (dstB_ok hd) hg
          · cases ho
        have hnext : Like (stOf ops (evsOf esAll) s0 (fun _ => true) (k + 1)) (XS.st { fr := trSetD o.dst e.v σ.fr, objs := setAll e.upd σ.objs, mks := σ.mks, cnt := cnt } hid) := by
          simp only [stOf, if_true, hev, hi, Option.bind_some, Ev.app, Eff.ev]
          refine ⟨fun s => ?_, fun id => ?_, hl.2.2.1, hl.2.2.2⟩
          · simp only [XS.st]
            rw [trSetD_get, look_putFr, look_putFr]
            split
            · rfl
            · exact hl.1 s
          · simp only [XS.st]
            rw [setAll_look, look_append, look_append]
            split
            · rfl
            · exact hl.2.1 id
        obtain ⟨h2, h3, h4⟩ := opsX_ok hT hex hF r (k + 1) _ es' τ (fun j => by have := hops (j + 1); rw [show k + 1 + j = k + (j + 1) from by omega]; simpa using this)
          (fun j e hj => by have := hes (j + 1) e (by simpa using hj); rw [show k + 1 + j = k + (j + 1) from by omega]; exact this) h1 hnext
        refine ⟨by simp [h2], fun j hj => ?_, ?_⟩
        · cases j with
          | zero => rw [Nat.add_zero, hev]; exact hfire.like hl.symm
          | succ j =>
            have := h3 j (by simpa using hj)
            rwa [show k + 1 + j = k + (j + 1) from by omega] at this
        · rw [List.length_cons, show k + (r.length + 1) = k + 1 + r.length from by omega]; exact h4
      · cases h
    · cases h

theorem stOf_upto {evs : Nat → Ev} {s0 : St} {i : Nat} : ∀ {m : Nat}, i ≤ m → stOf ops evs s0 (fun k => decide (k < i)) m = stOf ops evs s0 (fun _ => true) i := by
  have pre : ∀ m, m ≤ i → stOf ops evs s0 (fun k => decide (k < i)) m = stOf ops evs s0 (fun _ => true) m := by
    intro m
    induction m with
    | zero => intro _; rfl
    | succ m ih =>
      intro h
      have hm : decide (m < i) = true := decide_eq_true (by omega)
      simp only [stOf, hm, if_true]
      rw [ih (by omega)]
  intro m h
  induction m with
  | zero => obtain rfl : i = 0 := by omega
            rfl
  | succ m ih =>
    by_cases he : i = m + 1
    · subst he; exact pre _ (Nat.le_refl _)
    · have hm : decide (m < i) = false := by simp; omega
      simp only [stOf, hm, Bool.false_eq_true, if_false]
      exact ih (by omega)
theorem all_fire {C : Cx} {evs : Nat → Ev} {s0 : St} : ∀ (m k : Nat), (∀ j, j < m → FiresF C F n ops (k + j) (evs (k + j)) (stOf ops evs s0 (fun _ => true) (k + j))) →
    AllFire C F n ops ((List.range' k m).map (fun i => (i, evs i))) (stOf ops evs s0 (fun _ => true) k) ∧ runEvs ops ((List.range' k m).map (fun i => (i, evs i))) (stOf ops evs s0 (fun _ => true) k) = stOf ops evs s0 (fun _ => true) (k + m)
  | 0, k, _ => ⟨trivial, rfl⟩
  | m + 1, k, h => by
    have h0 := (h 0 (by omega)).fires
    rw [Nat.add_zero] at h0
    obtain ⟨h1, h2⟩ := all_fire m (k + 1) (fun j hj => by have := h (j + 1) (by omega); rwa [show k + (j + 1) = k + 1 + j from by omega] at this)
    simp only [List.range'_succ, List.map_cons, AllFire, runEvs]
    have e1 : stOf ops evs s0 (fun _ => true) (k + 1) = (evs k).app ((ops[k]?).bind (·.dst)) (stOf ops evs s0 (fun _ => true) k) := by simp [stOf]
    rw [e1] at h1 h2
    exact ⟨⟨h0, h1⟩, by rw [h2]; congr 1; omega⟩

theorem regX_runs (hT : TblOk P T) (hm : P.follows .mixedOrders = true) (hex : Sound P T ex) (hF : WF F) {id : Nat} {draw : Bool} {base : Nat} {σ σ1 : XS} {e : XE} {τ : XS} (h : regX ops draw (opsX T P.funcs ex ops N base ops.toList σ1) = some (e, τ)) (hσ : σ1.st hid = σ.st hid) :
    Runs ⟨P, T, w0, N, as⟩ F n (.region id ops draw) (σ.st hid) (Post e τ hid) := by
  unfold regX at h
  split at h
  · rename_i es τ1 ho
    obtain ⟨h1, h2, h3⟩ := opsX_ok (F := F) (n := n) (w0 := w0) (as := as) (hid := hid) (esAll := es) (s0 := σ.st hid) hT hex hF ops.toList 0 σ1 es τ1 (fun j => by simp) (fun j e hj => by simpa using hj) ho (by rw [hσ]; exact Like.refl _)
    have hlen : ops.toList.length = ops.size := by simp
    rw [hlen] at h1 h2 h3
    simp only [Nat.zero_add] at h2 h3
    have hQ : e = .nrm ∧ τ = τ1 ∧ (draw = true → drawB ops es = true) := by
      cases draw with
      | false => cases h; exact ⟨rfl, rfl, fun h => by cases h⟩
      | true =>
        simp only at h
        split at h
        · rename_i hd; cases h; exact ⟨rfl, rfl, fun _ => hd⟩
        · cases h
    obtain ⟨rfl, rfl, hdr⟩ := hQ
    refine Runs.fin (e := .normal) ?_
    cases draw with
    | false =>
      obtain ⟨k1, k2⟩ := all_fire (F := F) (n := n) (C := ⟨P, T, w0, N, as⟩) (ops := ops) (evs := evsOf es) (s0 := σ.st hid) ops.size 0 (fun j hj => by simpa using h2 j hj)
      rw [Nat.zero_add] at k2
      refine runs_region (l := (List.range' 0 ops.size).map (fun i => (i, evsOf es i))) (by rw [List.map_map, List.range_eq_range']; simp [Function.comp_def]) k1 ⟨rfl, ?_⟩
      have k2' : runEvs ops ((List.range' 0 ops.size).map (fun i => (i, evsOf es i))) (σ.st hid) = stOf ops (evsOf es) (σ.st hid) (fun _ => true) ops.size := k2
      rw [k2']
      exact h3
    | true =>
      refine runs_region_any (evs := evsOf es) (bef := Bef ops) hm (drawB_ok h1 (hdr rfl)) (fun i hi => by rw [stOf_upto (by omega)]; exact h2 i hi) (fun k id o hk => ?_) ⟨rfl, h3⟩
      by_cases hlt : k < ops.size
      · exact (h2 k hlt).1 id o hk
      · have : es[k]? = none := by simp; omega
        simp [evsOf, this] at hk
  · cases h

theorem seqX_ok {k : XS → Option (XE × XS)} {x : Option (XE × XS)} {r : XE × XS} (h : seqX k x = some r) : (∃ τ, x = some (.nrm, τ) ∧ k τ = some r) ∨ (x = some r ∧ r.1 ≠ .nrm) := by
  unfold seqX at h
  split at h
  · exact .inl ⟨_, rfl, h⟩
  · cases h; exact .inr ⟨rfl, fun h => by cases h⟩
  · cases h; exact .inr ⟨rfl, fun h => by cases h⟩
  · cases h

theorem seq_runs {C : Cx} {a b : Code} {s : St} {r : XE × XS} {x : Option (XE × XS)} {k : XS → Option (XE × XS)} (h : seqX k x = some r) (ha : ∀ e τ, x = some (e, τ) → Runs C F n a s (Post e τ hid)) (hb : ∀ τ, k τ = some r → Runs C F n b (τ.st hid) (Post r.1 r.2 hid)) :
    Runs C F n (.seq a b) s (Post r.1 r.2 hid) := by
  refine runs_seq ?_
  rcases seqX_ok h with ⟨τ, h1, h2⟩ | ⟨h1, h2⟩
  · refine (ha _ _ h1).mono ?_
    rintro e' τ' ⟨rfl, rfl⟩
    exact hb τ h2
  · refine (ha _ _ h1).mono ?_
    rintro e' τ' ⟨rfl, rfl⟩
    obtain ⟨e, τ⟩ := r
    cases e with
    | nrm => exact absurd rfl h2
    | ret => exact ⟨rfl, rfl⟩
    | ext j => exact ⟨rfl, rfl⟩
end
end
end Go.Ab

namespace Go.Ab
noncomputable section
open Go Go.RowKit

section
variable {P : Program} {T : Tbl} {ex : Ex} {F : Fence} {n N : Nat} {w0 : Base} {as : List Act} {hid : List Fr}

theorem range_runs (hT : TblOk P T) (hex : Sound P T ex) (hF : WF F) (hro : F.round = none) {g : Operand} {ps : Array Tmp} {assign body : Code} {σ : XS} {e : XE} {τ : XS}
    (h : rangeX T P.funcs ex N ps assign body σ (ev T 0 (trFr σ.fr) g) = some (e, τ)) : Runs ⟨P, T, w0, N, as⟩ F n (.rangeFunc g ps assign body) (σ.st hid) (Post e τ hid) := by
  unfold rangeX at h
  split at h
  · rename_i f caps hev
    split at h
    · rename_i lc hlc hl1 hl2
      generalize hlid : newId σ.cnt 1 = lid at h hl1
      generalize hmid : newId σ.cnt 0 = mid at h hl2
      have hne : lid ≠ mid := by rw [← hlid, ← hmid]; simp [newId]
      unfold rangeGo at h
      generalize ho1 : (lid, AObj.lp { n := N, params := ps, assign := assign, body := body, st := .ready, pend := none } (trFr σ.fr)) :: (mid, .mark) :: σ.objs = objs1 at h
      unfold rangeBack at h
      split at h
      · rename_i kp0 v0 objs' cnt hc
        obtain ⟨kp, v, objs2, cnt2, fn, c, small, h3, h4⟩ := callX_ok hex hc
        cases h3
        unfold rangeEnd at h
        split at h
        · rename_i L2 fr2 hl
          rw [setAll_look] at hl
          refine Runs.fin (e := e.out) ?_
          refine runs_rangeFunc (C := ⟨P, T, w0, N, as⟩) hT hF hro hev hlc h4.hfn h4.hbody h4.hname hne hl1 hl2 h4.hN rfl ho1.symm h4.hs h4.hcl h4.hl
            (fun w1 => (h4.hrun w1 F.plain (n - 1) hF.plain rfl).mono (fun e' τ' hh => hh.weak ?_))
          rintro v' o' ⟨rfl, rfl⟩
          have lk : Like { (σ.st hid) with objs := (lid, .dead) :: (o' ++ objs1), mks := mid :: σ.mks } (XS.st { σ with objs := setL lid .dead (setAll o' objs1), mks := mid :: σ.mks, cnt := cnt } hid) := by
            refine ⟨fun s => rfl, fun id => ?_, rfl, rfl⟩
            simp only [XS.st]
            rw [setL_look, look_cons, look_cons, setAll_look]
          split at h
          · cases h
          · rename_i hst
            refine ⟨L2, fr2, hl, ?_, ?_⟩
            · revert hst
              cases L2.st <;> simp
            · split at h
              · rename_i hp
                cases h
                rw [hp]
                exact ⟨rfl, lk⟩
              · rename_i hp
                cases h
                rw [hp]
                exact ⟨rfl, lk⟩
              · rename_i j hp
                cases h
                rw [hp]
                exact ⟨rfl, lk⟩
              · cases h
        · cases h
      · cases h
    · cases h
  · cases h

/-- So many rounds of a loop. -/
def LoopSound (P : Program) (T : Tbl) (ex : Ex) (k : Nat) : Prop := ∀ (N : Nat) (rd : Bool) (c : Code) (σ : XS) (e : XE) (τ : XS), ex N rd (.loop c) σ = some (e, τ) →
  ∀ (w0 : Base) (as : List Act) (F : Fence) (n : Nat) (hid : List Fr), WF F → (rd = false → F.round = none) → ∀ a w, Rel w0 N as (σ.st hid) a w → Code.roundsIn F n P c (Lift ⟨P, T, w0, N, as⟩ (Post e τ hid)) k a w

theorem execF_loop (hex : Sound P T ex) {k : Nat} (hl : LoopSound P T ex k) : LoopSound P T (execF T P.funcs ex) (k + 1) := by
  intro N rd c σ e τ h w0 as F n hid hF hro a w hR
  rw [roundsIn_succ]
  rcases seqX_ok (show seqX (fun τ => ex N rd (.loop c) τ) (ex N rd c σ) = some (e, τ) from h) with ⟨τ1, h1, h2⟩ | ⟨h1, h2⟩
  · refine wpIn_mono (hex _ _ _ _ _ _ h1 w0 as F n hid hF hro a w hR) ?_
    rintro e' a' w' ⟨τ', ⟨rfl, rfl⟩, hR'⟩
    exact hl _ _ _ _ _ _ h2 w0 as F n hid hF hro a' w' hR'
  · refine wpIn_mono (hex _ _ _ _ _ _ h1 w0 as F n hid hF hro a w hR) ?_
    rintro e' a' w' ⟨τ', ⟨rfl, rfl⟩, hR'⟩
    cases e with
    | nrm => exact absurd rfl h2
    | ret => exact ⟨_, ⟨rfl, rfl⟩, hR'⟩
    | ext j => exact ⟨_, ⟨rfl, rfl⟩, hR'⟩

theorem execF_sound (hT : TblOk P T) (hm : P.follows .mixedOrders = true) (hex : Sound P T ex) {k : Nat} (hl : LoopSound P T ex k) : Sound P T (execF T P.funcs ex) := by
  intro N rd c σ e τ h w0 as F n hid hF hro
  have h0 := h
  unfold execF at h
  split at h
  · cases h; exact runs_skip ⟨rfl, rfl⟩
  · cases h; exact runs_label ⟨rfl, rfl⟩
  · cases h; exact runs_exit ⟨rfl, rfl⟩
  · cases h; exact runs_ret ⟨rfl, rfl⟩
  · exact seq_runs h (fun e τ hx => hex _ _ _ _ _ _ hx w0 as F n hid hF hro) (fun τ' hx => hex _ _ _ _ _ _ hx w0 as F n hid hF hro)
  · rename_i c a b
    rw [ev_sm (by simp)] at h
    unfold condX at h
    split at h
    · rename_i bb hev
      refine runs_cond (C := ⟨P, T, w0, N, as⟩) hev (fun hb => ?_) (fun hb => ?_)
      · subst hb; exact hex _ _ _ _ _ _ h w0 as F n hid hF hro
      · subst hb; exact hex _ _ _ _ _ _ h w0 as F n hid hF hro
    · cases h
  · rename_i id c
    refine runs_block ?_
    unfold blockX at h
    split at h
    · rename_i τ' hx
      cases h
      refine (hex _ _ _ _ _ _ hx w0 as F n hid hF hro).mono ?_
      rintro e' τ' ⟨rfl, rfl⟩; exact ⟨rfl, rfl⟩
    · rename_i τ' hx
      cases h
      refine (hex _ _ _ _ _ _ hx w0 as F n hid hF hro).mono ?_
      rintro e' τ' ⟨rfl, rfl⟩; exact ⟨rfl, rfl⟩
    · rename_i j τ' hx
      refine (hex _ _ _ _ _ _ hx w0 as F n hid hF hro).mono ?_
      rintro e' τ' ⟨rfl, rfl⟩
      simp only [XE.out, qblock]
      split at h
      · rename_i hj
        cases h
        rw [if_pos (Nat.eq_of_beq_eq_true hj)]; exact ⟨rfl, rfl⟩
      · rename_i hj
        cases h
        rw [if_neg (by rintro rfl; rw [Nat.beq_refl] at hj; cases hj)]; exact ⟨rfl, rfl⟩
    · cases h
  · rename_i c
    exact fun a w hR => wpIn_loop_rounds (k + 1) (execF_loop hex hl _ _ _ _ _ _ h0 w0 as F n hid hF hro a w hR)
  · rename_i id ops draw
    exact regX_runs hT hm hex hF h rfl
  · rename_i g ps assign body
    split at h
    · cases h
    · rw [ev_sm (by simp)] at h
      exact range_runs hT hex hF (hro rfl) h
  · cases h

theorem exec_both (hT : TblOk P T) (hm : P.follows .mixedOrders = true) : ∀ n, Sound P T (exec T P.funcs n) ∧ LoopSound P T (exec T P.funcs n) n
  | 0 => ⟨fun _ _ _ _ _ _ h => (by cases h), fun _ _ _ _ _ _ h => (by cases h)⟩
  | n + 1 => ⟨execF_sound hT hm (exec_both hT hm n).1 (exec_both hT hm n).2, execF_loop (exec_both hT hm n).1 (exec_both hT hm n).2⟩
theorem exec_sound (hT : TblOk P T) (hm : P.follows .mixedOrders = true) (n : Nat) : Sound P T (exec T P.funcs n) := (exec_both hT hm n).1
end
end
end Go.Ab
