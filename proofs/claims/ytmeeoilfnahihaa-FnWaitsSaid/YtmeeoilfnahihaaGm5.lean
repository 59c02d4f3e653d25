/- The G-machine, part 5: an evaluator of translated code on typed values, and that it is sound. No conditions. -/
import Derived.Test.YtmeeoilfnahihaaGm4
/- Plain laws: what failed waits longer. -/
namespace Go.Gm
open Go

def bigC (xs : List Int) : Bool := decide ((xs.length : Int) > (1048576 : Int))
def atC (xs : List Int) (i : Int) : Int := cond (decide (i < (xs.length : Int))) (IntKind.wrap .i64 (atI (t := .i .u8) xs (Int.toNat i))) (Int.tmod (IntKind.wrap .i64 ((IntKind.wrap .i64 (i * (7 : Int))) + (xs.length : Int))) (256 : Int))
def webB : ByteArray := bs [119,101,98]
theorem webB_ok : nameOk webB = true := by decide
theorem webB_sm : smStr webB = true := by decide
def failsW (n : Int) : List FailT := cond (n == (0 : Int)) [] [⟨webB, n⟩]
theorem failsW_0 : failsW 0 = [] := rfl
theorem failsW_pos {n : Int} (h : 1 ≤ n) : failsW n = [⟨webB, n⟩] := by
  unfold failsW
  rw [beq_eq_false_iff_ne.2 (by omega : n ≠ 0)]; rfl
theorem failO_web {n : Int} (h : 1 ≤ n) : failO (failsW n) webB = some 0 := by
  rw [failsW_pos h]
  simp [failO, firstN, failEq, atI, sEq_self]
theorem namesOk_web : namesOk [webB] = true := by
  simp [namesOk, allN, nameAt, atI, isIn, webB_ok]
theorem fails_ok {n : Int} (h0 : 0 ≤ n) (h : n ≤ 20) : (decide (((failsW n).length : Int) > 12)) = false ∧ allN (failC (failsW n)) 0 (failsW n).length = true := by
  by_cases hn : n = 0
  · subst hn; exact ⟨rfl, rfl⟩
  · have hO := failO_web (n := n) (by omega)
    rw [failsW_pos (by omega)] at hO ⊢
    refine ⟨rfl, ?_⟩
    have hin : inR n 1 20 = true := inR_iff.2 (by omega)
    simp [allN, failC, atI, webB_ok, failAt, hO, plc, hin]
theorem wq_list {n : Int} (h0 : 0 ≤ n) (h : n ≤ 20) : workQOk ⟨[webB], [], [], failsW n⟩ = true := by
  obtain ⟨h1, h2⟩ := fails_ok h0 h
  simp only [workQOk, namesOk_web, h1, h2]
  rfl
theorem wq_busy {n : Int} (h0 : 0 ≤ n) (h : n ≤ 20) : workQOk ⟨[], [webB], [], failsW n⟩ = true := by
  obtain ⟨h1, h2⟩ := fails_ok h0 h
  simp only [workQOk, namesOk_web, h1, h2]
  rfl
theorem web_start : workAdd ⟨[], [], [], []⟩ webB = (⟨[webB], [], [], failsW 0⟩, true) := by
  have h0 : workQOk ⟨[], [], [], []⟩ = true := by decide
  have h1 : workQOk (addList ⟨[], [], [], []⟩ webB) = true := wq_list (n := 0) (by omega) (by omega)
  unfold workAdd
  rw [h0, h1]; rfl
theorem web_take {n : Int} (h0 : 0 ≤ n) (h : n ≤ 20) : workTake ⟨[webB], [], [], failsW n⟩ = (⟨[], [webB], [], failsW n⟩, webB, true) := by
  unfold workTake
  have h1 : workQOk (takeN ⟨[webB], [], [], failsW n⟩ webB []) = true := wq_busy h0 h
  rw [wq_list h0 h]
  simp only [h1, cond_true]
  rfl
def upW (n : Int) : Int := if n + 1 < 20 then n + 1 else 20
theorem web_done {n : Int} (h0 : 0 ≤ n) (h : n ≤ 20) : workDone ⟨[], [webB], [], failsW n⟩ webB false = (⟨[webB], [], [], failsW (upW n)⟩, true) := by
  have hu : 1 ≤ upW n ∧ upW n ≤ 20 := by unfold upW; split <;> omega
  have hb : isIn [webB] webB = true := by simp [isIn, sEq_self]
  have hbut : butName [webB] webB = [] := by simp [butName, strIs, sEq_self]
  have hf : failedI (failsW n) webB false = failsW (upW n) := by
    unfold failedI
    by_cases hn : n = 0
    · subst hn; rfl
    · rw [failO_web (by omega)]
      simp only [cond_false]
      rw [failsW_pos (by omega), failsW_pos hu.1]
      rfl
  have hd : doneW ⟨[], [webB], [], failsW n⟩ webB false = ⟨[webB], [], [], failsW (upW n)⟩ := by
    unfold doneW
    simp only [hbut, hf]
    rfl
  unfold workDone
  rw [wq_busy h0 h, hd, wq_list (by omega) hu.2]
  simp only [hb, cond_true]
theorem web_end {n : Int} (h0 : 0 ≤ n) (h : n ≤ 20) : workDone ⟨[], [webB], [], failsW n⟩ webB true = (⟨[], [], [], []⟩, true) := by
  have hb : isIn [webB] webB = true := by simp [isIn, sEq_self]
  have hbut : butName [webB] webB = [] := by simp [butName, strIs, sEq_self]
  have hf : failedI (failsW n) webB true = [] := by
    unfold failedI
    by_cases hn : n = 0
    · subst hn; rfl
    · rw [failO_web (by omega), failsW_pos (by omega)]
      rfl
  have hd : doneW ⟨[], [webB], [], failsW n⟩ webB true = ⟨[], [], [], []⟩ := by
    unfold doneW
    simp only [hbut, hf]
    rfl
  have hq : workQOk ⟨[], [], [], []⟩ = true := by decide
  unfold workDone
  rw [wq_busy h0 h, hd, hq]
  simp only [hb, cond_true]
theorem web_wait {n : Int} (h : 1 ≤ n) : waitOf ⟨[webB], [], [], failsW n⟩ webB = waitN n := by
  have e : atI (t := .fail) [⟨webB, n⟩] 0 = ⟨webB, n⟩ := rfl
  unfold waitOf
  simp only
  rw [failO_web h, failsW_pos h]
  simp only [Option.elim_some, e]
theorem web_wait0 : waitOf ⟨[], [], [], []⟩ webB = 0 := rfl
theorem waitN_bd {n : Int} (h0 : 1 ≤ n) (h : n ≤ 20) : 1 ≤ waitN n ∧ waitN n ≤ 300 ∧ waitN n ≤ waitN (upW n) := by
  have : n = 1 ∨ n = 2 ∨ n = 3 ∨ n = 4 ∨ n = 5 ∨ n = 6 ∨ n = 7 ∨ n = 8 ∨ n = 9 ∨ n = 10 ∨ n = 11 ∨ n = 12 ∨ n = 13 ∨ n = 14 ∨ n = 15 ∨ n = 16 ∨ n = 17 ∨ n = 18 ∨ n = 19 ∨ n = 20 := by omega
  rcases this with rfl | rfl | rfl | rfl | rfl | rfl | rfl | rfl | rfl | rfl | rfl | rfl | rfl | rfl | rfl | rfl | rfl | rfl | rfl | rfl <;> decide
/-- How often it failed, behind so many rounds. -/
def nW (j : Nat) : Int := if j ≤ 20 then (j : Int) else 20
theorem nW_bd (j : Nat) : 0 ≤ nW j ∧ nW j ≤ 20 := by unfold nW; split <;> omega
theorem nW_up (j : Nat) : upW (nW j) = nW (j + 1) := by unfold upW nW; split <;> split <;> split <;> omega
def lastW (j : Nat) : Int := match j with | 0 => 0 | j + 1 => waitN (nW (j + 1))
theorem lastW_bd (j : Nat) : lastW j ≤ waitN (nW (j + 1)) ∧ 1 ≤ waitN (nW (j + 1)) ∧ waitN (nW (j + 1)) ≤ 300 := by
  have h1 : 1 ≤ nW (j + 1) := by unfold nW; split <;> omega
  have hb := waitN_bd h1 (nW_bd _).2
  refine ⟨?_, hb.1, hb.2.1⟩
  cases j with
  | zero => show (0 : Int) ≤ _; omega
  | succ j =>
    have h2 : 1 ≤ nW (j + 1) := by unfold nW; split <;> omega
    have := (waitN_bd h2 (nW_bd _).2).2.2
    rw [nW_up] at this
    exact this
theorem failsW_sm {n : Int} (h0 : 0 ≤ n) (h : n ≤ 20) : smL sm_fail (failsW n) = true := by
  by_cases hn : n = 0
  · subst hn; decide
  · rw [failsW_pos (by omega)]
    have : okI n = true := okI_of (by omega) (by omega)
    simp [smL, sm_fail, webB_sm, this]
end Go.Gm
