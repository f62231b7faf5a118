/- What the abstract run says of the model: calls of the program's functions. -/
import Derived.Test.YtpbjdbdlfobpmaaGreatEngX
namespace Go.Eng
open Go Go.RowKit
/-- what is called has a body -/
def CallHas (Q : Tab) (cf : CallF) : Prop := ∀ (f : FuncId) (args : List AV) (h : Hp) (r : AV × Hp), cf f args h = some r → ∃ fn, Q.P.funcs[f]? = some fn ∧ fn.body.isSome = true ∧ (fn.name == "runtime.NumGoroutine") = false
theorem argsA_get : ∀ (l : List AV) (i : Nat) (fr fr' : Fr), argsA l i fr = some fr' → ∀ j, fr'.get j = if i ≤ j ∧ j < i + l.length then l[j - i]? else fr.get j
  | [], i, fr, fr', e, j => by
    simp only [argsA] at e; cases e
    rw [if_neg (by simp only [List.length_nil]; omega)]
  | x :: r, i, fr, fr', e, j => by
    simp only [argsA, AV.seq_eq] at e
    split at e
    · rename_i fr1 h1
      rw [natF_eq] at e
      rw [argsA_get r (i + 1) fr1 fr' e, T.get_put h1]
      simp only [List.length_cons]
      by_cases h2 : j = i
      · subst h2; rw [if_neg (by omega), if_pos rfl, if_pos (by omega)]; simp
      · by_cases h3 : i + 1 ≤ j ∧ j < i + 1 + r.length
        · rw [if_pos h3, if_pos (by omega), show j - i = (j - (i + 1)) + 1 by omega]; rfl
        · rw [if_neg h3, if_neg h2, if_neg (by omega)]
    · cases e
theorem undefsA_get : ∀ (n i : Nat) (fr fr' : Fr), undefsA n i fr = some fr' → ∀ j, fr'.get j = if i ≤ j ∧ j < i + n then some unit else fr.get j
  | 0, i, fr, fr', e, j => by
    simp only [undefsA] at e; cases e
    rw [if_neg (by omega)]
  | n + 1, i, fr, fr', e, j => by
    simp only [undefsA] at e
    split at e
    · rename_i fr1 h1
      rw [natF_eq] at e
      rw [undefsA_get n (i + 1) fr1 fr' e, T.get_put h1]
      by_cases h2 : j = i
      · subst h2; rw [if_neg (by omega), if_pos rfl, if_pos (by omega)]
      · by_cases h3 : i + 1 ≤ j ∧ j < i + 1 + n
        · rw [if_pos h3, if_pos (by omega)]
        · rw [if_neg h3, if_neg h2, if_neg (by omega)]
    · cases e
theorem beginA_ok {ρ : Env} {nt : Nat} {args : List AV} {cargs : List Value} {fr : Fr} (hc : cvs ρ args = some cargs) (e : beginA nt args = some fr) :
    FR ρ fr ((⟨cargs⟩ : Array Value) ++ Array.replicate (nt - cargs.length) undef) ∧ ((⟨cargs⟩ : Array Value) ++ Array.replicate (nt - cargs.length) undef).size = nt := by
  unfold beginA at e
  split at e
  · rename_i hle
    have hle : args.length ≤ nt := by simpa using hle
    have hl := cvs_len hc
    split at e
    · rename_i fr1 h1
      refine ⟨fun i v hv => ?_, by simp; omega⟩
      rw [undefsA_get _ _ _ _ e, argsA_get _ _ _ _ h1] at hv
      by_cases h2 : i < args.length
      · rw [if_neg (by omega), if_pos (by omega)] at hv
        obtain ⟨c, h3, h4⟩ := cvs_at hc i (by simpa using hv)
        refine ⟨c, ?_, h4⟩
        rw [Array.getElem?_append_left (by simp; omega)]
        simpa using h3
      · by_cases h3 : i < nt
        · rw [if_pos (by omega)] at hv
          cases hv
          refine ⟨undef, ?_, rfl⟩
          rw [Array.getElem?_append_right (by simp; omega), Array.getElem?_replicate, if_pos (by simp; omega)]
        · rw [if_neg (by omega), if_neg (by omega)] at hv
          cases hv
    · cases e
  · cases e
def resOf (tmps : Array Value) : ResultVar → Sem Value
  | .tmp t => pure (tmps.getD t undef)
  | .cell a t => do loadVar t (← asAddr (tmps.getD a undef))
section
variable {Q : Tab} {B : Nat → Prop} {ρ : Env} {fr : Fr} {tmps : Array Value} {w : World} {h : Hp} (hQ : Q.Ok)
include hQ
theorem resA_ok (S : FR ρ fr tmps) (H : HR B ρ h w) : ∀ {l : List ResultVar} {vs : List AV}, resA Q fr h l = some vs → ∃ cs, cvs ρ vs = some cs ∧ (l.mapM (resOf tmps)).run Q.P w = .ok cs w
  | [], vs, e => by
    simp only [resA] at e; cases e
    exact ⟨[], rfl, rfl⟩
  | .tmp t :: r, vs, e => by
    simp only [resA] at e
    split at e
    · rename_i v hv
      split at e
      · rename_i l hl
        cases e
        obtain ⟨c, h1, h2⟩ := S t v hv
        obtain ⟨cs, h3, h4⟩ := resA_ok S H hl
        refine ⟨c :: cs, cvs_mk h2 h3, ?_⟩
        rw [List.mapM_cons, Sem.run_bind]
        have : (resOf tmps (.tmp t)).run Q.P w = .ok c w := by simp [resOf, h1]
        rw [this]
        simp only [Result.andThen_ok, Sem.run_bind, h4]
        rfl
      · cases e
    · cases e
  | .cell y t :: r, vs, e => by
    simp only [resA] at e
    split at e
    · rename_i b off hv
      split at e
      · rename_i v hld
        split at e
        · rename_i l hl
          cases e
          obtain ⟨p, h1, h2⟩ := S y _ hv
          obtain ⟨bb, c, rfl, h5, h6⟩ := loadA_ok hQ H.hl h2 hld
          obtain ⟨cs, h3, h4⟩ := resA_ok S H hl
          refine ⟨c :: cs, cvs_mk h6 h3, ?_⟩
          rw [List.mapM_cons, Sem.run_bind]
          have : (resOf tmps (.cell y t)).run Q.P w = .ok c w := by simp [resOf, h1, asAddr, h5]
          rw [this]
          simp only [Result.andThen_ok, Sem.run_bind, h4]
          rfl
        · cases e
      · cases e
    · cases e
theorem results_ok {fn : Func} (S : FR ρ fr tmps) (H : HR B ρ h w) {x : AV} {h' : Hp} (e : resOne h (resA Q fr h fn.results.toList) = some (x, h')) : ∃ c, (results fn tmps).run Q.P w = .ok c w ∧ cv ρ x = some c ∧ h' = h := by
  have key : ∀ {vs : List AV}, resA Q fr h fn.results.toList = some vs → ∃ cs, cvs ρ vs = some cs ∧ (results fn tmps).run Q.P w = .ok (if hh : (⟨cs⟩ : Array Value).size = 1 then (⟨cs⟩ : Array Value)[0] else .tuple ⟨cs⟩) w := fun {vs} hv => by
    obtain ⟨cs, h1, h2⟩ := resA_ok hQ S H hv
    refine ⟨cs, h1, ?_⟩
    have hm : fn.results.mapM (resOf tmps) = List.toArray <$> fn.results.toList.mapM (resOf tmps) := Array.mapM_eq_mapM_toList
    have hres : results fn tmps = (do let vs ← fn.results.mapM (resOf tmps); pure (if hh : vs.size = 1 then vs[0] else .tuple vs)) := by
      unfold results
      congr 1
    rw [hres, hm, Sem.run_bind, map_eq_pure_bind, Sem.run_bind, h2]
    rfl
  unfold resOne at e
  split at e
  · rename_i v hv
    cases e
    obtain ⟨cs, h1, h2⟩ := key hv
    obtain ⟨c, r, rfl, h3, h4⟩ := cvs_cons h1
    have := cvs_nil h4
    subst this
    exact ⟨c, h2, h3, rfl⟩
  · rename_i l hne hv
    cases e
    obtain ⟨cs, h1, h2⟩ := key hv
    have hl := cvs_len h1
    refine ⟨.tuple ⟨cs⟩, ?_, mkTup_cv h1, rfl⟩
    rw [h2, dif_neg]
    intro h5
    have h5 : cs.length = 1 := h5
    rw [hl] at h5
    match l, h5 with
    | [v], _ => exact hne v rfl
  · cases e
theorem callFn_ok {cf : CallF} {dr : CallF → Draw} (hO : OpSound Q cf) (hD : DrawSound Q (dr cf)) (fuel : Nat) : CallSound Q (callFn Q cf dr fuel) := by
  intro B ρ w h f args cargs x h' H hc e
  unfold callFn at e
  split at e
  · cases e
  · rename_i fn hfn
    split at e
    · cases e
    · rename_i c hbody
      split at e
      · cases e
      · rename_i fr hfr
        refine calls_of_wp (hQ.fn f fn hfn) hbody ?_
        obtain ⟨k1, k2⟩ := beginA_ok hc hfr
        have S : SR B ρ fn.ntmps fr h { tmps := (⟨cargs⟩ : Array Value) ++ Array.replicate (fn.ntmps - (⟨cargs⟩ : Array Value).size) undef, defers := [] } w := ⟨k1, k2, rfl, H⟩
        unfold endA at e
        split at e
        · rename_i fr1 h1 hcode
          refine codeA_ok hO hD fuel c S hcode _ fun ρ1 a1 w1 hl S1 hb => ?_
          obtain ⟨v, h2, h3, rfl⟩ := results_ok hQ S1.fr S1.hp e
          exact ⟨S1.df, v, h2, ρ1, v, rfl, hl, h3, S1.hp, hb⟩
        · rename_i fr1 h1 hcode
          refine codeA_ok hO hD fuel c S hcode _ fun ρ1 a1 w1 hl S1 hb => ?_
          obtain ⟨v, h2, h3, rfl⟩ := results_ok hQ S1.fr S1.hp e
          exact ⟨S1.df, v, h2, ρ1, v, rfl, hl, h3, S1.hp, hb⟩
        · cases e
theorem callFn_has {cf : CallF} {dr : CallF → Draw} (fuel : Nat) : CallHas Q (callFn Q cf dr fuel) := by
  intro f args h r e
  unfold callFn at e
  split at e
  · cases e
  · rename_i fn hfn
    split at e
    · cases e
    · rename_i c hbody
      exact ⟨fn, hQ.fn f fn hfn, by rw [hbody]; rfl, hQ.nm f fn hfn⟩
theorem callN_ok {dr : CallF → Draw} {special : FuncId → Option (List AV → Hp → R2)} (hO : ∀ cf, CallSound Q cf → CallHas Q cf → OpSound Q cf) (hD : ∀ cf, CallSound Q cf → CallHas Q cf → DrawSound Q (dr cf))
    (hS : ∀ f g, special f = some g → (CallSound Q fun f' args h => if f' = f then g args h else none) ∧ CallHas Q fun f' args h => if f' = f then g args h else none) (fuel : Nat) : ∀ n, CallSound Q (callN Q dr special fuel n) ∧ CallHas Q (callN Q dr special fuel n)
  | 0 => ⟨(fun B ρ w h f args cargs x h' H hc e => by cases e), fun f args h r e => by cases e⟩
  | n + 1 => by
    obtain ⟨ih, ih2⟩ := callN_ok hO hD hS fuel n
    refine ⟨fun B ρ w h f args cargs x h' H hc e => ?_, fun f args h r e => ?_⟩
    · simp only [callN] at e
      split at e
      · rename_i g hg
        exact (hS f g hg).1 B ρ w h f args cargs x h' H hc (by simpa using e)
      · exact callFn_ok hQ (hO _ ih ih2) (hD _ ih ih2) fuel B ρ w h f args cargs x h' H hc e
    · simp only [callN] at e
      split at e
      · rename_i g hg
        exact (hS f g hg).2 f args h r (by simpa using e)
      · exact callFn_has hQ fuel f args h r e
end
end Go.Eng
