/- What the abstract run says of the model: each operation is what it says. -/
import Derived.Test.YtpbjdbdlfobpmaaGreatEngVg
import Derived.Test.YtpbjdbdlfobpmaaGreatEngY
import Derived.Test.YtpbjdbdlfobpmaaGreatEngP
namespace Go.Eng
open Go Go.RowKit
theorem callFunc_has {Q : Tab} {cf : CallF} (hH : CallHas Q cf) {g : FuncId} {args : List AV} {h : Hp} {r : AV × Hp} (e : cf g args h = some r) (args' : Array Value) (w : World) : (callFunc g args').run Q.P w = .ok (.enter g args') w := by
  obtain ⟨fn, h1, h2, h3⟩ := hH g args h r e
  have h4 : fn.body.isNone = false := by cases hb : fn.body with
    | none => rw [hb] at h2; cases h2
    | some c => rfl
  unfold callFunc
  simp only [Sem.run_bind, program]
  simp only [Sem.run, Result.andThen_ok, h1, h3, h4, Bool.false_eq_true, if_false]
  rfl
section
variable {Q : Tab} (hQ : Q.Ok) {ρ : Env} {fr : Fr} {a : Act} {w : World} {h : Hp} {o : Oper} {cf : CallF}
include hQ
theorem quiet_ok (H : HL ρ h w) (hf : FR ρ fr a.tmps) (hq : quietO fr o = true) {x : AV} {h' : Hp} (e : opA Q cf fr o h = some (x, h')) : RunsQ Q.P ρ h w (execOp a.eval o) x h' := by
  unfold opA at e
  unfold quietO at hq
  cases ho : o.op <;> rw [ho] at hq <;> simp only [quietK, Bool.false_eq_true] at hq <;> rw [ho] at e <;> simp only [opSel] at e
  case move y => exact move_runs hf (.inl ho) e
  case assign y => exact move_runs hf (.inr ho) e
  case pick c y z => exact pick_runs hf ho e
  case build t parts => exact build_runs hQ hf ho e
  case load t y => exact load_runs hQ H hf ho e
  case nilCheck y => exact nil_runs hf ho e
  case binOp op t y z t' => exact binOp_runs hQ hf ho e
  case unOp op t y => exact unOp_runs hf ho e
  case sliceToArrayPointer t y => exact arr_runs hQ hf ho e
  case makeFunc f y z => exact makeFunc_runs hf ho e
  case slice t y lo hi mx => exact slice_runs hQ H hf ho e
  case fieldAddr t y f => exact fieldAddr_runs hQ hf ho e
  case field t y f => exact field_runs hQ hf ho e
  case indexAddr t y z => exact indexAddr_runs hQ hf ho e
  case lookup t y z ok => exact lookup_runs hQ H hf ho e
  case extract y i => exact extract_runs hf ho e
  case index t y z => exact index_runs hQ hf ho e
  case convert s d y =>
    refine convert_runs hQ H hf ho (fun b hb => ?_) e
    rw [hb] at hq
    cases hq
  case call c =>
    unfold quietC at hq
    unfold callA at e
    cases hcal : c.callee with
    | builtin b =>
      rw [hcal] at hq e
      simp only at hq e
      have hpure : ∀ {x h'}, okv h (pureOp Q fr o) = some (x, h') → RunsQ Q.P ρ h w (execOp a.eval o) x h' := fun e => pure_runs hf (fun cs b => by rw [ho]; intro h; cases h) e
      unfold bltA at e
      split at e
      · cases hq
      · cases hq
      · exact len_runs hQ H hf ho hcal e
      · exact cap_runs hQ hf ho hcal e
      · exact hpure e
    | value f => rw [hcal] at hq; cases hq
    | invoke r n => rw [hcal] at hq; cases hq
theorem birth_ok (hf : FR ρ fr a.tmps) (hq : birthK o.op = true) {x : AV} {h' : Hp} (e : opA Q cf fr o h = some (x, h')) : RunsB Q.P ρ h w (execOp a.eval o) x h' := by
  unfold opA at e
  cases ho : o.op <;> rw [ho] at hq <;> simp only [birthK, Bool.false_eq_true] at hq <;> rw [ho] at e <;> simp only [opSel] at e
  case alloc t => exact alloc_runs hQ ho e
  case box t y => exact box_runs hf ho e
  case buildSlice t n parts => exact buildSlice_runs hQ hf ho e
  case makeMap t r => exact makeMap_runs ho e
  case makeSlice t y z => exact makeSlice_runs hQ hf ho e
theorem opSound (hC : CallSound Q cf) (hH : CallHas Q cf) : OpSound Q cf := by
  intro B ρ fr a w h o x h' H hf e K Qx hK
  cases hq : quietO fr o with
  | true => exact ((quiet_ok hQ H.hl hf hq e).runs H).wp hK
  | false =>
    cases hb : birthK o.op with
    | true => exact ((birth_ok hQ hf hb e).runs H).wp hK
    | false =>
      have e0 := e
      unfold opA at e
      unfold quietO at hq
      cases ho : o.op <;> rw [ho] at hq <;> simp only [quietK, Bool.true_eq_false] at hq <;> rw [ho] at hb <;> simp only [birthK, Bool.true_eq_false] at hb <;> rw [ho] at e <;> simp only [opSel] at e <;> try cases e
      case convert s d y =>
        have : ∃ b, evalA y fr = some (.v (.string b)) := by
          cases hy : evalA y fr with
          | none => rw [hy] at e; cases e
          | some v =>
            rw [hy] at hq
            unfold isStrV at hq
            split at hq
            · rename_i b hb; exact ⟨b, hb⟩
            · cases hq
        obtain ⟨b, hb⟩ := this
        exact (convert_string_runs hQ H hf ho hb e).wp hK
      case store t y z => exact (store_runs hQ H hf ho e).wp hK
      case mapUpdate t m y z => exact (update_runs hQ H hf ho e).wp hK
      case call c =>
        unfold callA at e
        cases hcal : c.callee with
        | builtin b =>
          rw [hcal] at e
          unfold quietC at hq
          rw [hcal] at hq
          simp only at e hq
          unfold bltA at e
          split at e
          · exact (append_runs hQ H hf ho hcal e).wp hK
          · exact (copy_runs hQ H hf ho hcal e).wp hK
          · cases hq
          · cases hq
          · exact ((pure_runs hf (fun cs b => by rw [ho]; intro h; cases h) e).runs H).wp hK
        | value f =>
          rw [hcal] at e
          exact fun_wp hC H hf ho hcal e (fun g args r hr args' => callFunc_has hH hr args' w) K Qx hK
        | invoke r n => rw [hcal] at e; cases e
end
end Go.Eng
