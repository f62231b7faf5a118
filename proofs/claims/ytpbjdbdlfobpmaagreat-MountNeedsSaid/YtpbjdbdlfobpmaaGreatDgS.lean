/- Contracts by the abstract run: some rounds, words' bytes. -/
import Derived.Test.YtpbjdbdlfobpmaaGreatDgR
namespace Go.Proofs.YtpbjdbdlfobpmaaGreat
open Go.RowKit Go.Eng
theorem call_of_run {cf : CallF} (hC : CallSound QT cf) {f : FuncId} {args : List AV} {cargs : List Value} {x : AV} {c : Value} (ha : cvs (fun _ => none) args = some cargs) (hr : (cf f args ⟨.leaf, 0⟩).map (·.1) = some x) (hx : ∀ ρ, cv ρ x = some c) (w : World) :
    Calls Tryz.prog f ⟨cargs⟩ w fun e w' => e = .returned c ∧ RowKit.Below w.heap.size w w' := by
  cases hcf : cf f args ⟨.leaf, 0⟩ with
  | none => rw [hcf] at hr; cases hr
  | some r =>
    obtain ⟨y, h'⟩ := r
    rw [hcf] at hr
    simp only [Option.map_some, Option.some.injEq] at hr
    subst hr
    refine (hC (· < w.heap.size) (fun _ => none) w ⟨.leaf, 0⟩ f args cargs y h' (HR.start w) ha hcf).mono ?_
    rintro e w' ⟨ρ', c', rfl, _, hc, _, hb⟩
    rw [hx ρ'] at hc; cases hc
    exact ⟨rfl, hb.os, hb.tape, hb.output, hb.size, hb.block⟩
theorem list16 {l : List Int} (h : l.length = 16) : ∃ x0 x1 x2 x3 x4 x5 x6 x7 x8 x9 x10 x11 x12 x13 x14 x15, l = [x0, x1, x2, x3, x4, x5, x6, x7, x8, x9, x10, x11, x12, x13, x14, x15] := by
  match l, h with
  | [x0, x1, x2, x3, x4, x5, x6, x7, x8, x9, x10, x11, x12, x13, x14, x15], _ => exact ⟨x0, x1, x2, x3, x4, x5, x6, x7, x8, x9, x10, x11, x12, x13, x14, x15, rfl⟩
theorem round_any (k : Bool) (l : List Int) (hl : l.length = 16) (w : World) :
    Calls Tryz.prog 144 #[.agg (uI l), .bool k, .func (.func 145) #[] #[]] w fun e w' => e = .returned (.agg (uI (roundI l k))) ∧ RowKit.Below w.heap.size w w' := by
  obtain ⟨x0, x1, x2, x3, x4, x5, x6, x7, x8, x9, x10, x11, x12, x13, x14, x15, rfl⟩ := list16 hl
  exact call_of_run (roundSound 1000) rfl (run_round k x0 x1 x2 x3 x4 x5 x6 x7 x8 x9 x10 x11 x12 x13 x14 x15) (fun ρ => agg_cv ρ _) w
theorem qatI_len (l : List Int) (a b c d : Nat) : (qatI l a b c d).length = l.length := by simp [qatI]
theorem roundI_len (l : List Int) (k : Bool) : (roundI l k).length = l.length := by cases k <;> simp [roundI, qatI_len]
def n16 (L : List Int) : List Int := [L.getD 0 0, L.getD 1 0, L.getD 2 0, L.getD 3 0, L.getD 4 0, L.getD 5 0, L.getD 6 0, L.getD 7 0, L.getD 8 0, L.getD 9 0, L.getD 10 0, L.getD 11 0, L.getD 12 0, L.getD 13 0, L.getD 14 0, L.getD 15 0]
theorem n16_eq {L : List Int} (h : L.length = 16) : n16 L = L := by
  obtain ⟨x0, x1, x2, x3, x4, x5, x6, x7, x8, x9, x10, x11, x12, x13, x14, x15, rfl⟩ := list16 h
  rfl
def intsOf : List AV → Option (List Int)
  | [] => some []
  | .v (.int .u32 n) :: r => match intsOf r with | some l => some (n :: l) | none => none
  | _ => none
theorem intsOf_eq : ∀ {l : List AV} {L : List Int}, intsOf l = some L → l = avs L
  | [], L, e => by simp only [intsOf] at e; cases e; rfl
  | x :: r, L, e => by
    unfold intsOf at e
    split at e
    · rename_i hx; cases hx
    · rename_i n r' hx
      split at e
      · rename_i l' hl
        cases e
        cases hx
        rw [intsOf_eq hl]; rfl
      · cases e
    · cases e
def isQ : AV → Bool
  | .v (.func (.func g) a b) => Nat.beq g 145 && a.toList.isEmpty && b.toList.isEmpty
  | _ => false
theorem isQ_eq {x : AV} (h : isQ x = true) : x = .v (.func (.func 145) #[] #[]) := by
  unfold isQ at h
  split at h
  · rename_i g a b
    simp only [Bool.and_eq_true, Nat.beq_eq] at h
    obtain ⟨⟨rfl, h2⟩, h3⟩ := h
    obtain ⟨a⟩ := a
    obtain ⟨b⟩ := b
    simp at h2 h3
    subst h2; subst h3; rfl
  · cases h
def cfR : CallF := fun f args h => match f with
  | 144 => match args with
    | [.agg l, .b k, q] => match intsOf l with
      | some L => match Nat.beq L.length 16 && isQ q with
        | true => some (.agg (avs (n16 (roundI L k))), h)
        | false => none
      | none => none
    | _ => none
  | _ => none
theorem cfR_some {f : FuncId} {args : List AV} {h : Hp} {x : AV} {h' : Hp} (e : cfR f args h = some (x, h')) : f = 144 ∧ ∃ L k, L.length = 16 ∧ args = [.agg (avs L), .b k, .v (.func (.func 145) #[] #[])] ∧ x = .agg (avs (roundI L k)) ∧ h' = h := by
  unfold cfR at e
  split at e
  · split at e
    · rename_i l k q
      split at e
      · rename_i L hL
        split at e
        · rename_i hc
          simp only [Bool.and_eq_true, Nat.beq_eq] at hc
          cases e
          refine ⟨rfl, L, k, hc.1, by rw [intsOf_eq hL, isQ_eq hc.2], by rw [n16_eq (by rw [roundI_len]; exact hc.1)], rfl⟩
        · cases e
      · cases e
    · cases e
  · cases e
theorem cfR_sound : CallSound QT cfR := by
  intro B ρ w h f args cargs x h' H hc e
  obtain ⟨rfl, L, k, hL, rfl, rfl, rfl⟩ := cfR_some e
  have h2 : cvs ρ [.agg (avs L), .b k, .v (.func (.func 145) #[] #[])] = some [.agg (uI L), .bool k, .func (.func 145) #[] #[]] := by
    exact cvs_mk (agg_cv ρ L) (cvs_mk rfl (cvs_mk rfl rfl))
  rw [h2] at hc; cases hc
  refine (round_any k L hL w).mono ?_
  rintro e w' ⟨rfl, hb⟩
  exact ⟨ρ, _, rfl, Env.le_refl ρ, agg_cv ρ _, H.world (fun j hj => hb.block j hj) hb.size, hb.os, hb.tape, hb.output, hb.size, fun j hj => hb.block j (H.base j hj)⟩
theorem cfR_has : CallHas QT cfR := by
  intro f args h r e
  obtain ⟨rfl, _⟩ := cfR_some (x := r.1) (h' := r.2) e
  exact ⟨Tryz.f144, Tryz.func144, by kernel_rfl, by kernel_rfl⟩
theorem roundsSound (fuel : Nat) : CallSound QT (callFn QT cfR (drA QT) fuel) := callFn_ok QT_ok (opSound QT_ok cfR_sound cfR_has) (drawSound QT_ok cfR_sound cfR_has) fuel
def rounds6 (l : List Int) : List Int := n16 (roundI (n16 (roundI (n16 (roundI (n16 (roundI (n16 (roundI (n16 (roundI l false)) true)) false)) true)) false)) true)
theorem run_rounds (x0 x1 x2 x3 x4 x5 x6 x7 x8 x9 x10 x11 x12 x13 x14 x15 : Int) :
    ((callFn QT cfR (drA QT) 1000 143 [.agg (avs [x0, x1, x2, x3, x4, x5, x6, x7, x8, x9, x10, x11, x12, x13, x14, x15]), .i .i64 (.ofNat 6)] ⟨.leaf, 0⟩).map (·.1)) = some (.tup [.agg (avs (rounds6 [x0, x1, x2, x3, x4, x5, x6, x7, x8, x9, x10, x11, x12, x13, x14, x15])), .i .i64 (.ofNat 0)]) := by
  kernel_rfl
theorem rounds_any (l : List Int) (hl : l.length = 16) (w : World) :
    Calls Tryz.prog 143 #[.agg (uI l), .int .i64 6] w fun e w' => e = .returned (.tuple #[.agg (uI (rounds6 l)), .int .i64 0]) ∧ RowKit.Below w.heap.size w w' := by
  obtain ⟨x0, x1, x2, x3, x4, x5, x6, x7, x8, x9, x10, x11, x12, x13, x14, x15, rfl⟩ := list16 hl
  exact call_of_run (roundsSound 1000) rfl (run_rounds x0 x1 x2 x3 x4 x5 x6 x7 x8 x9 x10 x11 x12 x13 x14 x15) (fun ρ => by simp only [cv, cvs, avs_cv]; rfl) w
end Go.Proofs.YtpbjdbdlfobpmaaGreat
