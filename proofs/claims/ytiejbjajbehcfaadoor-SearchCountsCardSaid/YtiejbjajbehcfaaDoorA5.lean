/- The soundness of the operations that write nothing, third part. -/
import Derived.Test.YtiejbjajbehcfaaDoorA4
set_option linter.unusedVariables false
set_option linter.unusedSimpArgs false
namespace Go.Abs
variable {κ : KRel}
section ops
variable {P : Program} {gl : List Nat} {θ : Th} {rows : List Row} {w : World} {sl : List AV} {a : Act}

theorem VL.seg {l : List AV} {l' : List Value} (h : VL θ l l') {off n : Nat} {m : List AV} (hm : seg l off n = some m) : VL θ m ((l'.drop off).take n) := by
  unfold Abs.seg at hm
  split at hm
  · injection hm with hm; subst hm
    exact (h.drop off).take n
  · simp at hm

theorem snd_part {t : TypeId} {ag : Bool} {n : Nat} (hag : aggT P t = some ag) (hn : szT P t = some n) {l : List AV} {l' : List Value} (hl : VL θ l l') (off : Nat) {v : AV} (he : (if ag then (seg l off n).map .agg else l[off]?) = some v) :
    ∃ v', (part t l'.toArray off).run P w = .ok v' w ∧ V θ v v' := by
  cases ag with
  | true =>
    simp only [if_true, Option.map_eq_some_iff] at he
    obtain ⟨m, hm, rfl⟩ := he
    have := hl.seg hm
    refine ⟨.agg ((l'.drop off).take n).toArray, ?_, .agg this.1 this.2⟩
    simp [part, run_aggT hag, run_szT hn, List.extract_toArray, List.extract_eq_take_drop]
  | false =>
    simp only [Bool.false_eq_true, if_false] at he
    obtain ⟨v', hv, hV⟩ := hl.get he
    exact ⟨v', by simp [part, run_aggT hag, hv], hV⟩

theorem run_bound {o : Option AV} {o' : Option Value} (ho : ∀ x, o = some x → ∃ x', o' = some x' ∧ V θ x x') (hn : o = none → o' = none) {d top n : Nat} (h : bound? o d top = some n) {top' : Nat} (htop : top ≤ top') (code : BoundsCode) (w : World) :
    (match o' with | some v => Instr.sliceBound v top' code | none => pure d).run P w = .ok n w := by
  cases o with
  | none =>
    rw [hn rfl]
    simp only [bound?, Option.some.injEq] at h
    simp [h]
  | some x =>
    obtain ⟨x', rfl, hx⟩ := ho x rfl
    unfold bound? at h
    split at h
    · simp at *
    · rename_i k i e
      injection e with e; subst e
      cases hx
      split at h
      · rename_i hb
        injection h with h
        have : 0 ≤ i ∧ i ≤ (top' : Int) := by omega
        simp [Instr.sliceBound, asIntOf, this, h]
      · simp at h
    · simp at h

/-- What an optional operand reads as. -/
def VO (θ : Th) (o : Option AV) (o' : Option Value) : Prop := (∀ x, o = some x → ∃ x', o' = some x' ∧ V θ x x') ∧ (o = none → o' = none)
theorem VO.some_iff {o : Option AV} {o' : Option Value} (h : VO θ o o') : o'.isSome = o.isSome := by
  cases o with
  | none => rw [h.2 rfl]; rfl
  | some x => obtain ⟨x', rfl, _⟩ := h.1 x rfl; rfl
theorem opdO_V (hg : GRel θ gl) (hs : SRel θ sl a.tmps) (x : Option Operand) : VO θ ((x.map (co gl)).map (getO sl)) (x.map a.eval) := by
  cases x with
  | none => exact ⟨fun x h => by simp at h, fun _ => rfl⟩
  | some x => exact ⟨fun y h => by simp at h; subst h; exact ⟨_, rfl, opd_V hg hs x⟩, fun h => by simp at h⟩

theorem run_bounds (isS : Bool) {lo hi mx : Option AV} {lo' hi' mx' : Option Value} (hlo : VO θ lo lo') (hhi : VO θ hi hi') (hmx : VO θ mx mx') {len cap0 len' cap' m h l : Nat}
    (e1 : mx.isSome = true → bound? mx cap0 cap0 = some m ∧ cap0 ≤ cap') (e1' : mx.isSome = false → m = cap') (e2 : ∃ top, bound? hi len top = some h ∧ top ≤ m) (hlen : hi = none → len = len') (e3 : bound? lo 0 h = some l) (e4 : (mx.isSome && hi.isNone) = false) (w : World) :
    (Instr.sliceBounds isS len' cap' lo' hi' mx').run P w = .ok (l, h, m) w := by
  obtain ⟨top, e2, htop⟩ := e2
  have r3 := run_bound (P := P) hlo.1 hlo.2 e3 (Nat.le_refl _) (if mx'.isSome then BoundsCode.slice3C else .sliceB) w
  cases mx with
  | none =>
    have hmx0 := hmx.2 rfl
    subst hmx0
    have hm : m = cap' := e1' rfl
    subst hm
    cases hi with
    | none =>
      have hhi0 := hhi.2 rfl
      subst hhi0
      simp only [bound?, Option.some.injEq] at e2
      have hl := hlen rfl
      subst hl
      subst e2
      simp only [Instr.sliceBounds, Sem.run_bind, Sem.run_pure, Result.andThen_ok]
      cases lo with
      | none =>
        have hlo0 := hlo.2 rfl
        subst hlo0
        simp only [bound?, Option.some.injEq] at e3
        subst e3
        simp
      | some u =>
        obtain ⟨u', rfl, hu⟩ := hlo.1 u rfl
        simp only at r3
        simp only [Sem.run_bind]
        rw [r3]
        rfl
    | some y =>
      obtain ⟨y', rfl, hy⟩ := hhi.1 y rfl
      have r2 := run_bound (P := P) hhi.1 hhi.2 e2 htop (if isS then .sliceAcap else .sliceAlen) w
      simp only at r2
      simp only [Instr.sliceBounds, Sem.run_bind, Sem.run_pure, Result.andThen_ok]
      rw [r2]
      simp only [Result.andThen_ok]
      cases lo with
      | none =>
        have hlo0 := hlo.2 rfl
        subst hlo0
        simp only [bound?, Option.some.injEq] at e3
        subst e3
        simp
      | some u =>
        obtain ⟨u', rfl, hu⟩ := hlo.1 u rfl
        simp only at r3
        simp only [Sem.run_bind]
        rw [r3]
        rfl
  | some z =>
    obtain ⟨z', rfl, hz⟩ := hmx.1 z rfl
    obtain ⟨e1, hcap⟩ := e1 rfl
    have r1 := run_bound (P := P) hmx.1 hmx.2 e1 hcap (if isS then .slice3Acap else .slice3Alen) w
    simp only at r1
    cases hi with
    | none => simp at e4
    | some y =>
      obtain ⟨y', rfl, hy⟩ := hhi.1 y rfl
      have r2 := run_bound (P := P) hhi.1 hhi.2 e2 htop .slice3B w
      simp only at r2
      simp only [Instr.sliceBounds, Sem.run_bind]
      rw [r1]
      simp only [Result.andThen_ok]
      rw [r2]
      simp only [Result.andThen_ok]
      cases lo with
      | none =>
        have hlo0 := hlo.2 rfl
        subst hlo0
        simp only [bound?, Option.some.injEq] at e3
        subst e3
        simp
      | some u =>
        obtain ⟨u', rfl, hu⟩ := hlo.1 u rfl
        simp only at r3
        simp only [Sem.run_bind]
        rw [r3]
        rfl

theorem bound?_le {o : Option AV} {d top n : Nat} (h : bound? o d top = some n) (hd : d ≤ top) : n ≤ top := by
  unfold bound? at h
  split at h
  · injection h with h; omega
  · split at h
    · rename_i hb; injection h with h; omega
    · simp at h
  · simp at h

theorem sliceV_sound {t e : TypeId} {sz : Nat} (hu : P.underlying t = some (.slice e)) (hsz : szT P e = some sz) {x v : AV} {lo hi mx : Option AV} (he : sliceV sz x lo hi mx = some v)
    {x' : Value} (hx : V θ x x') {lo' hi' mx' : Option Value} (hlo : VO θ lo lo') (hhi : VO θ hi hi') (hmx : VO θ mx mx') (w : World) :
    ∃ v', (Instr.slice t x' lo' hi' mx').run P w = .ok v' w ∧ V θ v v' := by
  unfold sliceV at he
  split at he
  · rename_i id off len c
    cases hx with
    | sliceAt hL ho hlc =>
    rename_i L o
    split at he
    · simp at he
    rename_i m hm
    split at he
    · simp at he
    rename_i h hh
    split at he
    · simp at he
    rename_i l hl
    split at he
    · simp at he
    rename_i hc
    injection he with he
    subst he
    have hmc : m ≤ c := bound?_le hm (Nat.le_refl _)
    have r := run_bounds (P := P) true hlo hhi hmx (cap' := c) (len' := len) (fun _ => ⟨hm, Nat.le_refl _⟩) (fun e => by cases mx <;> simp [bound?] at hm e; exact hm.symm) ⟨m, hh, Nat.le_refl _⟩ (fun _ => rfl) hl (by cases hi <;> simp at hc ⊢ <;> simp [hc]) w
    refine ⟨_, by simp [Instr.slice, run_underlying hu, r, run_szT hsz]; rfl, ?_⟩
    by_cases hml : m = l
    · simp only [hml, if_true]
      exact .sliceAt hL (fun h => by omega) (by
        have : h ≤ m := by
          cases hi with
          | none => simp only [bound?, Option.some.injEq] at hh; cases mx with | none => simp only [bound?, Option.some.injEq] at hm; omega | some z => simp at hc
          | some y => exact (by unfold bound? at hh; split at hh <;> first | (simp at *; done) | (split at hh <;> simp at hh; omega))
        omega)
    · simp only [hml, if_false, addr_add]
      have hlh : l ≤ h := bound?_le hl (Nat.zero_le _)
      have : h ≤ m := by
        cases hi with
        | none => simp only [bound?, Option.some.injEq] at hh; cases mx with | none => simp only [bound?, Option.some.injEq] at hm; omega | some z => simp at hc
        | some y => exact (by unfold bound? at hh; split at hh <;> first | (simp at *; done) | (split at hh <;> simp at hh; omega))
      exact .sliceAt hL (fun h => by have := ho (by omega); omega) (by omega)
  · rename_i id off len sz'
    cases hx with
    | sliceOp hL ho hto hlc =>
    rename_i c o L
    split at he
    · split at he
      · simp at he
      rename_i h hh
      split at he
      · simp at he
      rename_i l hl
      split at he
      case isFalse => simp at he
      rename_i hs
      injection he with he
      subst he; subst hs
      have r := run_bounds (P := P) true hlo hhi hmx (cap0 := 0) (cap' := c) (len' := len) (m := c) (fun e => by simp at e) (fun _ => rfl) ⟨len, hh, hlc⟩ (fun _ => rfl) hl (by simp) w
      have hhl : h ≤ len := bound?_le hh (Nat.le_refl _)
      have hlh : l ≤ h := bound?_le hl (Nat.zero_le _)
      refine ⟨_, by simp [Instr.slice, run_underlying hu, r, run_szT hsz]; rfl, ?_⟩
      by_cases hcl : c = l
      · simp only [hcl, if_true]
        exact .sliceOp hL (fun h => by omega) (by simp; omega) (by omega)
      · simp only [hcl, if_false, addr_add]
        refine .sliceOp hL (fun h => by have := ho (by omega); omega) ?_ (by omega)
        have : l * sz' + (c - l) * sz' = c * sz' := by rw [← Nat.add_mul]; congr 1; omega
        omega
    · rename_i z
      split at he
      · simp at he
      rename_i m hm
      split at he
      · simp at he
      rename_i h hh
      split at he
      · simp at he
      rename_i l hl
      split at he
      · simp at he
      rename_i hc
      split at he
      case isFalse => simp at he
      rename_i hs
      injection he with he
      subst he; subst hs
      have hmc : m ≤ len := bound?_le hm (Nat.le_refl _)
      have r := run_bounds (P := P) true hlo hhi hmx (cap0 := len) (cap' := c) (len' := len) (fun _ => ⟨hm, hlc⟩) (fun e => by simp at e) ⟨m, hh, Nat.le_refl _⟩ (fun _ => rfl) hl (by cases hi <;> simp at hc ⊢) w
      have hlh : l ≤ h := bound?_le hl (Nat.zero_le _)
      have hhm : h ≤ m := by
        cases hi with
        | none => simp at hc
        | some y => exact (by unfold bound? at hh; split at hh <;> first | (simp at *; done) | (split at hh <;> simp at hh; omega))
      refine ⟨_, by simp [Instr.slice, run_underlying hu, r, run_szT hsz]; rfl, ?_⟩
      by_cases hml : m = l
      · simp only [hml, if_true]
        exact .sliceAt hL (fun h => by omega) (by omega)
      · simp only [hml, if_false, addr_add]
        exact .sliceAt hL (fun h => by have := ho (by omega); omega) (by omega)
  · cases hx
    split at he
    case h_2 => simp at he
    rename_i m h l hm hh hl
    split at he
    · simp at he
    rename_i hc
    injection he with he
    subst he
    have hm0 : m = 0 := by have := bound?_le hm (Nat.le_refl _); omega
    have hh0 : h = 0 := by have := bound?_le hh (Nat.le_refl _); omega
    have hl0 : l = 0 := by have := bound?_le hl (Nat.le_refl _); omega
    subst hm0; subst hh0; subst hl0
    have r := run_bounds (P := P) true hlo hhi hmx (len := 0) (cap0 := 0) (cap' := 0) (len' := 0) (m := 0) (fun _ => ⟨hm, Nat.le_refl _⟩) (fun e => rfl) ⟨0, hh, Nat.le_refl _⟩ (fun _ => rfl) hl (by cases hi <;> simp at hc ⊢ <;> simp [hc]) w
    exact ⟨_, by simp [Instr.slice, run_underlying hu, r, run_szT hsz], .nilslice⟩
  · simp at he

theorem sliceAV_sound {t e : TypeId} {n sz : Nat} (hu : P.underlying t = some (.array n e)) (hsz : szT P e = some sz) {x v : AV} {lo hi mx : Option AV} (he : sliceAV n sz x lo hi mx = some v)
    {x' : Value} (hx : V θ x x') {lo' hi' mx' : Option Value} (hlo : VO θ lo lo') (hhi : VO θ hi hi') (hmx : VO θ mx mx') (w : World) :
    ∃ v', (Instr.sliceAt t x' lo' hi' mx').run P w = .ok v' w ∧ V θ v v' := by
  unfold sliceAV at he
  split at he
  case h_2 => simp at he
  rename_i id off
  cases hx with
  | ptr hL =>
  rename_i L
  unfold sliceV at he
  simp only at he
  split at he
  · simp at he
  rename_i m hm
  split at he
  · simp at he
  rename_i h hh
  split at he
  · simp at he
  rename_i l hl
  split at he
  · simp at he
  rename_i hc
  injection he with he
  subst he
  have hmc : m ≤ n := bound?_le hm (Nat.le_refl _)
  have hlh : l ≤ h := bound?_le hl (Nat.zero_le _)
  have hhm : h ≤ m := by
    cases hi with
    | none => simp only [bound?, Option.some.injEq] at hh; cases mx with | none => simp only [bound?, Option.some.injEq] at hm; omega | some z => simp at hc
    | some y => exact (by unfold bound? at hh; split at hh <;> first | (simp at *; done) | (split at hh <;> simp at hh; omega))
  have r := run_bounds (P := P) false hlo hhi hmx (cap' := n) (len' := n) (fun _ => ⟨hm, Nat.le_refl _⟩) (fun e => by cases mx <;> simp [bound?] at hm e; exact hm.symm) ⟨m, hh, Nat.le_refl _⟩ (fun _ => rfl) hl (by cases hi <;> simp at hc ⊢ <;> simp [hc]) w
  refine ⟨_, by simp [Instr.sliceAt, Instr.sureAddr, run_underlying hu, r, run_szT hsz]; rfl, ?_⟩
  by_cases hml : m = l
  · simp only [hml, if_true]
    exact .sliceAt hL (fun h => by omega) (by omega)
  · simp only [hml, if_false, addr_add]
    exact .sliceAt hL (fun h => by omega) (by omega)
end ops
end Go.Abs
