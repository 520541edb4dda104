/- The soundness of the operations that write nothing: the theorem. -/
import Derived.Test.YtiejbjajbehcfaaDoorA6
set_option linter.unusedVariables false
set_option linter.unusedSimpArgs false
namespace Go.Abs
variable {κ : KRel}
section ops
variable {P : Program} {gl : List Nat} {θ : Th} {rows : List Row} {w : World} {sl : List AV} {a : Act}

theorem yld_of {s : Sem Value} {v' : Value} (h : s.run P w = .ok v' w) : (do pure (Next.value (← s)) : Sem Next).run P w = .ok (.value v') w := by
  rw [Sem.run_bind, h]; rfl

theorem keyEq_inv {k q : AV} {b : Bool} (h : keyEq k q = some b) : ∃ ik x y, k = .int ik x ∧ q = .int ik y ∧ b = (x == y) := by
  unfold keyEq at h
  split at h
  · rename_i k1 x k2 y
    split at h
    · rename_i hk
      subst hk
      injection h with h
      exact ⟨_, _, _, rfl, rfl, h.symm⟩
    · simp at h
  · simp at h

theorem findK_sound {kt : TypeDesc} {ik : IntKind} (hk : kt = .int ik) {k : AV} {k' : Value} (hkV : V θ k k') : ∀ (es : List (AV × AV)) (es' : List MapEntry) (i : Nat) (r : Option (Nat × AV)),
    es'.length = es.length → (∀ (j : Nat) (e : AV × AV), es[j]? = some e → ∃ e', es'[j]? = some e' ∧ V θ e.1 e'.key ∧ V θ e.2 e'.val) → findK k es i = some r →
    (match r with
     | none => Instr.findNow kt k' es' i = some none
     | some (j, v) => ∃ v', Instr.findNow kt k' es' i = some (some (j, v')) ∧ V θ v v' ∧ i ≤ j ∧ j < i + es.length ∧ (∃ ik n, k' = .int ik n) ∧ ∃ e', es'[j - i]? = some e' ∧ e'.key = k')
  | [], es', i, r, hl, hes, h => by
    have : es' = [] := List.length_eq_zero_iff.1 hl
    subst this
    simp only [findK, Option.some.injEq] at h
    subst h
    rfl
  | e :: es, [], i, r, hl, hes, h => by simp at hl
  | e :: es, e' :: es', i, r, hl, hes, h => by
    obtain ⟨e1, h1, h2, h3⟩ := hes 0 e rfl
    simp only [List.getElem?_cons_zero, Option.some.injEq] at h1
    subst h1
    simp only [findK] at h
    split at h
    · rename_i hq
      injection h with h
      subst h
      obtain ⟨k1, x, y, e1, e2, e3⟩ := keyEq_inv hq
      subst e1
      rw [e2] at h2
      have hkey : e'.key = .int k1 y := by generalize e'.key = key at *; cases h2; rfl
      cases hkV
      refine ⟨e'.val, ?_, h3, Nat.le_refl _, by simp, ⟨_, _, rfl⟩, e', by simp, by rw [hkey]; congr 1; exact (by simpa using e3.symm : x = y).symm⟩
      subst hk
      simp [Instr.findNow, Instr.sameNow, hkey, ← e3]
    · rename_i hq
      have ih := findK_sound hk hkV es es' (i + 1) r (by simpa using hl) (fun j f hf => by simpa using hes (j + 1) f (by simpa using hf)) h
      obtain ⟨k1, x, y, e1, e2, e3⟩ := keyEq_inv hq
      subst e1
      rw [e2] at h2
      have hkey : e'.key = .int k1 y := by generalize e'.key = key at *; cases h2; rfl
      cases hkV
      have hstep : Instr.findNow kt (.int k1 x) (e' :: es') i = Instr.findNow kt (.int k1 x) es' (i + 1) := by
        subst hk
        simp [Instr.findNow, Instr.sameNow, hkey, ← e3]
      cases r with
      | none => rw [hstep]; exact ih
      | some p =>
        obtain ⟨j, v⟩ := p
        obtain ⟨v', i1, i2, i3, i4, i5, e2, i6, i7⟩ := ih
        exact ⟨v', by rw [hstep]; exact i1, i2, by omega, by simp; omega, i5, e2, by rw [show j - i = (j - (i + 1)) + 1 from by omega]; simpa using i6, i7⟩
    · simp at h

theorem keyEq_self {k : AV} {b : Bool} (h : keyEq k k = some b) : ∃ ik n, k = .int ik n := by
  unfold keyEq at h
  split at h
  · exact ⟨_, _, rfl⟩
  · simp at h

theorem snd_look {t kt e : TypeId} {ik : IntKind} (hu : P.underlying t = some (.map kt e)) (hk : P.underlying kt = some (.int ik)) {z : AV} (hz : zeroT P e = some z) (hr : HRel κ θ rows w) {ok : Bool} {m k v : AV} {m' k' : Value}
    (hm : V θ m m') (hkV : V θ k k') (he : evalP rows (fun | .t 0 => m | _ => k) (.look z ok (.t 0) (.t 1)) = some v) : ∃ v', (Instr.lookup t m' k' ok).run P w = .ok v' w ∧ V θ v v' := by
  obtain ⟨z', hz1, hz2⟩ := run_zeroT (θ := θ) hz w
  have pair : ∀ {x : AV} {x' : Value} (b : Bool), V θ x x' → V θ (if ok then .tup [x, .bool b] else x) (if ok then .tuple #[x', .bool b] else x') := fun b h => by
    cases ok
    · exact h
    · have := VL.cons h (VL.cons (V.bool (θ := θ) b) (VL.nil θ))
      simpa using V.tup this.1 this.2
  simp only [evalP] at he
  split at he
  · rename_i id
    cases hm with
    | map hL =>
    rename_i L
    split at he
    case h_2 => simp at he
    rename_i es hrow
    obtain ⟨L', es', clock, hL', hb, hsz, hes⟩ := hr.row id _ hrow
    rw [hL] at hL'; injection hL' with hL'; subst hL'
    have key := fun r hf => findK_sound (θ := θ) rfl hkV es es'.toList 0 r (by simpa using hsz) (fun j e h => by simpa using hes j e h) hf (kt := .int ik)
    have hchk : (Instr.checkKey es'.isEmpty 10000 kt k').run P w = .ok () w := by
      have : ∀ d, (Instr.checkKey es'.isEmpty (d + 1) kt k').run P w = .ok () w := fun d => by simp [Instr.checkKey, run_underlying hk]
      exact this 9999
    split at he
    · rename_i j v1 hf
      obtain ⟨v', f1, f2, _⟩ := key _ hf
      injection he with he
      subst he
      refine ⟨_, ?_, pair true f2⟩
      simp [Instr.lookup, run_underlying hu, getObj, Sem.run, hb, hchk, Instr.findKey, run_underlying hk, f1]
    · rename_i hf
      have f1 := key _ hf
      injection he with he
      subst he
      refine ⟨_, ?_, pair false hz2⟩
      simp [Instr.lookup, run_underlying hu, getObj, Sem.run, hb, hchk, Instr.findKey, run_underlying hk, f1, hz1]
    · simp at he
  · cases hm
    split at he
    · rename_i b hq
      obtain ⟨ik', n, rfl⟩ := keyEq_self hq
      cases hkV
      injection he with he
      subst he
      refine ⟨_, ?_, pair false hz2⟩
      have hchk : ∀ d, (Instr.checkKey true (d + 1) kt (.int ik' n)).run P w = .ok () w := fun d => by simp [Instr.checkKey, run_underlying hk]
      simp [Instr.lookup, run_underlying hu, hchk 9999, Instr.findKey, run_underlying hk, Instr.findNow, hz1]
    · simp at he
  · simp at he
end ops
end Go.Abs
