/- The soundness of the operations that write nothing, all together. -/
import Derived.Test.YtiejbjajbehcfaaDoorA5
import Derived.Laws.Tables
set_option linter.unusedVariables false
set_option linter.unusedSimpArgs false
namespace Go.Abs
variable {κ : KRel}
section ops
variable {P : Program} {gl : List Nat} {θ : Th} {rows : List Row} {w : World} {sl : List AV} {a : Act}

/-! ### Aggregates that are built -/
theorem fold_splice_from (off : Nat) : ∀ (l : List Value) (k : Nat) (cells : Array Value), off + k + l.length ≤ cells.size →
    (l.zipIdx k).foldl (fun (cs : Array Value) (p : Value × Nat) => cs.setIfInBounds (off + p.2) p.1) cells = (cells.toList.take (off + k) ++ l ++ cells.toList.drop (off + k + l.length)).toArray
  | [], k, cells, h => by simp
  | c :: l, k, cells, h => by
    simp only [List.length_cons] at h
    have hk : off + k < cells.size := by omega
    rw [List.zipIdx_cons, List.foldl_cons, fold_splice_from off l (k + 1) _ (by simp; omega)]
    congr 1
    have hk' : off + k < cells.toList.length := by simpa using hk
    rw [Array.toList_setIfInBounds, ← Nat.add_assoc, List.take_add_one, List.getElem?_set_self hk', List.take_set_of_le (Nat.le_refl _), List.drop_set_of_lt (by omega)]
    simp only [Option.toList_some, List.length_cons, List.append_assoc, List.singleton_append, List.cons_append, List.nil_append]
    congr 4
    omega

theorem fold_splice (v cells : Array Value) (off : Nat) (h : off + v.size ≤ cells.size) :
    v.zipIdx.foldl (fun cs (c, j) => cs.setIfInBounds (off + j) c) cells = (cells.toList.take off ++ v.toList ++ cells.toList.drop (off + v.size)).toArray := by
  have := fold_splice_from off v.toList 0 cells (by simpa using h)
  simp only [Nat.add_zero, Array.length_toList] at this
  rw [← this, ← Array.foldl_toList, Array.toList_zipIdx]

theorem VL.splice {vs l : List AV} {vs' l' : List Value} (h : VL θ vs vs') (hl : VL θ l l') (off : Nat) : VL θ (splice vs off l) (vs'.take off ++ l' ++ vs'.drop (off + l'.length)) := by
  have := ((h.take off).append hl).append (h.drop (off + l.length))
  rw [hl.1] at this
  unfold Abs.splice
  rw [hl.1]
  exact this

/-- The places of the parts, in the program and here. -/
def PL (gl : List Nat) (place : Nat → Option (Nat × Nat)) : List (Nat × Nat × Opd) → List (Nat × Operand) → Prop
  | [], [] => True
  | p :: ps, q :: qs => place q.1 = some (p.1, p.2.1) ∧ p.2.2 = co gl q.2 ∧ PL gl place ps qs
  | _, _ => False

theorem fillA_sound (hg : GRel θ gl) (hs : SRel θ sl a.tmps) (place : Nat → Option (Nat × Nat)) : ∀ (ps : List (Nat × Nat × Opd)) (qs : List (Nat × Operand)) (zs cs : List AV) (zs' : Array Value), PL gl place ps qs →
    fillA (getO sl) ps zs = some cs → VL θ zs zs'.toList → ∃ cs', Instr.fill place zs' (qs.map fun (i, x) => (i, a.eval x)) = some cs' ∧ VL θ cs cs'.toList
  | [], [], zs, cs, zs', hp, hf, hz => by
    simp only [fillA, Option.some.injEq] at hf
    subst hf
    exact ⟨zs', rfl, hz⟩
  | p :: ps, q :: qs, zs, cs, zs', hp, hf, hz => by
    obtain ⟨off, size, x⟩ := p
    obtain ⟨i, y⟩ := q
    obtain ⟨h1, h2, h3⟩ := hp
    simp only at h1 h2
    subst h2
    simp only [fillA] at hf
    split at hf
    case isFalse => simp at hf
    rename_i hc
    obtain ⟨c1, c2, c3⟩ := hc
    have hv := V.cells (opd_V hg hs y) c3
    have hsz : (a.eval y).cells.size = size := by have := hv.1; simp at this; omega
    have hzs : zs'.size = zs.length := by have := hz.1; simp at this; omega
    have hle : off + (a.eval y).cells.size ≤ zs'.size := by omega
    obtain ⟨cs', e1, e2⟩ := fillA_sound hg hs place ps qs _ cs ((zs'.toList.take off ++ (a.eval y).cells.toList ++ zs'.toList.drop (off + (a.eval y).cells.size)).toArray) h3 hf (by
      have := hz.splice hv off
      simpa using this)
    refine ⟨cs', ?_, e2⟩
    simp only [List.map_cons, Instr.fill, h1]
    rw [if_neg (by simp [hsz]; omega), fold_splice _ _ _ hle]
    exact e1
  | [], q :: qs, zs, cs, zs', hp, hf, hz => hp.elim
  | p :: ps, [], zs, cs, zs', hp, hf, hz => hp.elim

theorem PL_cplaces (pl : List (Nat × Nat)) : ∀ (qs : List (Nat × Operand)) (ps : List (Nat × Nat × Opd)), cplaces gl pl qs = some ps → PL gl (pl.toArray[·]?) ps qs
  | [], ps, h => by simp only [cplaces, Option.some.injEq] at h; subst h; exact trivial
  | (i, x) :: qs, ps, h => by
    simp only [cplaces] at h
    split at h
    · rename_i p l e1 e2
      injection h with h
      subst h
      exact ⟨by simpa using e1, rfl, PL_cplaces pl qs l e2⟩
    · simp at h
theorem PL_eplaces (n : Nat) : ∀ (qs : List (Nat × Operand)), PL gl (fun i => some (i * n, n)) (eplaces gl n qs) qs
  | [] => trivial
  | (i, x) :: qs => ⟨rfl, rfl, PL_eplaces n qs⟩

theorem cv_cells (v : Value) (h : (cv v).cells.all AV.one = true) : VL θ (cv v).cells v.cells.toList := V.cells (cv_V θ v) h

theorem snd_build {t : TypeId} {ps : Array (Nat × Operand)} {z : AV} (hz : zeroT P t = some z) (hg : GRel θ gl) (hs : SRel θ sl a.tmps) (hzo : z.cells.all AV.one = true) {io : List (Nat × Nat × Opd)} {cs : List AV} (he : fillA (getO sl) io z.cells = some cs)
    (hk : (∃ fs pl, P.underlying t = some (.struct fs) ∧ placesT P fs = some pl ∧ cplaces gl pl ps.toList = some io) ∨ (∃ m e n, P.underlying t = some (.array m e) ∧ szT P e = some n ∧ io = eplaces gl n ps.toList)) :
    ∃ v', (Instr.build t (ps.map fun (i, x) => (i, a.eval x))).run P w = .ok v' w ∧ V θ (.agg cs) v' := by
  obtain ⟨i, v, hi, hv, rfl⟩ := zeroT_info hz
  have hcells := cv_cells (θ := θ) v hzo
  rcases hk with ⟨fs, pl, hu, hp, hc⟩ | ⟨m, e, n, hu, hn, rfl⟩
  · obtain ⟨cs', e1, e2⟩ := fillA_sound hg hs _ io ps.toList _ cs v.cells (PL_cplaces pl _ _ hc) he hcells
    refine ⟨.agg cs', ?_, ?_⟩
    · have hpl := run_places (P := P) w fs.toList pl hp
      simp [Instr.build, run_underlying hu, typeInfo, zeroValue, hi, hv, Array.mapM_eq_mapM_toList, hpl]
      simp at e1
      rw [e1]
      rfl
    · have := V.agg (θ := θ) e2.1 e2.2
      simpa using this
  · obtain ⟨cs', e1, e2⟩ := fillA_sound hg hs _ _ ps.toList _ cs v.cells (PL_eplaces n _) he hcells
    refine ⟨.agg cs', ?_, ?_⟩
    · simp [Instr.build, run_underlying hu, typeInfo, zeroValue, hi, hv, run_szT hn]
      simp at e1
      rw [e1]
      rfl
    · have := V.agg (θ := θ) e2.1 e2.2
      simpa using this
end ops
end Go.Abs
