/- The soundness of the operations that write nothing: the theorem. -/
import Derived.Test.YtiejbjajbehcfaaDoorA7
set_option linter.unusedVariables false
set_option linter.unusedSimpArgs false
namespace Go.Abs
variable {κ : KRel}
section ops
variable {P : Program} {gl : List Nat} {θ : Th} {rows : List Row} {w : World} {sl : List AV} {a : Act}

theorem opds_V' (hg : GRel θ gl) (hs : SRel θ sl a.tmps) (xs : Array Operand) : VL θ ((xs.toList.map (co gl)).map (getO sl)) (xs.map a.eval).toList := by
  have := opds_V (a := a) hg hs xs.toList
  simpa using this

theorem evalP_sound {o : Oper} {io : IOp} (hc : cop P gl o = some io) {v : AV} (he : evalP rows (getO sl) io = some v) (hr : HRel κ θ rows w) (hg : GRel θ gl) (hs : SRel θ sl a.tmps) :
    Yld P θ w a o v := by
  obtain ⟨dst, op, ty, pos, aft, gd⟩ := o
  unfold Yld
  cases op <;> simp only [cop, reduceCtorEq] at hc
  case move x =>
    injection hc with hc; subst hc
    simp only [evalP, Option.some.injEq] at he
    subst he
    exact ⟨_, rfl, opd_V hg hs x⟩
  case assign x =>
    injection hc with hc; subst hc
    simp only [evalP, Option.some.injEq] at he
    subst he
    exact ⟨_, rfl, opd_V hg hs x⟩
  case pick c x y =>
    injection hc with hc; subst hc
    simp only [evalP] at he
    have hcV := opd_V hg hs c
    split at he
    · rename_i t e
      rw [e] at hcV
      injection he with he; subst he
      have : a.eval c = .bool t := by generalize a.eval c = z at *; cases hcV; rfl
      cases t
      · exact ⟨a.eval y, by simp [execOp, this, asBool], opd_V hg hs y⟩
      · exact ⟨a.eval x, by simp [execOp, this, asBool], opd_V hg hs x⟩
    · simp at he
  case alloc t => simp only [Option.map_eq_some_iff] at hc; obtain ⟨z, _, rfl⟩ := hc; simp [evalP] at he
  case box t x => injection hc with hc; subst hc; simp [evalP] at he
  case build t ps =>
    split at hc
    · rename_i z fs hz hu
      split at hc
      · rename_i pl hpl
        split at hc
        · rename_i hzo
          simp only [Option.map_eq_some_iff] at hc
          obtain ⟨l, hl, rfl⟩ := hc
          simp only [evalP, Option.map_eq_some_iff] at he
          obtain ⟨cs, hcs, rfl⟩ := he
          obtain ⟨v', h1, h2⟩ := snd_build (P := P) (w := w) hz hg hs hzo hcs (.inl ⟨fs, pl, hu, hpl, hl⟩)
          exact ⟨v', yld_of h1, h2⟩
        · simp at hc
      · simp at hc
    · rename_i z m e hz hu
      split at hc
      · rename_i n hn
        split at hc
        · rename_i hzo
          injection hc with hc; subst hc
          simp only [evalP, Option.map_eq_some_iff] at he
          obtain ⟨cs, hcs, rfl⟩ := he
          obtain ⟨v', h1, h2⟩ := snd_build (P := P) (w := w) hz hg hs hzo hcs (.inr ⟨m, e, n, hu, hn, rfl⟩)
          exact ⟨v', yld_of h1, h2⟩
        · simp at hc
      · simp at hc
    · simp at hc
  case buildSlice t len ps =>
    split at hc
    · split at hc
      · split at hc
        · injection hc with hc; subst hc; simp [evalP] at he
        · simp at hc
      · simp at hc
    · simp at hc
  case load t x =>
    split at hc
    · rename_i n hag hn
      injection hc with hc; subst hc
      simp only [evalP] at he
      split at he
      · rename_i id off e
        split at he
        · rename_i vs hrow
          simp only [Option.map_eq_some_iff] at he
          obtain ⟨l, hl, rfl⟩ := he
          obtain ⟨v', h1, h2⟩ := snd_loadN (P := P) hr (opd_V hg hs x) hag hn e hrow hl
          exact ⟨v', yld_of h1, h2⟩
        · simp at he
      · simp at he
    · rename_i n hag hn
      injection hc with hc; subst hc
      simp only [evalP] at he
      split at he
      · rename_i id off e
        split at he
        · rename_i vs hrow
          obtain ⟨v', h1, h2⟩ := snd_load1 (P := P) hr (opd_V hg hs x) hag e hrow he
          exact ⟨v', yld_of h1, h2⟩
        · simp at he
      · simp at he
    · simp at hc
  case store t x y =>
    split at hc
    · injection hc with hc; subst hc; simp [evalP] at he
    · split at hc
      · injection hc with hc; subst hc; simp [evalP] at he
      · simp at hc
    · simp at hc
  case nilCheck x =>
    injection hc with hc; subst hc
    simp only [evalP] at he
    have hx := opd_V hg hs x
    split at he <;> first | (simp at he; done) | skip
    all_goals
      rename_i e
      rw [e] at hx
      injection he with he; subst he
      refine ⟨a.eval x, ?_, hx⟩
      generalize hq : a.eval x = z at *
      cases hx
      simp [execOp, hq]
  case binOp op t x y ty2 =>
    have hx := opd_V hg hs x
    have hy := opd_V hg hs y
    have eqcase : ∀ (kd : EqK), kdOk P t kd → (op = .eql ∨ op = .neq) → evalP rows (getO sl) (.eqv (op == .neq) kd (co gl x) (co gl y)) = some v → ∃ v', (execOp a.eval ⟨dst, .binOp op t x y ty2, ty, pos, aft, gd⟩).run P w = .ok (.value v') w ∧ V θ v v' := by
      intro kd hk hop he
      simp only [evalP, Option.map_eq_some_iff] at he
      obtain ⟨r, hr1, rfl⟩ := he
      have := eqA_sound hk hr1 hx hy x y op hop w
      exact ⟨_, yld_of this, by rcases hop with rfl | rfl <;> simpa using V.bool _⟩
    have bincase : evalP rows (getO sl) (.bin op (co gl x) (co gl y)) = some v → ∃ v', (execOp a.eval ⟨dst, .binOp op t x y ty2, ty, pos, aft, gd⟩).run P w = .ok (.value v') w ∧ V θ v v' := by
      intro he
      obtain ⟨v', h1, h2⟩ := snd_bin (P := P) (w := w) (t := t) (ty := ty) hg hs (show binA op (getO sl (co gl x)) (getO sl (co gl y)) = some v from he)
      exact ⟨v', yld_of h1, h2⟩
    split at hc
    · split at hc <;> first | (simp at hc; done) | skip
      · injection hc with hc; subst hc; exact bincase he
      · rename_i hu; injection hc with hc; subst hc; exact eqcase .bool hu (.inl rfl) he
      · rename_i hu; injection hc with hc; subst hc; exact eqcase .slice ⟨_, hu⟩ (.inl rfl) he
      · rename_i hu; injection hc with hc; subst hc; exact eqcase .func ⟨_, _, _, hu⟩ (.inl rfl) he
      · rename_i hu; injection hc with hc; subst hc; exact eqcase .ptr ⟨_, hu⟩ (.inl rfl) he
      all_goals
        split at hc
        · rename_i n hn
          split at hc
          · simp at hc
          · rename_i hq; injection hc with hc; subst hc; exact eqcase (.ints n) ⟨hn, by simpa using hq⟩ (.inl rfl) he
        · simp at hc
    · split at hc <;> first | (simp at hc; done) | skip
      · injection hc with hc; subst hc; exact bincase he
      · rename_i hu; injection hc with hc; subst hc; exact eqcase .bool hu (.inr rfl) he
      · rename_i hu; injection hc with hc; subst hc; exact eqcase .slice ⟨_, hu⟩ (.inr rfl) he
      · rename_i hu; injection hc with hc; subst hc; exact eqcase .func ⟨_, _, _, hu⟩ (.inr rfl) he
      · rename_i hu; injection hc with hc; subst hc; exact eqcase .ptr ⟨_, hu⟩ (.inr rfl) he
      all_goals
        split at hc
        · rename_i n hn
          split at hc
          · simp at hc
          · rename_i hq; injection hc with hc; subst hc; exact eqcase (.ints n) ⟨hn, by simpa using hq⟩ (.inr rfl) he
        · simp at hc
    · injection hc with hc; subst hc; exact bincase he
  case unOp op t x =>
    injection hc with hc; subst hc
    obtain ⟨v', h1, h2⟩ := unA_sound (P := P) (show unA op _ = some v from he) (opd_V hg hs x) w
    exact ⟨v', yld_of h1, h2⟩
  case convert s d x =>
    split at hc
    · rename_i k1 k h1 h2
      injection hc with hc; subst hc
      simp only [evalP] at he
      have hx := opd_V hg hs x
      split at he
      · rename_i k2 n e
        rw [e] at hx
        injection he with he; subst he
        refine ⟨.int k (k.wrap n), ?_, .int _ _⟩
        generalize hq : a.eval x = z at *
        cases hx
        simp [execOp, convert, run_underlying h1, run_underlying h2, hq, Conv.intToInt]
      · simp at he
    · simp at hc
  case makeInterface t x =>
    split at hc
    · simp at hc
    · rename_i d hd hu
      injection hc with hc; subst hc
      simp only [evalP, Option.some.injEq] at he
      subst he
      refine ⟨.iface t (a.eval x), ?_, .iface (opd_V hg hs x)⟩
      cases d <;> first | exact (hd _ rfl).elim | simp [execOp, Instr.makeInterface, run_underlying hu]
    · simp at hc
  case makeFunc fn fi cs =>
    cases fn <;> simp only [reduceCtorEq] at hc
    rename_i f
    split at hc
    · rename_i h0
      injection hc with hc; subst hc
      simp only [evalP, Option.some.injEq] at he
      subst he
      have hv := opds_V' (a := a) hg hs cs
      have h0' : fi = #[] := by simpa using h0
      subst h0'
      refine ⟨.func (.func f) #[] (cs.map a.eval), by simp [execOp, Instr.makeFunc], ?_⟩
      have := V.func (f := f) hv.1 hv.2
      rw [Array.toArray_toList] at this
      exact this
    · simp at hc
  case makeMap t r =>
    cases r with
    | none => injection hc with hc; subst hc; simp [evalP] at he
    | some r => simp at hc
  case makeSlice t l c =>
    split at hc
    · split at hc
      · split at hc
        · injection hc with hc; subst hc; simp [evalP] at he
        · simp at hc
      · simp at hc
    · simp at hc
  case slice t x lo hi mx =>
    split at hc
    · rename_i e hu
      simp only [Option.map_eq_some_iff] at hc
      obtain ⟨n, hn, rfl⟩ := hc
      obtain ⟨v', h1, h2⟩ := sliceV_sound (P := P) hu hn (show sliceV n _ _ _ _ = some v from he) (opd_V hg hs x) (opdO_V hg hs lo) (opdO_V hg hs hi) (opdO_V hg hs mx) w
      exact ⟨v', yld_of (by simp only [Instr.sliceAt, Sem.run_bind, run_underlying hu, Result.andThen_ok]; exact h1), h2⟩
    · rename_i m e hu
      simp only [Option.map_eq_some_iff] at hc
      obtain ⟨n, hn, rfl⟩ := hc
      obtain ⟨v', h1, h2⟩ := sliceAV_sound (P := P) hu hn (show sliceAV m n _ _ _ _ = some v from he) (opd_V hg hs x) (opdO_V hg hs lo) (opdO_V hg hs hi) (opdO_V hg hs mx) w
      exact ⟨v', yld_of h1, h2⟩
    · simp at hc
  case fieldAddr t x f =>
    split at hc
    · rename_i fs hu
      split at hc
      · rename_i fd hfd
        split at hc
        · rename_i n hn
          split at hc
          · simp at hc
          · rename_i h0
            injection hc with hc; subst hc
            simp only [evalP] at he
            have hx := opd_V hg hs x
            split at he
            · rename_i id off e
              rw [e] at hx
              injection he with he; subst he
              generalize hq : a.eval x = z at *
              cases hx with
              | ptr hL =>
              rename_i L
              refine ⟨.pointer (some ⟨L.b, L.d + (off + fd.offset), none⟩), ?_, .ptr hL⟩
              have hfd' : fs[f]? = some fd := hfd
              simp [execOp, hq, Instr.fieldAt, run_underlying hu, hfd', Instr.sureAddr, fieldPlace, run_szT hn, h0, addr_add, Nat.add_assoc]
            · simp at he
        · simp at hc
      · simp at hc
    · simp at hc
  case field t x f =>
    split at hc
    · rename_i fs hu
      split at hc
      · rename_i fd hfd
        have hfd' : fs[f]? = some fd := hfd
        have hx := opd_V hg hs x
        have main : ∀ (ag : Bool) (n : Nat), aggT P fd.type = some ag → szT P fd.type = some n → ∀ l, getO sl (co gl x) = .agg l → (if ag then (seg l fd.offset n).map .agg else l[fd.offset]?) = some v →
            ∃ v', (execOp a.eval ⟨dst, .field t x f, ty, pos, aft, gd⟩).run P w = .ok (.value v') w ∧ V θ v v' := by
          intro ag n h1 h2 l e h3
          rw [e] at hx
          generalize hq : a.eval x = z at *
          cases hx with
          | agg p q =>
          obtain ⟨v', r1, r2⟩ := snd_part (P := P) (w := w) h1 h2 ⟨p, q⟩ fd.offset h3
          exact ⟨v', yld_of (by simp [hq, Instr.field, run_underlying hu, hfd', asAgg, r1]), r2⟩
        split at hc
        · rename_i n h1 h2
          injection hc with hc; subst hc
          simp only [evalP] at he
          split at he
          · rename_i l e; exact main true n h1 h2 l e he
          · simp at he
        · rename_i n h1 h2
          injection hc with hc; subst hc
          simp only [evalP] at he
          split at he
          · rename_i l e; exact main false n h1 h2 l e he
          · simp at he
        · simp at hc
      · simp at hc
    · simp at hc
  case indexAddr t x i =>
    have hx := opd_V hg hs x
    have hi := opd_V hg hs i
    split at hc
    · rename_i len e hu
      simp only [Option.map_eq_some_iff] at hc
      obtain ⟨n, hn, rfl⟩ := hc
      simp only [evalP] at he
      split at he
      · rename_i id off k m e1 e2
        rw [e1] at hx; rw [e2] at hi
        split at he
        · rename_i j hj
          injection he with he; subst he
          obtain ⟨b1, b2, b3⟩ := idx?_some hj
          generalize hq : a.eval x = z at *
          generalize hq2 : a.eval i = z2 at *
          cases hi
          cases hx with
          | ptr hL =>
          rename_i L
          refine ⟨.pointer (some ⟨L.b, L.d + (off + j * n), none⟩), yld_of ?_, .ptr hL⟩
          simp [hq, hq2, Instr.indexAt, asIntOf, run_underlying hu, Instr.sureAddr, b1, b2, run_szT hn, addr_add, b3, Nat.add_assoc]
        · simp at he
      · simp at he
    · rename_i e hu
      simp only [Option.map_eq_some_iff] at hc
      obtain ⟨n, hn, rfl⟩ := hc
      simp only [evalP] at he
      split at he
      · rename_i id off len c k m e1 e2
        rw [e1] at hx; rw [e2] at hi
        split at he
        · rename_i j hj
          injection he with he; subst he
          obtain ⟨b1, b2, b3⟩ := idx?_some hj
          generalize hq : a.eval x = z at *
          generalize hq2 : a.eval i = z2 at *
          cases hi
          cases hx with
          | sliceAt hL ho hlc =>
            rename_i o L
            have := ho (by omega)
            subst this
            refine ⟨.pointer (some ⟨L.b, L.d + (off + j * n), none⟩), yld_of ?_, .ptr hL⟩
            simp [hq, hq2, Instr.indexAt, asIntOf, run_underlying hu, b1, b2, run_szT hn, addr_add, b3, Nat.add_assoc]
          | sliceOp hL ho hto hlc =>
            rename_i cc o L
            have := ho (by omega)
            subst this
            refine ⟨.pointer (some ⟨L.b, L.d + (off + j * n), none⟩), yld_of ?_, .ptr hL⟩
            simp [hq, hq2, Instr.indexAt, asIntOf, run_underlying hu, b1, b2, run_szT hn, addr_add, b3, Nat.add_assoc]
        · simp at he
      · simp at he
    · simp at hc
  case index t x i =>
    have hx := opd_V hg hs x
    have hi := opd_V hg hs i
    split at hc
    · rename_i len e hu
      split at hc
      · rename_i ag n h1 h2
        injection hc with hc; subst hc
        simp only [evalP] at he
        split at he
        · rename_i l k m e1 e2
          rw [e1] at hx; rw [e2] at hi
          split at he
          · rename_i j hj
            obtain ⟨b1, b2, b3⟩ := idx?_some hj
            generalize hq : a.eval x = z at *
            generalize hq2 : a.eval i = z2 at *
            cases hi
            cases hx with
            | agg p q =>
            obtain ⟨v', r1, r2⟩ := snd_part (P := P) (w := w) h1 h2 ⟨p, q⟩ (j * n) he
            exact ⟨v', yld_of (by simp [hq, hq2, Instr.index, asIntOf, run_underlying hu, b1, b2, b3, run_szT h2, r1]), r2⟩
          · simp at he
        · simp at he
      · simp at hc
    · simp at hc
  case lookup t m k ok =>
    split at hc
    · rename_i kt e hu
      split at hc
      · rename_i ik z hk hz
        split at hc
        · injection hc with hc; subst hc
          have hm := opd_V hg hs m
          have hkV := opd_V hg hs k
          obtain ⟨v', h1, h2⟩ := snd_look (P := P) (v := v) hu hk hz hr (ok := ok) hm hkV (by simpa only [evalP] using he)
          exact ⟨v', yld_of h1, h2⟩
        · simp at hc
      · simp at hc
    · simp at hc
  case mapUpdate t m k x =>
    split at hc
    · split at hc
      · injection hc with hc; subst hc; simp [evalP] at he
      · simp at hc
    · simp at hc
  case extract x i =>
    injection hc with hc; subst hc
    simp only [evalP] at he
    have hx := opd_V hg hs x
    split at he
    · rename_i l e
      rw [e] at hx
      generalize hq : a.eval x = z at *
      cases hx with
      | tup p q =>
      rename_i l'
      obtain ⟨v', r1, r2⟩ := VL.get ⟨p, q⟩ he
      exact ⟨v', yld_of (by simp [hq, Instr.extract, r1]), r2⟩
    · simp at he
  case call c =>
    obtain ⟨callee, args, ats⟩ := c
    cases callee with
    | value f => simp only [Option.some.injEq] at hc; subst hc; simp [evalP] at he
    | invoke r m => simp at hc
    | builtin b =>
      cases b <;> simp only [reduceCtorEq] at hc
      case len =>
        split at hc
        · rename_i t x ht hx0
          have hx := opd_V hg hs x
          split at hc
          · rename_i n e hu
            injection hc with hc; subst hc
            simp only [evalP, Option.some.injEq] at he
            subst he
            exact ⟨_, by simp [execOp, resolve, invoke, builtin, Builtin.len_, ht, hx0, run_underlying hu, goInt], .int _ _⟩
          · rename_i e hu
            injection hc with hc; subst hc
            simp only [evalP] at he
            split at he <;> first | (simp at he; done) | skip
            all_goals (rename_i h0 e1; first | (simp at h0; done) | skip)
            all_goals
              rw [e1] at hx
              injection he with he; subst he
              generalize hq : a.eval x = z at *
              cases hx <;> exact ⟨_, by simp [execOp, resolve, invoke, builtin, Builtin.len_, ht, hx0, hq, run_underlying hu, goInt], .int _ _⟩
          · rename_i hu
            injection hc with hc; subst hc
            simp only [evalP] at he
            split at he <;> first | (simp at he; done) | skip
            all_goals (rename_i h0 e1; first | (simp at h0; done) | skip)
            rw [e1] at hx
            injection he with he; subst he
            generalize hq : a.eval x = z at *
            cases hx
            exact ⟨_, by simp [execOp, resolve, invoke, builtin, Builtin.len_, ht, hx0, hq, run_underlying hu, goInt], .int _ _⟩
          · rename_i kt e hu
            injection hc with hc; subst hc
            simp only [evalP] at he
            split at he <;> first | (simp at he; done) | skip
            all_goals (rename_i h0 e1; first | (simp at h0; done) | skip)
            split at he
            case h_2 => simp at he
            rename_i es hrow
            rw [e1] at hx
            injection he with he; subst he
            generalize hq : a.eval x = z at *
            cases hx with
            | map hL =>
            obtain ⟨L', es', clock, hL', hb, hsz, hes⟩ := hr.row _ _ hrow
            rw [hL] at hL'; injection hL' with hL'; subst hL'
            refine ⟨.int .i64 es'.size, by simp [execOp, resolve, invoke, builtin, Builtin.len_, ht, hx0, hq, run_underlying hu, goInt, getObj, Sem.run, hb], ?_⟩
            rw [hsz]; exact .int _ _
          · simp at hc
        · simp at hc
      case cap =>
        split at hc
        · rename_i t x ht hx0
          have hx := opd_V hg hs x
          split at hc
          · rename_i e hu
            injection hc with hc; subst hc
            simp only [evalP] at he
            split at he <;> first | (simp at he; done) | skip
            all_goals
              rename_i e1
              rw [e1] at hx
              injection he with he; subst he
              generalize hq : a.eval x = z at *
              cases hx <;> exact ⟨_, by simp [execOp, resolve, invoke, builtin, Builtin.cap_, ht, hx0, hq, run_underlying hu, goInt], .int _ _⟩
          · simp at hc
        · simp at hc
      case max =>
        injection hc with hc; subst hc
        simp only [evalP] at he
        have hv := opds_V' (a := a) hg hs args
        split at he
        · rename_i x r e
          rw [e] at hv
          obtain ⟨x', r', e', h1, h2⟩ := hv.of_cons
          obtain ⟨v', k1, k2⟩ := foldMx_sound (P := P) (w := w) r x v r' x' he h2 h1
          refine ⟨v', ?_, k2⟩
          have e'' : (args.map a.eval).toList = x' :: r' := e'
          simp only [execOp, resolve, invoke, builtin, Sem.run_bind, Sem.run_pure, Result.andThen_ok, Builtin.max_, e'', k1]
        · simp at he
      case min =>
        injection hc with hc; subst hc
        simp only [evalP] at he
        have hv := opds_V' (a := a) hg hs args
        split at he
        · rename_i x r e
          rw [e] at hv
          obtain ⟨x', r', e', h1, h2⟩ := hv.of_cons
          obtain ⟨v', k1, k2⟩ := foldMn_sound (P := P) (w := w) r x v r' x' he h2 h1
          refine ⟨v', ?_, k2⟩
          have e'' : (args.map a.eval).toList = x' :: r' := e'
          simp only [execOp, resolve, invoke, builtin, Sem.run_bind, Sem.run_pure, Result.andThen_ok, Builtin.min_, e'', k1]
        · simp at he
      case append =>
        split at hc
        · split at hc
          · split at hc
            · simp at hc
            split at hc
            · split at hc
              · injection hc with hc; subst hc; simp [evalP] at he
              · simp at hc
            · simp at hc
          · split at hc
            · split at hc
              · injection hc with hc; subst hc; simp [evalP] at he
              · simp at hc
            · simp at hc
          · simp at hc
        · simp at hc
end ops
end Go.Abs
