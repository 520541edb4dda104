/- The soundness of append and of maps that are written. -/
import Derived.Test.YtiejbjajbehcfaaDoorA10
set_option linter.unusedVariables false
set_option linter.unusedSimpArgs false
namespace Go.Abs
variable {κ : KRel}
section ops
variable {P : Program} {gl : List Nat} {θ : Th} {rows : List Row} {w : World} {sl : List AV} {a : Act} {low : Nat}

theorem run_app_room {t ty e : TypeId} {i : TypeInfo} (ht : P.underlying t = some (.slice e)) (hi : P.info? e = some i)
    (b off sLen sCap : Nat) (p : Addr) (m c : Nat) (news : List Value) (hl : news.length = m * i.size) (hnews : ∀ j u, news[j]? = some u → w.cell? (p.add j) = some u) (h1 : ∀ u ∈ news, u.oneCell' = true)
    (hroom : sLen + m ≤ sCap) {cur : Array Value} {T : TypeId} (hb : w.heap[b]? = some (.cells cur T (0, 0))) (hfit : off + sLen * i.size + news.length ≤ cur.size) :
    (Builtin.append_ #[t, t] ty #[.slice (some ⟨b, off, none⟩) sLen sCap, .slice (some p) m c]).run P w =
      .ok (.slice (some ⟨b, off, none⟩) (sLen + m) sCap) (w.setRow b (cur.toList.take (off + sLen * i.size) ++ (news ++ cur.toList.drop (off + sLen * i.size + news.length))).toArray) := by
  have hfc := run_firstCells_some (P := P) w i.size m p m c news hl hnews
  have hst := run_storeCells_at (P := P) b (off + sLen * i.size) T news 0 cur w hb (by omega) h1
  simp only [Nat.add_zero, List.append_assoc] at hst
  simp [Builtin.append_, run_underlying ht, sizeOf, typeInfo, hi, Builtin.lenOf, hroom, hfc, addr_add, hst]

theorem run_app_none {t ty e : TypeId} {i : TypeInfo} (ht : P.underlying t = some (.slice e)) (hi : P.info? e = some i) (p q : Option Addr) (n cap c : Nat) (hn : n ≤ cap) :
    (Builtin.append_ #[t, t] ty #[.slice p n cap, .slice q 0 c]).run P w = .ok (.slice p n cap) w := by
  cases p <;> cases q <;> simp [Builtin.append_, run_underlying ht, sizeOf, typeInfo, hi, Builtin.lenOf, hn, Builtin.firstCells, loadCells, loadCellsFrom, storeCells]

theorem elems_sound (hr : HRel κ θ rows w) {x : AV} {x' : Value} (hx : V θ x x') {sz : Nat} {ys : List AV} {m : Nat} (he : elems rows sz x = some (ys, m)) :
    (m = 0 ∧ ∃ q c, x' = .slice q 0 c) ∨ (0 < m ∧ ∃ p c ys', x' = .slice (some p) m c ∧ VL θ ys ys' ∧ ys'.length = m * sz ∧ (∀ j u, ys'[j]? = some u → w.cell? (p.add j) = some u) ∧ ∀ u ∈ ys', u.oneCell' = true) := by
  unfold elems at he
  split at he
  · injection he with he
    simp only [Prod.mk.injEq] at he
    cases hx
    exact .inl ⟨he.2.symm, _, _, rfl⟩
  · rename_i id off n cap
    split at he
    case h_2 => simp at he
    rename_i vs hrow
    simp only [Option.map_eq_some_iff, Prod.mk.injEq] at he
    obtain ⟨l, hl, rfl, rfl⟩ := he
    rcases Nat.eq_zero_or_pos n with h0 | h0
    · subst h0
      cases hx <;> exact .inl ⟨rfl, _, _, rfl⟩
    · refine .inr ⟨h0, ?_⟩
      cases hx with
      | sliceAt hL ho hlc =>
        rename_i o L
        have := ho (by omega); subst this
        obtain ⟨l', h1, h2, h3, h4⟩ := hr.readSeg hrow hL hl
        exact ⟨_, _, l', rfl, h1, h2, h3, h4⟩
      | sliceOp hL ho hto hlc =>
        rename_i cc o L
        have := ho (by omega); subst this
        obtain ⟨l', h1, h2, h3, h4⟩ := hr.readSeg hrow hL hl
        exact ⟨_, _, l', rfl, h1, h2, h3, h4⟩
  · simp at he

/-- The new row of an append that grows. -/
theorem grown_Fr (hr : HRel κ θ rows w) (hlow : low ≤ rows.length) {vs : List AV} {vs' : List Value} (hv : VL θ vs vs') (hone : ∀ u ∈ vs', u.oneCell' = true) (rest : Array Value) (T : TypeId) (c : Array Value) (hc : c.toList = vs' ++ rest.toList) :
    Fr κ θ (θ.add rows.length ⟨w.heap.size, 0, c.size⟩) rows (rows ++ [.cells vs]) low low w (w.drew.alloc (.cells c T)) := by
  refine Fr.push (w' := w.drew.alloc (.cells c T)) hr low hlow (.cells c T) rfl rfl rfl rfl 0 c.size (.cells vs) ⟨_, c, T, Th.add_self _ _ _, heap_alloc_new w.drew _, ⟨?_, rfl, ?_⟩⟩ rfl
  · have : c.size = vs'.length + rest.size := by rw [← Array.length_toList, hc]; simp
    have := hv.1
    simp only [Nat.zero_add]; omega
  · intro j x hx
    obtain ⟨x', p, q⟩ := hv.get hx
    refine ⟨x', ?_, q.mono (Th.ext_add hr.none_len _), hone _ (List.mem_of_getElem? p)⟩
    have hj : j < vs'.length := (List.getElem?_eq_some_iff.1 p).1
    rw [Nat.zero_add, ← Array.getElem?_toList, hc, List.getElem?_append_left hj]
    exact p

theorem grown_V {n m sz c : Nat} {θ : Th} {rows : List Row} {B top : Nat} (hcap : n + m ≤ c) (hsz : c * sz ≤ top) :
    V (θ.add rows.length ⟨B, 0, top⟩) (.slice rows.length 0 (n + m) (.op sz)) (.slice (some ⟨B, 0, none⟩) (n + m) c) :=
  .sliceOp (L := ⟨B, 0, top⟩) (Th.add_self _ _ _) (fun _ => rfl) (by simpa using hsz) hcap

theorem size_grown {z : Value} {sz : Nat} (hz : z.cells.size = sz) {need cap : Nat} (h : need ≤ cap) {l : List Value} (hl : l.length = need * sz) {A : Array Value} (hA : A.toList = l ++ (Builtin.zeroCells z.cells (cap - need)).toList) : A.size = cap * sz := by
  have := congrArg List.length hA
  rw [Array.length_toList (xs := A), List.length_append, Array.length_toList (xs := Builtin.zeroCells z.cells (cap - need)), size_zeroCells, hz, hl, ← Nat.add_mul] at this
  rw [this]
  congr 1; omega

theorem lim_ok {n b : Nat} (h : ¬ lim < n) (hb : b ≤ 1024) : (n : Int) ≤ 9223372036854775807 ∧ n * b ≤ 140737488355328 := by
  unfold lim at h
  refine ⟨by omega, ?_⟩
  have : n * b ≤ 1073741824 * 1024 := Nat.mul_le_mul (by omega) hb
  omega

theorem snd_app (hr : HRel κ θ rows w) (hlow : low ≤ rows.length) {t ty e : TypeId} (hu : P.underlying t = some (.slice e)) {i : TypeInfo} (hi : P.info? e = some i) {z : Value} (hz : i.zero = some z) (hzs : z.cells.size = i.size) (hpos : 0 < i.size) (hby : i.bytes ≤ 1024)
    {s x : Opd} {g : Opd → AV} {s' x' : Value} (hs : V θ (g s) s') (hx : V θ (g x) x') {v : AV} {rows' : List Row} {low' : Nat} {by_ : Nat} (he : evalE g rows low (.app i.size by_ s x) = some (v, rows', low')) :
    ∃ θ' w' v', (Builtin.append_ #[t, t] ty #[s', x']).run P w = .ok v' w' ∧ V θ' v v' ∧ Fr κ θ θ' rows rows' low low' w w' := by
  simp only [evalE] at he
  split at he
  · simp at he
  rename_i ys m hel
  have hE := elems_sound hr hx hel
  split at he
  · rename_i hm
    rcases hE with ⟨_, q, c, rfl⟩ | ⟨h, _⟩
    case inr => omega
    split at he <;> first | (simp at he; done) | skip
    · rename_i e1
      rw [e1] at hs
      simp only [Option.some.injEq, Prod.mk.injEq] at he
      obtain ⟨rfl, rfl, rfl⟩ := he
      cases hs
      exact ⟨θ, w, _, run_app_none hu hi _ _ _ _ _ (Nat.le_refl _), .nilslice, Fr.refl hr low⟩
    · rename_i id off n cap e1
      rw [e1] at hs
      simp only [Option.some.injEq, Prod.mk.injEq] at he
      obtain ⟨rfl, rfl, rfl⟩ := he
      have hs0 := hs
      cases hs with
      | sliceAt hL ho hlc => exact ⟨θ, w, _, run_app_none hu hi _ _ _ _ _ hlc, hs0, Fr.refl hr low⟩
      | sliceOp hL ho hto hlc => exact ⟨θ, w, _, run_app_none hu hi _ _ _ _ _ hlc, hs0, Fr.refl hr low⟩
  · rename_i hm
    rcases hE with ⟨h, _⟩ | ⟨hm0, p, c, ys', rfl, hy, hyl, hyc, hy1⟩
    · omega
    split at he
    · simp at he
    rename_i hlim
    split at he
    · -- a nil slice
      rename_i e1
      rw [e1] at hs
      simp only [Option.some.injEq, Prod.mk.injEq] at he
      obtain ⟨rfl, rfl, rfl⟩ := he
      cases hs
      obtain ⟨l1, l2⟩ := lim_ok hlim hby
      have hrun := run_append_nil (P := P) w t ty e i z hu hi hz p m c ys' hyl hyc hm0 l1 (by omega)
      have hge := grownCap_ge w m 0 e
      refine ⟨_, _, _, hrun, ?_, grown_Fr hr hlow hy hy1 (Builtin.zeroCells z.cells (grownCap w m 0 e - m)) e _ (by simp)⟩
      have hsz := size_grown (z := z) hzs hge hyl (A := ys'.toArray ++ Builtin.zeroCells z.cells (grownCap w m 0 e - m)) (by rw [Array.toList_append])
      have := grown_V (θ := θ) (rows := rows) (B := w.heap.size) (n := 0) (m := m) (sz := i.size) (c := grownCap w m 0 e) (top := (ys'.toArray ++ Builtin.zeroCells z.cells (grownCap w m 0 e - m)).size) (by omega) (by omega)
      simpa using this
    · -- a capacity that is known
      rename_i id off n cap e1
      rw [e1] at hs
      cases hs with
      | sliceAt hL ho hlc =>
      rename_i o L
      split at he
      · simp at he
      rename_i hlim2
      split at he
      · rename_i hroom
        split at he
        case h_2 => simp at he
        rename_i vs hid
        split at he
        case isFalse => simp at he
        rename_i hfit
        simp only [Option.some.injEq, Prod.mk.injEq] at he
        obtain ⟨rfl, rfl, rfl⟩ := he
        have := ho (by omega); subst this
        obtain ⟨L', c0, T, hL', hb, hc⟩ := hr.row id _ hid
        rw [hL] at hL'; injection hL' with hL'; subst hL'
        have hyy : ys.length = ys'.length := hy.1
        have h2 := hc.1
        have hrun := run_app_room (P := P) (w := w) (ty := ty) hu hi L.b (L.d + off) n cap p m c ys' hyl hyc hy1 hroom hb (by omega)
        refine ⟨θ, _, _, hrun, .sliceAt hL (fun _ => rfl) hroom, setRow_Fr hr hid hL hb ?_⟩
        have := hc.splice hy hy1 (off := off + n * i.size) (by omega)
        rw [← Nat.add_assoc] at this
        exact this
      · rename_i hroom
        split at he
        case h_2 => simp at he
        rename_i vs hrow
        split at he
        case h_2 => simp at he
        rename_i xs hxs
        simp only [Option.some.injEq, Prod.mk.injEq] at he
        obtain ⟨rfl, rfl, rfl⟩ := he
        obtain ⟨l1, l2⟩ := lim_ok hlim2 hby
        obtain ⟨xs', hxV, hxl, hxc, hx1⟩ := hr.readSeg hrow hL hxs
        have hxc' : ∀ j u, xs'[j]? = some u → w.cell? ((⟨L.b, o, none⟩ : Addr).add j) = some u := fun j u hj => by
          have hjl : j < xs'.length := (List.getElem?_eq_some_iff.1 hj).1
          have hn0 : 0 < n := by
            rcases Nat.eq_zero_or_pos n with h | h
            · subst h; simp at hxl; subst hxl; simp at hjl
            · exact h
          have := ho (by omega); subst this
          exact hxc j u hj
        have hrun := run_append_grow (P := P) w t ty e i z hu hi hz ⟨L.b, o, none⟩ n cap xs' hxl hxc' p m c ys' hyl hyc (by omega) (by omega) (growslice_fits (by omega) l2)
        have hge := grownCap_ge w (n + m) cap e
        have hlist : (xs'.toArray ++ ys'.toArray ++ Builtin.zeroCells z.cells (grownCap w (n + m) cap e - (n + m))).toList = (xs' ++ ys') ++ (Builtin.zeroCells z.cells (grownCap w (n + m) cap e - (n + m))).toList := by rw [Array.toList_append, Array.toList_append]
        refine ⟨_, _, _, hrun, ?_, grown_Fr hr hlow (hxV.append hy) (fun u hu => by rcases List.mem_append.1 hu with h | h; exact hx1 u h; exact hy1 u h) _ e _ hlist⟩
        have hsz := size_grown (z := z) hzs hge (l := xs' ++ ys') (by rw [List.length_append, hxl, hyl, Nat.add_mul]) hlist
        exact grown_V hge (Nat.le_of_eq hsz.symm)
    · -- a capacity that is not known
      rename_i id off n sz' e1
      rw [e1] at hs
      cases hs with
      | sliceOp hL ho hto hlc =>
      rename_i cc o L
      split at he
      · simp at he
      rename_i hlim2
      have hsz' : sz' = i.size := by
        rcases Nat.decEq sz' i.size with h | h
        · exact absurd (.inr h) hlim2
        · exact h
      subst hsz'
      have hlim3 : ¬ lim < n + m := fun h => hlim2 (.inl h)
      split at he
      case h_2 => simp at he
      rename_i vs hid
      split at he
      case h_2 => simp at he
      rename_i xs hxs
      simp only [Option.some.injEq, Prod.mk.injEq] at he
      obtain ⟨rfl, rfl, rfl⟩ := he
      obtain ⟨l1, l2⟩ := lim_ok hlim3 hby
      have hrow : row? rows id = some vs := by simp [row?, hid]
      obtain ⟨xs', hxV, hxl, hxc, hx1⟩ := hr.readSeg hrow hL hxs
      obtain ⟨L', c0, T, hL', hb, hc⟩ := hr.row id _ hid
      rw [hL] at hL'; injection hL' with hL'; subst hL'
      have hxc' : ∀ j u, xs'[j]? = some u → w.cell? ((⟨L.b, o, none⟩ : Addr).add j) = some u := fun j u hj => by
        have hjl : j < xs'.length := (List.getElem?_eq_some_iff.1 hj).1
        have hn0 : 0 < n := by
          rcases Nat.eq_zero_or_pos n with h | h
          · subst h; simp at hxl; subst hxl; simp at hjl
          · exact h
        have := ho (by omega); subst this
        exact hxc j u hj
      have hone : ∀ u ∈ xs' ++ ys', u.oneCell' = true := fun u hu => by rcases List.mem_append.1 hu with h | h; exact hx1 u h; exact hy1 u h
      by_cases hroom : n + m ≤ cc
      · have htop := hc.2.1
        have hfit : o + n * i.size + ys'.length ≤ c0.size := by
          have : (n + m) * i.size ≤ cc * i.size := Nat.mul_le_mul_right _ hroom
          rw [Nat.add_mul] at this
          omega
        have hrun := run_app_room (P := P) (w := w) (ty := ty) hu hi L.b o n cc p m c ys' hyl hyc hy1 hroom hb hfit
        refine ⟨θ.add rows.length ⟨L.b, o, L.top⟩, _, _, hrun, ?_, Fr.turn hr low hlow hid rfl hL (by simp) (fun k hk => setRow_other w L.b k _ hk) rfl rfl rfl o L.top (.cells (xs ++ ys)) ⟨⟨L.b, o, L.top⟩, _, T, Th.add_self _ _ _, setRow_heap w L.b c0 _ T (0, 0) hb, ⟨?_, ?_, ?_⟩⟩ rfl⟩
        · exact .sliceOp (L := ⟨L.b, o, L.top⟩) (Th.add_self _ _ _) (fun _ => rfl) hto hroom
        · have := hxV.1; have := hy.1
          simp; omega
        · simp; omega
        · intro j x hx
          have e1 : (List.take (o + n * i.size) c0.toList).length = o + n * i.size := by simp; omega
          rw [List.getElem?_toArray]
          simp only
          rcases Nat.lt_or_ge j xs.length with h | h
          · rw [List.getElem?_append_left h] at hx
            obtain ⟨x', q1, q2⟩ := hxV.get hx
            have := hxV.1
            refine ⟨x', ?_, q2.mono (Th.ext_add hr.none_len _), hx1 _ (List.mem_of_getElem? q1)⟩
            rw [List.getElem?_append_left (by omega), List.getElem?_take_of_lt (by omega)]
            have := hxc' j x' q1
            rw [addr_add] at this
            simpa [World.cell?, hb] using this
          · rw [List.getElem?_append_right h] at hx
            obtain ⟨x', q1, q2⟩ := hy.get hx
            have := hxV.1
            have hjl := (List.getElem?_eq_some_iff.1 q1).1
            refine ⟨x', ?_, q2.mono (Th.ext_add hr.none_len _), hy1 _ (List.mem_of_getElem? q1)⟩
            rw [List.getElem?_append_right (by omega), e1, List.getElem?_append_left (by omega), show o + j - (o + n * i.size) = j - xs.length from by omega]
            exact q1
      · have hrun := run_append_grow (P := P) w t ty e i z hu hi hz ⟨L.b, o, none⟩ n cc xs' hxl hxc' p m c ys' hyl hyc (by omega) (by omega) (growslice_fits (by omega) l2)
        have hge := grownCap_ge w (n + m) cc e
        have hlist : (xs'.toArray ++ ys'.toArray ++ Builtin.zeroCells z.cells (grownCap w (n + m) cc e - (n + m))).toList = (xs' ++ ys') ++ (Builtin.zeroCells z.cells (grownCap w (n + m) cc e - (n + m))).toList := by rw [Array.toList_append, Array.toList_append]
        have hk := Fr.kill hr low id
        have hg := grown_Fr (low := lower low id) hk.rel (by simp; exact Nat.le_trans (lower_le _ _) hlow) (hxV.append hy) hone _ e _ hlist
        simp only [List.length_set] at hg
        refine ⟨_, _, _, hrun, ?_, Fr.trans hr hk hg⟩
        have hsz := size_grown (z := z) hzs hge (l := xs' ++ ys') (by rw [List.length_append, hxl, hyl, Nat.add_mul]) hlist
        exact grown_V hge (Nat.le_of_eq hsz.symm)
    · simp at he

/-- append(nil, make(..)...) -/
theorem snd_appz (hr : HRel κ θ rows w) (hlow : low ≤ rows.length) {t u ty e : TypeId} (hu : P.underlying t = some (.slice e)) {k : IntKind} (hu2 : P.underlying u = some (.int k)) {i : TypeInfo} (hi : P.info? e = some i) {z : Value} (hz : i.zero = some z) (hzs : (cv z).cells.length = 1) (hz1 : (cv z).cells.all AV.one = true) (hsz : i.size = 1) (hby : i.bytes ≤ 1024)
    {s x : Opd} {g : Opd → AV} {s' x' : Value} (hs : V θ (g s) s') (hx : V θ (g x) x') {v : AV} {rows' : List Row} {low' : Nat} (he : evalE g rows low (.appz (cv z).cells s x) = some (v, rows', low')) :
    ∃ θ' w' v', (Builtin.append_ #[t, u] ty #[s', x']).run P w = .ok v' w' ∧ V θ' v v' ∧ Fr κ θ θ' rows rows' low low' w w' := by
  simp only [evalE] at he
  split at he
  case h_2 => simp at he
  rename_i k' n e1 e2
  split at he
  case isFalse => simp at he
  rename_i hc
  obtain ⟨h0, h1⟩ := hc
  simp only [Option.some.injEq, Prod.mk.injEq] at he
  obtain ⟨rfl, rfl, rfl⟩ := he
  rw [e1] at hs
  rw [e2] at hx
  cases hs
  cases hx
  have hzV := cv_cells (θ := θ) z hz1
  have hzl : z.cells.size = 1 := by have := hzV.1; simp at this; omega
  have hn1 : n ≤ 1073741824 := by unfold lim at h1; omega
  have w1 : IntKind.i64.wrap n = n := by simp [IntKind.wrap, IntKind.min, IntKind.max, IntKind.signed, IntKind.bits]; omega
  obtain ⟨m, rfl⟩ : ∃ m : Nat, n = m := ⟨n.toNat, by omega⟩
  have hm0 : m ≠ 0 := by omega
  have hm : 0 < m := by omega
  have hge := grownCap_ge w m 0 e
  have hb : m * i.bytes ≤ 1073741824 * 1024 := Nat.mul_le_mul (by omega) hby
  have hb2 : ¬ (281474976710656 < (m : Int) * (i.bytes : Int)) := by
    have : (m : Int) * (i.bytes : Int) = ((m * i.bytes : Nat) : Int) := by simp
    omega
  have h48 : ¬ (281474976710656 < Builtin.nextslicecap m 0 * i.bytes) := by rw [nextslicecap_zero hm]; omega
  have h63 : ¬ (9223372036854775807 < (m : Int)) := by omega
  have hrun : (Builtin.append_ #[t, u] ty #[.slice none 0 0, .int k' m]).run P w =
      .ok (.slice (some ⟨w.heap.size, 0, none⟩) m (grownCap w m 0 e)) (w.drew.alloc (.cells (Builtin.zeroCells z.cells m ++ Builtin.zeroCells z.cells (grownCap w m 0 e - m)) e)) := by
    simp [Builtin.append_, run_underlying hu, run_underlying hu2, sizeOf, typeInfo, zeroValue, hi, hz, hsz, asInt, asIntOf, w1, hm0, hb2, h48, h63, Question.forced, run_firstCells_none, newRow, grownCap]
    intro h; omega
  have hzc : Builtin.zeroCells z.cells m = (Array.range (m * (cv z).cells.length)).map (z.cells[· % z.cells.size]!) := by
    unfold Builtin.zeroCells
    rw [hzl, hzs]
  have hvl := zeros_V hzV m (by omega)
  rw [← hzc] at hvl
  have hall : ((List.replicate m (cv z).cells).flatten).all AV.one = true := by
    refine List.all_eq_true.2 fun x hx => ?_
    obtain ⟨l, hl, hx⟩ := List.mem_flatten.1 hx
    rw [(List.mem_replicate.1 hl).2] at hx
    exact List.all_eq_true.1 hz1 x hx
  refine ⟨_, _, _, hrun, ?_, grown_Fr hr hlow hvl (ones_of hvl hall) (Builtin.zeroCells z.cells (grownCap w m 0 e - m)) e _ (by simp)⟩
  have hsz2 : (Builtin.zeroCells z.cells m ++ Builtin.zeroCells z.cells (grownCap w m 0 e - m)).size = grownCap w m 0 e * 1 := by
    rw [Array.size_append, size_zeroCells, size_zeroCells, hzl]; omega
  have := grown_V (θ := θ) (rows := rows) (B := w.heap.size) (n := 0) (m := m) (sz := 1) (c := grownCap w m 0 e) (top := (Builtin.zeroCells z.cells m ++ Builtin.zeroCells z.cells (grownCap w m 0 e - m)).size) (by omega) (by omega)
  simpa using this
end ops
end Go.Abs
