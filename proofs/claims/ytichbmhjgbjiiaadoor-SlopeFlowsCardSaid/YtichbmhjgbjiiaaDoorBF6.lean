/- The texts that the row uses, part 6. -/
import Derived.Test.YtichbmhjgbjiiaaDoorBF5
import Derived.AtR
import Derived.Orders
import Derived.KernelRfl
import Derived.Laws.Cells
import Derived.Laws.CopyRow
import Derived.Laws.Append
import Derived.Laws.AppendOwn
import Derived.Laws.Entries
import Derived.ArgAppend
import Derived.ChangeKeysEq
import Derived.WideLaws
import Derived.Laws.Small
import Derived.Laws.StructEq
import Derived.Laws.Cover3
import Derived.Laws.Tables
import Derived.Laws.Rows
import Derived.Below
import Derived.Laws.IdiomCopy
import Derived.RangeFuncNested
import Derived.Test.YtichbmhjgbjiiaaDoorProg
import Derived.Test.YtichbmhjgbjiiaaDoorRows
import Derived.ProofKit
import Derived.LaidMore
import Derived.OpenShut
import Derived.Stop.Joined
import Derived.ChangeSlices
import Derived.SizedLaws
import Derived.SevenTiedAt
import Derived.WalkKit
import Derived.ShutString
import Derived.ChangeOld
import Derived.Carry
set_option linter.unusedVariables false
set_option linter.unusedSimpArgs false
namespace Go.Abs
def Adj (ks : List Nat) (u v : Nat) : Prop := ∃ k ∈ ks, (k / 6 = u ∧ k % 6 = v) ∨ (k / 6 = v ∧ k % 6 = u)
inductive Cn (ks : List Nat) : Nat → Nat → Prop
  | refl (u : Nat) : Cn ks u u
  | step {u v w : Nat} : Cn ks u v → Adj ks v w → Cn ks u w
theorem Adj.symm {ks : List Nat} {u v : Nat} (h : Adj ks u v) : Adj ks v u := by
  obtain ⟨k, hk, h⟩ := h
  exact ⟨k, hk, h.symm⟩
theorem Cn.trans {ks : List Nat} {u v w : Nat} (h1 : Cn ks u v) (h2 : Cn ks v w) : Cn ks u w := by
  induction h2 with
  | refl => exact h1
  | step _ a ih => exact .step ih a
theorem Cn.symm {ks : List Nat} {u v : Nat} (h : Cn ks u v) : Cn ks v u := by
  induction h with
  | refl => exact .refl _
  | step _ a ih => exact Cn.trans (.step (.refl _) a.symm) ih
def Lst (ks : List Nat) (v : Nat) : Prop := ∀ u, Cn ks v u → v ≤ u
theorem Lst_ex {ks : List Nat} : ∀ v, ∃ u, Cn ks v u ∧ Lst ks u := by
  intro v
  induction v using Nat.strongRecOn with
  | ind v ih =>
    by_cases h : Lst ks v
    · exact ⟨v, .refl _, h⟩
    · obtain ⟨w, hw⟩ : ∃ w, ¬ (Cn ks v w → v ≤ w) := by
        apply Classical.byContradiction
        intro hn
        exact h fun u hu => Classical.byContradiction fun hc => hn ⟨u, fun hi => hc (hi hu)⟩
      have hc : Cn ks v w := Classical.byContradiction fun hc => hw fun hi => absurd hi hc
      have hlt : w < v := by
        apply Nat.lt_of_not_le
        intro hle
        exact hw fun _ => hle
      obtain ⟨u, hu1, hu2⟩ := ih w hlt
      exact ⟨u, hc.trans hu1, hu2⟩
theorem Cn_lt {N : Nat} {ks ps : List Nat} (hok : GOK N ks ps) {u v : Nat} (h : Cn ks u v) (hu : u < N) : v < N := by
  induction h with
  | refl => exact hu
  | step _ a _ =>
    obtain ⟨k, hk, h⟩ := a
    have := hok.ee k hk
    omega
open Classical in
noncomputable def cntL (ks : List Nat) : Nat → Nat
  | 0 => 0
  | i + 1 => cntL ks i + if Lst ks i then 1 else 0
theorem filter_lt {f g : Nat → Bool} : ∀ {l : List Nat}, (∀ x ∈ l, f x = true → g x = true) → (l.filter f).length ≤ (l.filter g).length ∧ ((∃ x ∈ l, g x = true ∧ f x = false) → (l.filter f).length < (l.filter g).length)
  | [], _ => ⟨Nat.le_refl _, fun ⟨x, hx, _⟩ => by simp at hx⟩
  | a :: l, h => by
    have ih := filter_lt (l := l) fun x hx => h x (List.mem_cons_of_mem _ hx)
    have ha := h a (List.mem_cons_self ..)
    constructor
    · cases hf : f a with
      | true => simp [hf, ha hf]; exact ih.1
      | false =>
        cases hg : g a with
        | true => simp [hf, hg]; have := ih.1; omega
        | false => simp [hf, hg]; exact ih.1
    · rintro ⟨x, hx, h1, h2⟩
      rcases List.mem_cons.1 hx with rfl | hx
      · simp [h1, h2]; have := ih.1; omega
      · have := ih.2 ⟨x, hx, h1, h2⟩
        cases hf : f a with
        | true => simp [hf, ha hf]; omega
        | false =>
          cases hg : g a with
          | true => simp [hf, hg]; omega
          | false => simp [hf, hg]; exact this
section
variable {N : Nat} {ks ps : List Nat}
def PIn (N : Nat) (ks : List Nat) (p : List Int) : Prop := p.length = N ∧ ∀ v, v < N → ∃ u : Nat, gI p v = u ∧ Cn ks v u
theorem gI_set_eq {c : List Int} {i : Nat} {x : Int} (h : i < c.length) : gI (c.set i x) i = x := by
  simp only [gI, List.getD_eq_getElem?_getD]
  rw [List.getElem?_set_self h]
  rfl
theorem gI_set {c : List Int} {i j : Nat} {x : Int} (h : i < c.length) : gI (c.set i x) j = if j = i then x else gI c j := by
  split
  · rename_i e; subst e; exact gI_set_eq h
  · rename_i e; exact gI_set_ne (fun h => e h.symm)
theorem pe_get {p : List Int} {i : Nat} (hl : (peS ks p i).length = N) (h1 : gN ks i / 6 < N) (h2 : gN ks i % 6 < N) (v : Nat) :
    gI (peS ks p (i + 1)) v = if v = gN ks i / 6 ∨ v = gN ks i % 6 then min (gI (peS ks p i) (gN ks i / 6)) (gI (peS ks p i) (gN ks i % 6)) else gI (peS ks p i) v := by
  rw [peS]
  rw [gI_set (by simp; omega), gI_set (by omega)]
  by_cases c1 : v = gN ks i % 6
  · rw [if_pos c1, if_pos (.inr c1)]
  · by_cases c2 : v = gN ks i / 6
    · rw [if_neg c1, if_pos c2, if_pos (.inl c2)]
    · rw [if_neg c1, if_neg c2, if_neg (by omega)]
theorem pe_adj {i : Nat} (hi : i < ks.length) : Adj ks (gN ks i / 6) (gN ks i % 6) := ⟨_, gN_mem hi, .inl ⟨rfl, rfl⟩⟩
theorem pe_in (hok : GOK N ks ps) {p : List Int} (h : PIn N ks p) : ∀ i, i ≤ ks.length → PIn N ks (peS ks p i)
  | 0, _ => h
  | i + 1, hi => by
    have ih := pe_in hok h i (by omega)
    have hee := hok.ee _ (gN_mem (show i < ks.length by omega))
    have ha := pe_adj (show i < ks.length by omega)
    refine ⟨by rw [peS_len]; exact h.1, fun v hv => ?_⟩
    rw [pe_get ih.1 (by omega) hee.2]
    obtain ⟨ua, ea, ca⟩ := ih.2 (gN ks i / 6) (by omega)
    obtain ⟨ub, eb, cb⟩ := ih.2 (gN ks i % 6) (by omega)
    split
    · rename_i hv2
      have hva : Cn ks v (gN ks i / 6) := by
        rcases hv2 with e | e
        · rw [e]; exact .refl _
        · rw [e]; exact .step (.refl _) ha.symm
      have hvb : Cn ks v (gN ks i % 6) := .step hva ha
      rw [ea, eb]
      by_cases c : ua ≤ ub
      · exact ⟨ua, by omega, hva.trans ca⟩
      · exact ⟨ub, by omega, hvb.trans cb⟩
    · exact ih.2 v hv
theorem pc_in (hok : GOK N ks ps) : ∀ r, PIn N ks (pcS ks N r)
  | 0 => ⟨pcS_len 0, fun v hv => ⟨v, by simp [pcS, gI, hv], .refl _⟩⟩
  | r + 1 => by
    rw [pcS]
    exact pe_in hok (pc_in hok r) _ (Nat.le_refl _)
theorem pe_keep (hok : GOK N ks ps) {p : List Int} (h : PIn N ks p) {u : Nat} (hu : Lst ks u) {v : Nat} (hv : v < N) : ∀ i j, i ≤ j → j ≤ ks.length → gI (peS ks p i) v = u → gI (peS ks p j) v = u := by
  intro i j hij hj
  induction j with
  | zero =>
    obtain rfl : i = 0 := by omega
    exact id
  | succ j ih =>
    intro hiv
    rcases Nat.eq_or_lt_of_le hij with e | e
    · rw [← e]; exact hiv
    · have hp := ih (by omega) (by omega) hiv
      have hin := pe_in hok h j (by omega)
      have hee := hok.ee _ (gN_mem (show j < ks.length by omega))
      have ha := pe_adj (show j < ks.length by omega)
      rw [pe_get hin.1 (by omega) hee.2]
      split
      · rename_i hv2
        obtain ⟨ua, ea, ca⟩ := hin.2 (gN ks j / 6) (by omega)
        obtain ⟨ub, eb, cb⟩ := hin.2 (gN ks j % 6) (by omega)
        have hva : Cn ks v (gN ks j / 6) := by
          rcases hv2 with e | e
          · rw [e]; exact .refl _
          · rw [e]; exact .step (.refl _) ha.symm
        have hvb : Cn ks v (gN ks j % 6) := .step hva ha
        obtain ⟨uv, ev, cv⟩ := hin.2 v hv
        have huv : uv = u := by omega
        rw [huv] at cv
        have h1 := hu ua (cv.symm.trans (hva.trans ca))
        have h2 := hu ub (cv.symm.trans (hvb.trans cb))
        rw [ea, eb]
        rcases hv2 with e | e
        · rw [e, ea] at hp; omega
        · rw [e, eb] at hp; omega
      · exact hp
def TB (p : List Int) (u : Nat) (v : Nat) : Bool := decide (gI p v = (u : Int))
def Clo (ks : List Nat) (p : List Int) (u : Nat) : Prop := ∀ k ∈ ks, gI p (k / 6) = (u : Int) ↔ gI p (k % 6) = (u : Int)
theorem pc_grow (hok : GOK N ks ps) {u : Nat} (hu : Lst ks u) (r : Nat) (hn : ¬ Clo ks (pcS ks N r) u) : ((List.range N).filter (TB (pcS ks N r) u)).length < ((List.range N).filter (TB (pcS ks N (r + 1)) u)).length := by
  have hin := pc_in hok r
  have hkeep := fun v (hv : v < N) => pe_keep hok hin hu hv 0 ks.length (Nat.zero_le _) (Nat.le_refl _)
  refine (filter_lt fun x hx h => ?_).2 ?_
  · have hx := List.mem_range.1 hx
    simp only [TB, decide_eq_true_eq] at h ⊢
    exact hkeep x hx h
  · obtain ⟨k, hk⟩ : ∃ k, ¬ (k ∈ ks → (gI (pcS ks N r) (k / 6) = (u : Int) ↔ gI (pcS ks N r) (k % 6) = (u : Int))) := by
      apply Classical.byContradiction
      intro h
      exact hn fun k hk => Classical.byContradiction fun hc => h ⟨k, fun hi => hc (hi hk)⟩
    have hkm : k ∈ ks := Classical.byContradiction fun hc => hk fun h => absurd h hc
    have hkn : ¬ (gI (pcS ks N r) (k / 6) = (u : Int) ↔ gI (pcS ks N r) (k % 6) = (u : Int)) := fun h => hk fun _ => h
    obtain ⟨i, hi, rfl⟩ := List.mem_iff_getElem.1 hkm
    rw [← gN_eq hi] at hkn
    have hee := hok.ee _ (gN_mem hi)
    have hin2 := pe_in hok hin i (by omega)
    -- both ends have it then
    have both : ∀ w, (w = gN ks i / 6 ∨ w = gN ks i % 6) → gI (pcS ks N r) w = (u : Int) → ∀ x, (x = gN ks i / 6 ∨ x = gN ks i % 6) → gI (pcS ks N (r + 1)) x = (u : Int) := by
      intro w hw hwu x hx
      have hwN : w < N := by rcases hw with e | e <;> omega
      have hxN : x < N := by rcases hx with e | e <;> omega
      have h1 := pe_keep hok hin hu hwN 0 i (Nat.zero_le _) (by omega) hwu
      have h2 := pe_keep hok hin hu hwN i (i + 1) (by omega) (by omega) h1
      rw [pe_get hin2.1 (by omega) hee.2, if_pos hw] at h2
      have h3 : gI (peS ks (pcS ks N r) (i + 1)) x = u := by
        rw [pe_get hin2.1 (by omega) hee.2, if_pos hx]; exact h2
      exact pe_keep hok hin hu hxN (i + 1) ks.length (by omega) (Nat.le_refl _) h3
    by_cases c : gI (pcS ks N r) (gN ks i / 6) = (u : Int)
    · have c2 : ¬ gI (pcS ks N r) (gN ks i % 6) = (u : Int) := fun h => hkn ⟨fun _ => h, fun _ => c⟩
      exact ⟨gN ks i % 6, List.mem_range.2 (by omega), by simp only [TB, decide_eq_true_eq]; exact both _ (.inl rfl) c _ (.inr rfl), by simp only [TB, decide_eq_false_iff_not]; exact c2⟩
    · have c2 : gI (pcS ks N r) (gN ks i % 6) = (u : Int) := Classical.byContradiction fun h => hkn ⟨fun h1 => absurd h1 c, fun h1 => absurd h1 h⟩
      exact ⟨gN ks i / 6, List.mem_range.2 (by omega), by simp only [TB, decide_eq_true_eq]; exact both _ (.inr rfl) c2 _ (.inl rfl), by simp only [TB, decide_eq_false_iff_not]; exact c⟩
theorem pc_keep (hok : GOK N ks ps) {u : Nat} (hu : Lst ks u) {v : Nat} (hv : v < N) {r : Nat} (h : gI (pcS ks N r) v = (u : Int)) : ∀ d, gI (pcS ks N (r + d)) v = (u : Int)
  | 0 => h
  | d + 1 => by
    rw [← Nat.add_assoc, pcS]
    exact pe_keep hok (pc_in hok _) hu hv 0 ks.length (Nat.zero_le _) (Nat.le_refl _) (pc_keep hok hu hv h d)
theorem pc_least (hok : GOK N ks ps) {u v : Nat} (hu : Lst ks u) (huN : u < N) (hc : Cn ks u v) : gI (pcS ks N N) v = (u : Int) := by
  have h0 : gI (pcS ks N 0) u = (u : Int) := by simp [pcS, gI, huN]
  have hgrow : ∀ r, (∃ r', r' < r ∧ Clo ks (pcS ks N r') u) ∨ r + 1 ≤ ((List.range N).filter (TB (pcS ks N r) u)).length := by
    intro r
    induction r with
    | zero =>
      right
      have hm : u ∈ (List.range N).filter (TB (pcS ks N 0) u) := List.mem_filter.2 ⟨List.mem_range.2 huN, by simp [TB, h0]⟩
      exact List.length_pos_of_mem hm
    | succ r ih =>
      rcases ih with ⟨r', h1, h2⟩ | h
      · exact .inl ⟨r', by omega, h2⟩
      · by_cases c : Clo ks (pcS ks N r) u
        · exact .inl ⟨r, by omega, c⟩
        · right
          have := pc_grow hok hu r c
          omega
  have hle := List.length_filter_le (TB (pcS ks N N) u) (List.range N)
  rw [List.length_range] at hle
  obtain ⟨r, hr, hclo⟩ : ∃ r', r' < N ∧ Clo ks (pcS ks N r') u := by
    rcases hgrow N with h | h
    · exact h
    · omega
  have hall : gI (pcS ks N r) v = (u : Int) := by
    induction hc with
    | refl => simpa using pc_keep hok hu huN h0 r
    | step _ a ih =>
      obtain ⟨k, hk, e | e⟩ := a
      · rw [← e.2]; exact (hclo k hk).1 (by rw [e.1]; exact ih)
      · rw [← e.1]; exact (hclo k hk).2 (by rw [e.2]; exact ih)
  have := pc_keep hok hu (Cn_lt hok hc huN) hall (N - r)
  rwa [show r + (N - r) = N from by omega] at this
theorem pc_iff (hok : GOK N ks ps) {v : Nat} (hv : v < N) : gI (pcS ks N N) v = (v : Int) ↔ Lst ks v := by
  constructor
  · intro h
    obtain ⟨u, hu1, hu2⟩ := Lst_ex (ks := ks) v
    have := pc_least hok hu2 (Cn_lt hok hu1 hv) hu1.symm
    have : u = v := by omega
    rw [← this]; exact hu2
  · intro h
    exact pc_least hok h hv (.refl _)
theorem cnt_eq (hok : GOK N ks ps) : ∀ i, i ≤ N → cntS (pcS ks N N) i = cntL ks i
  | 0, _ => rfl
  | i + 1, hi => by
    rw [cntS, cntL, cnt_eq hok i (by omega)]
    have := pc_iff hok (show i < N by omega)
    by_cases c : Lst ks i
    · rw [if_pos c, if_pos (this.2 c)]
    · rw [if_neg c, if_neg (fun h => c (this.1 h))]
end
end Go.Abs

namespace Go.Abs
variable {F : Nat → Option IFn} {cx : Ctx} {k : List Itm} {r : AV × List Row × Nat → Prop}
theorem subI_pure {o : IOp} (h : o.pure = true) (g : Opd → AV) : (subI g o).pure = true := by cases o <;> first | rfl | simp [IOp.pure] at h
theorem evalG_p {B : Nat → List Row} {i d b n : Nat} {l : List (Nat × AV)} {op : IOp} {g : List (IOpx × Nat)} (hop : op.pure = true) :
    evalG (Ret F) B i ((⟨some d, op, none⟩, b) :: g) (mk n l) [] = (evP (B i) (subI (getO (mk n l)) op)).bind fun v => evalG (Ret F) B (i + 1) g (mk n ((d, v) :: l)) [] := by
  have h1 : opG F getO (mk n l) (B i ++ maskE b []) ((B i).length + ([] : List (Nat × Row)).length) ⟨some d, op, none⟩ = (evP (B i) (subI (getO (mk n l)) op)).map fun v => (v, B i, (B i).length) := by
    have h2 : opG F getO (mk n l) (B i ++ maskE b []) ((B i).length + ([] : List (Nat × Row)).length) ⟨some d, op, none⟩ = evE (B i ++ maskE b []) ((B i).length + ([] : List (Nat × Row)).length) (subI (getO (mk n l)) op) := by
      cases op <;> first | rfl | simp [IOp.pure] at hop
    rw [h2]
    simp only [maskE_nil, List.append_nil, List.length_nil, Nat.add_zero]
    exact evalE_pure (subI_pure hop _) _ _ _
  rw [evalG, opG_ok, h1]
  cases evP (B i) (subI (getO (mk n l)) op) with
  | none => rfl
  | some v => simp [putO, mk_set]
theorem evalG_p0 {B : Nat → List Row} {i b n : Nat} {l : List (Nat × AV)} {op : IOp} {g : List (IOpx × Nat)} (hop : op.pure = true) :
    evalG (Ret F) B i ((⟨none, op, none⟩, b) :: g) (mk n l) [] = (evP (B i) (subI (getO (mk n l)) op)).bind fun _ => evalG (Ret F) B (i + 1) g (mk n l) [] := by
  have h1 : opG F getO (mk n l) (B i ++ maskE b []) ((B i).length + ([] : List (Nat × Row)).length) ⟨none, op, none⟩ = (evP (B i) (subI (getO (mk n l)) op)).map fun v => (v, B i, (B i).length) := by
    have h2 : opG F getO (mk n l) (B i ++ maskE b []) ((B i).length + ([] : List (Nat × Row)).length) ⟨none, op, none⟩ = evE (B i ++ maskE b []) ((B i).length + ([] : List (Nat × Row)).length) (subI (getO (mk n l)) op) := by
      cases op <;> first | rfl | simp [IOp.pure] at hop
    rw [h2]
    simp only [maskE_nil, List.append_nil, List.length_nil, Nat.add_zero]
    exact evalE_pure (subI_pure hop _) _ _ _
  rw [evalG, opG_ok, h1]
  cases evP (B i) (subI (getO (mk n l)) op) with
  | none => rfl
  | some v => simp [putO]
theorem evalG_nil {B : Nat → List Row} {i : Nat} {sl : List AV} : evalG (Ret F) B i [] sl [] = some (sl, []) := rfl
section
variable {B : Nat → List Row} {i d b n : Nat} {l : List (Nat × AV)} {g : List (IOpx × Nat)}
theorem evalG_mv {x : Opd} : evalG (Ret F) B i ((⟨some d, .mv x, none⟩, b) :: g) (mk n l) [] = (evP (B i) (.mv (subO (getO (mk n l)) x))).bind fun v => evalG (Ret F) B (i + 1) g (mk n ((d, v) :: l)) [] := evalG_p rfl
theorem evalG_nilck {x : Opd} : evalG (Ret F) B i ((⟨some d, .nilck x, none⟩, b) :: g) (mk n l) [] = (evP (B i) (.nilck (subO (getO (mk n l)) x))).bind fun v => evalG (Ret F) B (i + 1) g (mk n ((d, v) :: l)) [] := evalG_p rfl
theorem evalG_fieldA {o : Nat} {x : Opd} : evalG (Ret F) B i ((⟨some d, .fieldA o x, none⟩, b) :: g) (mk n l) [] = (evP (B i) (.fieldA o (subO (getO (mk n l)) x))).bind fun v => evalG (Ret F) B (i + 1) g (mk n ((d, v) :: l)) [] := evalG_p rfl
theorem evalG_idxA {m z : Nat} {x y : Opd} : evalG (Ret F) B i ((⟨some d, .idxA m z x y, none⟩, b) :: g) (mk n l) [] = (evP (B i) (.idxA m z (subO (getO (mk n l)) x) (subO (getO (mk n l)) y))).bind fun v => evalG (Ret F) B (i + 1) g (mk n ((d, v) :: l)) [] := evalG_p rfl
theorem evalG_load1 {x : Opd} : evalG (Ret F) B i ((⟨some d, .load1 x, none⟩, b) :: g) (mk n l) [] = (evP (B i) (.load1 (subO (getO (mk n l)) x))).bind fun v => evalG (Ret F) B (i + 1) g (mk n ((d, v) :: l)) [] := evalG_p rfl
theorem evalG_bin {o : BinOp} {x y : Opd} : evalG (Ret F) B i ((⟨some d, .bin o x y, none⟩, b) :: g) (mk n l) [] = (evP (B i) (.bin o (subO (getO (mk n l)) x) (subO (getO (mk n l)) y))).bind fun v => evalG (Ret F) B (i + 1) g (mk n ((d, v) :: l)) [] := evalG_p rfl
theorem evalG_lenc {m : Nat} : evalG (Ret F) B i ((⟨none, .lenc m, none⟩, b) :: g) (mk n l) [] = evalG (Ret F) B (i + 1) g (mk n l) [] := by rw [evalG_p0 rfl]; rfl
end
end Go.Abs

namespace Go.Abs
variable {cx : Ctx} {k : List Itm} {r : AV × List Row × Nat → Prop}
theorem walk_ops {l0 : List (Nat × AV)} {R : List Row} {low : Nat} : Ex F cx (.ops [.one ⟨some 107, .idxA 6 1 (.t 106) (.t 92), none⟩, .one ⟨none, .store1 (.t 107) (.t 101), none⟩] :: k) ⟨mk 116 l0, R, low⟩ r ↔
    bnd (evP R (.idxA 6 1 (.c (lk l0 106)) (.c (lk l0 92)))) fun v => bnd (evE R low (.store1 (.c v) (.c (lk l0 101)))) fun q => Ex F cx k ⟨mk 116 ((107, v) :: l0), q.2.1, q.2.2⟩ r := by
  rw [Ex_runQ rfl]
  exact Iff.rfl
set_option maxHeartbeats 8000000 in
theorem walk_k10 {R : List Row} {W low A T : Nat} {D : List Int} {f : Int} {sl : List (Nat × AV)} (hW : R[W]? = some (.cells (nums .i64 D))) (hD : D.length = 13) (hA : A < 6) (hT : T < 6) (hlow : low ≤ W)
    (s5 : lk sl 5 = .ptr W 0) (s9 : lk sl 9 = .int .i64 A) (s14 : lk sl 14 = .int .i64 T) (s15 : lk sl 15 = .int .i64 f)
    (h : ∀ sl', (∀ j ∈ [1, 2, 5, 6, 8, 9, 10, 11, 14, 20, 21, 53, 54, 55, 60], lk sl' j = lk sl j) → Ex F cx k ⟨mk 116 sl', R.set W (.cells (nums .i64 ((D.set T A).set (6 + T) (IntKind.i64.wrap (gI D (6 + A) + f))))), low⟩ r) :
    Ex F cx (.code c78k10 :: k) ⟨mk 116 sl, R, low⟩ r := by
  have hWl := (List.getElem?_eq_some_iff.1 hW).1
  have hrow : row? R W = some (nums .i64 D) := by unfold row?; rw [hW]
  have hm : maskR R W T 1 = R.set W (.cells (splice (nums .i64 D) T [.any])) := by unfold maskR; rw [hW]; rfl
  have hld : (nums .i64 D)[6 + A]? = some (.int .i64 (gI D (6 + A))) := by rw [nums_get, gI_get (by omega)]; rfl
  have hrm : row? (R.set W (.cells (splice (nums .i64 D) T [.any]))) W = some (splice (nums .i64 D) T [.any]) := by unfold row?; rw [List.getElem?_set_self hWl]
  have hld2 : (splice (nums .i64 D) T [.any])[6 + A]? = some (.int .i64 (gI D (6 + A))) := by
    rw [splice_one _ _ _ (by simp [nums]; omega), List.getElem?_set_ne (by omega)]; exact hld
  have iA : idx? (A : Int) 6 = some A := by simp [hA]
  have iT : idx? (T : Int) 6 = some T := by simp [hT]
  rw [uc78k10, Ex_kill, kill_dead, Ex_ops, uc78r10, Ex_grpwR]
  simp [evalG_mv, evalG_nilck, evalG_fieldA, evalG_idxA, evalG_load1, evalG_bin, evalG_lenc, evalG_nil, subO, s5, s9, s14, s15, iA, iT, hrow, hld, hm, hrm, hld2, baseW, stored]
  refine ⟨W, T, ⟨rfl, rfl⟩, ?_⟩
  have tb : Nat.testBit 59379 10 = true := by decide
  have hlen : (nums .i64 D).length = 13 := by simp [nums, hD]
  have hset1 : (nums .i64 D).set T (.int .i64 A) = nums .i64 (D.set T A) := by simp [nums, List.map_set]
  have hset2 : (nums .i64 (D.set T A)).set (6 + T) (.int .i64 (IntKind.i64.wrap (gI D (6 + A) + f))) = nums .i64 ((D.set T A).set (6 + T) (IntKind.i64.wrap (gI D (6 + A) + f))) := by simp [nums, List.map_set]
  have hcel : cells? (R.set W (.cells (nums .i64 (D.set T A)))) W = some (nums .i64 (D.set T A)) := by unfold cells?; rw [List.getElem?_set_self hWl]
  have hlen2 : (nums .i64 (D.set T A)).length = 13 := by simp [nums, hD]
  have hlw : lower low W = low := lower_ge' hlow
  have hset3 : (R.set W (.cells (nums .i64 (D.set T A)))).set W (.cells (nums .i64 ((D.set T A).set (6 + T) (IntKind.i64.wrap (gI D (6 + A) + f))))) = R.set W (.cells (nums .i64 ((D.set T A).set (6 + T) (IntKind.i64.wrap (gI D (6 + A) + f))))) := by rw [List.set_set]
  rw [if_pos tb, hrow]
  simp only [Option.bind_some, hld, evP_bin, binA_add]
  refine ⟨_, _, rfl, _, by simp [hW, hlen, show T < 13 by omega, hset1]; rfl, ?_⟩
  rw [hlw]
  simp only [List.map_nil, List.append_nil]
  rw [walk_ops]
  simp [iT, hcel, hlen2, show 6 + T < 13 by omega, hset2, hset3, hlw]
  refine h _ ?_
  intro j hj
  simp only [List.mem_cons, List.not_mem_nil, or_false] at hj
  rcases hj with rfl | rfl | rfl | rfl | rfl | rfl | rfl | rfl | rfl | rfl | rfl | rfl | rfl | rfl | rfl <;> simp [s5, s9, s14]
end Go.Abs

namespace Go.Abs
def mpE (S : List Nat) : List (AV × AV) := S.map fun (v : Nat) => (AV.int .i64 (v : Int), AV.bool true)
theorem findK_mp {t : Nat} : ∀ (S : List Nat) (i : Nat), ∃ j, findK (.int .i64 (t : Int)) (mpE S) i = some (if t ∈ S then some (j, AV.bool true) else none)
  | [], i => ⟨0, by simp [mpE, findK]⟩
  | v :: S, i => by
    obtain ⟨j, hj⟩ := findK_mp (t := t) S (i + 1)
    by_cases c : t = v
    · refine ⟨i, ?_⟩
      subst c
      simp [mpE, findK, keyEq]
    · refine ⟨j, ?_⟩
      have e : mpE (v :: S) = (AV.int .i64 (v : Int), AV.bool true) :: mpE S := rfl
      have hk : keyEq (.int .i64 (t : Int)) (.int .i64 (v : Int)) = some false := by simp [keyEq]; omega
      rw [e, findK]
      simp only [hk, hj]
      simp [c]
theorem look_mp {R : List Row} {M t : Nat} {S : List Nat} (h : R[M]? = some (.mp (mpE S))) : evP R (.look (.bool false) false (.c (.map M)) (.c (.int .i64 t))) = some (.bool (decide (t ∈ S))) := by
  obtain ⟨j, hj⟩ := findK_mp (t := t) S 0
  show evalP R (getO []) _ = _
  unfold evalP
  simp only [getO, h, hj]
  by_cases c : t ∈ S <;> simp [c]
theorem mset_mp {R : List Row} {M t low : Nat} {S : List Nat} (h : R[M]? = some (.mp (mpE S))) (ht : t ∉ S) : evE R low (.mset (.c (.map M)) (.c (.int .i64 t)) (.c (.bool true))) = some (.tup [], R.set M (.mp (mpE (S ++ [t]))), lower low M) := by
  obtain ⟨j, hj⟩ := findK_mp (t := t) S 0
  rw [if_neg ht] at hj
  show evalE (getO []) R low _ = _
  unfold evalE
  have hk : (keyEq (.int .i64 (t : Int)) (.int .i64 (t : Int))).isSome = true := by simp [keyEq]
  have hm : mpE (S ++ [t]) = mpE S ++ [(AV.int .i64 (t : Int), AV.bool true)] := by simp [mpE]
  simp [getO, h, hj, hk, hm]
def Qu (b : Nat) (R : List Row) (x : AV) (q : List Nat) : Prop := ∃ id off c vs, x = .slice id off q.length c ∧ b ≤ id ∧ (c = .at_ q.length ∨ c = .op 1) ∧ R[id]? = some (.cells vs) ∧ seg vs off q.length = some (nums .i64 (q.map fun (v : Nat) => (v : Int)))
theorem Qu_push {b : Nat} {R : List Row} {x : AV} {q : List Nat} {t low : Nat} (h : Qu b R x q) (hlow : low ≤ b) (hq : q.length ≤ 100) :
    ∃ v' R', evE (R ++ [.cells [.int .i64 t]]) low (.app 1 8 (.c x) (.c (.slice R.length 0 1 (.at_ 1)))) = some (v', R', low) ∧ Qu b R' v' (q ++ [t]) ∧ (∀ i, i < R.length → i ≠ sid x → R'[i]? = R[i]?) ∧ R.length ≤ sid v' ∧ R.length ≤ R'.length := by
  obtain ⟨id, off, c, vs, rfl, hb, hc, hr, hs⟩ := h
  have hid := (List.getElem?_eq_some_iff.1 hr).1
  have hx : El (R ++ [.cells [.int .i64 t]]) 1 (.slice R.length 0 1 (.at_ 1)) [.int .i64 t] 1 := by
    unfold El elems
    simp [row_end, seg]
  have hcel : cells? (R ++ [.cells [.int .i64 t]]) id = some vs := by unfold cells?; rw [List.getElem?_append_left hid, hr]
  have hrw : row? (R ++ [.cells [.int .i64 t]]) id = some vs := by unfold row?; rw [List.getElem?_append_left hid, hr]
  have e : nums .i64 (q.map fun (v : Nat) => (v : Int)) ++ [.int .i64 t] = nums .i64 ((q ++ [t]).map fun (v : Nat) => (v : Int)) := by rw [List.map_append, ← nums_app]; rfl
  have hsg : seg (nums .i64 ((q ++ [t]).map fun (v : Nat) => (v : Int))) 0 (q ++ [t]).length = some (nums .i64 ((q ++ [t]).map fun (v : Nat) => (v : Int))) := by
    rw [nums_seg, if_pos (by simp), List.drop_zero, List.take_of_length_le (by simp)]
  rcases hc with rfl | rfl
  · refine ⟨_, _, app_at hrw (by simpa using hs) hx (by omega) (by simp [lim]; omega) (by omega), ⟨_, _, _, nums .i64 (q.map fun (v : Nat) => (v : Int)) ++ [.int .i64 t], by rw [show (q ++ [t]).length = q.length + 1 from by simp], ?_, .inr rfl, by rw [List.getElem?_append_right (Nat.le_refl _)]; simp, by rw [e]; exact hsg⟩, ?_, ?_, ?_⟩
    · simp; omega
    · intro i hi hne
      rw [List.append_assoc, List.getElem?_append_left hi]
    · simp
    · simp
  · have hap := app_op (low := low) (b := 8) hcel (by simpa using hs) hx (by omega) (by simp [lim]; omega)
    rw [lower_ge' (show low ≤ id by omega)] at hap
    refine ⟨_, _, hap, ⟨_, _, _, nums .i64 (q.map fun (v : Nat) => (v : Int)) ++ [.int .i64 t], by rw [show (q ++ [t]).length = q.length + 1 from by simp], ?_, .inr rfl, ?_, by rw [e]; exact hsg⟩, ?_, ?_, ?_⟩
    · simp; omega
    · rw [List.getElem?_append_right (by simp)]; simp
    · intro i hi hne
      simp only [sid_s] at hne
      rw [List.getElem?_append_left (by simp; omega), List.getElem?_set_ne (by omega), List.getElem?_append_left hi]
    · simp
    · simp; omega
theorem Qu_pop {b : Nat} {R : List Row} {x : AV} {a : Nat} {q : List Nat} (h : Qu b R x (a :: q)) : ∃ x', sliceV 1 x (some (.int .i64 1)) none none = some x' ∧ Qu b R x' q ∧ sid x' = sid x := by
  obtain ⟨id, off, c, vs, rfl, hb, hc, hr, hs⟩ := h
  have hsl := seg_len hs
  have hs2 : seg vs (off + 1) q.length = some (nums .i64 (q.map fun (v : Nat) => (v : Int))) := by
    unfold seg at hs ⊢
    split at hs
    · rename_i hle
      simp only [List.length_cons] at hle
      rw [if_pos (by omega)]
      injection hs with hs
      have h2 := congrArg (List.drop 1) hs
      rw [List.drop_take, List.drop_drop] at h2
      simp only [List.length_cons, Nat.add_sub_cancel] at h2
      rw [h2]
      simp [nums]
    · simp at hs
  rcases hc with rfl | rfl
  · by_cases c0 : q = []
    · subst c0
      refine ⟨.slice id off 0 (.at_ 0), by simp [sliceV, bound?], ⟨id, off, .at_ 0, vs, rfl, hb, .inl rfl, hr, ?_⟩, rfl⟩
      unfold seg at hs ⊢
      split at hs
      · rw [if_pos (by simp only [List.length_cons, List.length_nil] at *; omega)]; rfl
      · simp at hs
    · have hpos := List.length_pos_iff.2 c0
      refine ⟨.slice id (off + 1) q.length (.at_ q.length), ?_, ⟨id, off + 1, .at_ q.length, vs, rfl, hb, .inl rfl, hr, hs2⟩, rfl⟩
      have e1 : ((1 : Int) ≤ (q.length : Int) + 1) := by omega
      simp [sliceV, bound?, e1, c0]
  · refine ⟨.slice id (off + 1) q.length (.op 1), ?_, ⟨id, off + 1, .op 1, vs, rfl, hb, .inr rfl, hr, hs2⟩, rfl⟩
    have e1 : ((1 : Int) ≤ (q.length : Int) + 1) := by omega
    simp [sliceV, bound?, e1]
theorem Qu_head {b : Nat} {R : List Row} {x : AV} {a : Nat} {q : List Nat} (h : Qu b R x (a :: q)) : evP R (.idxS 1 (.c x) (.c (.int .i64 0))) = some (.ptr (sid x) (soff x)) ∧ evP R (.load1 (.c (.ptr (sid x) (soff x)))) = some (.int .i64 a) ∧ evP R (.len 0 (.c x)) = some (.int .i64 (q.length + 1 : Nat)) := by
  obtain ⟨id, off, c, vs, rfl, hb, hc, hr, hs⟩ := h
  have hl : IsL R (.slice id off (a :: q).length c) ((a :: q).map fun (v : Nat) => (v : Int)) := by
    unfold IsL El elems
    have hrw : row? R id = some vs := by unfold row?; rw [hr]
    simp only [hrw, Nat.mul_one, hs]
    simp
  have h1 := idxL0 (k := .i64) (i := 0) hl (by omega) (by simp)
  have h2 := loadL0 (j := 0) hl (by simp)
  refine ⟨by simpa using h1, by simpa [gI] using h2, rfl⟩
end Go.Abs

namespace Go.Abs
structure WS (rows : List Row) (G : List AV) (D : List Int) (S : List Nat) (R : List Row) : Prop where
  base : ∃ L, R = rows ++ L
  g : row? R rows.length = some G
  d : R[rows.length + 1]? = some (.cells (nums .i64 D))
  m : R[rows.length + 2]? = some (.mp (mpE S))
section
variable {rows R : List Row} {G : List AV} {D : List Int} {S : List Nat}
theorem WS.len (h : WS rows G D S R) : rows.length + 3 ≤ R.length := (List.getElem?_eq_some_iff.1 h.m).1
theorem WS.app (h : WS rows G D S R) (X : List Row) : WS rows G D S (R ++ X) := by
  have hl := h.len
  obtain ⟨⟨L, hL⟩, h2, h3, h4⟩ := h
  refine ⟨⟨L ++ X, by rw [hL, List.append_assoc]⟩, row?_old h2 X, ?_, ?_⟩
  · rw [List.getElem?_append_left (by omega)]; exact h3
  · rw [List.getElem?_append_left (by omega)]; exact h4
theorem base_set {rows R : List Row} {i : Nat} {x : Row} (h : ∃ L, R = rows ++ L) (hi : rows.length ≤ i) : ∃ L, R.set i x = rows ++ L := by
  obtain ⟨L, rfl⟩ := h
  exact ⟨L.set (i - rows.length) x, by rw [List.set_append_right _ _ hi]⟩
theorem WS.setD (h : WS rows G D S R) (D' : List Int) : WS rows G D' S (R.set (rows.length + 1) (.cells (nums .i64 D'))) := by
  have hl := h.len
  refine ⟨base_set h.base (by omega), ?_, by rw [List.getElem?_set_self (by omega)], by rw [List.getElem?_set_ne (by omega)]; exact h.m⟩
  have := h.g
  unfold row? at this ⊢
  rw [List.getElem?_set_ne (by omega)]
  exact this
theorem WS.setS (h : WS rows G D S R) (S' : List Nat) : WS rows G D S' (R.set (rows.length + 2) (.mp (mpE S'))) := by
  have hl := h.len
  refine ⟨base_set h.base (by omega), ?_, by rw [List.getElem?_set_ne (by omega)]; exact h.d, by rw [List.getElem?_set_self (by omega)]⟩
  have := h.g
  unfold row? at this ⊢
  rw [List.getElem?_set_ne (by omega)]
  exact this
theorem WS.of (h : WS rows G D S R) {R' : List Row} (hl : R.length ≤ R'.length) {o : Nat} (ho : rows.length + 3 ≤ o) (he : ∀ i, i < R.length → i ≠ o → R'[i]? = R[i]?) : WS rows G D S R' := by
  have hlen := h.len
  refine ⟨?_, ?_, ?_, ?_⟩
  · have hb := h.base
    have hS : Sm rows.length o rows R' := by
      obtain ⟨L, rfl⟩ := hb
      refine ⟨by simp at hl; omega, fun i h1 h2 => ?_⟩
      rw [he i (by simp; omega) h2, List.getElem?_append_left h1]
    exact Sm_split hS (by omega)
  · have := h.g
    unfold row? at this ⊢
    rw [he _ (by omega) (by omega)]
    exact this
  · rw [he _ (by omega) (by omega)]; exact h.d
  · rw [he _ (by omega) (by omega)]; exact h.m
theorem Qu_set {b i : Nat} {R : List Row} {x : AV} {q : List Nat} {y : Row} (h : Qu b R x q) (hi : i < b) : Qu b (R.set i y) x q := by
  obtain ⟨id, off, c, vs, e, hb, hc, hr, hs⟩ := h
  exact ⟨id, off, c, vs, e, hb, hc, by rw [List.getElem?_set_ne (by omega)]; exact hr, hs⟩
theorem Qu_app {b : Nat} {R : List Row} {x : AV} {q : List Nat} (h : Qu b R x q) (X : List Row) : Qu b (R ++ X) x q := by
  obtain ⟨id, off, c, vs, e, hb, hc, hr, hs⟩ := h
  exact ⟨id, off, c, vs, e, hb, hc, by rw [List.getElem?_append_left (List.getElem?_eq_some_iff.1 hr).1]; exact hr, hs⟩
def stp (at_ fr to : Nat) (f : Int) (s : List Int × List Nat × List Nat) : List Int × List Nat × List Nat :=
  if fr = at_ ∧ to ∉ s.2.1 then ((s.1.set to at_).set (6 + to) (IntKind.i64.wrap (gI s.1 (6 + at_) + f)), s.2.1 ++ [to], s.2.2 ++ [to]) else s
set_option maxHeartbeats 8000000 in
theorem walk_s15 {x1 x8 x10 x20 x21 x53 x54 x55 : AV} {A T E fr kk : Nat} {q : List Nat} {f : Int} {vs : List AV} {r : AV × List Row × Nat → Prop} (h : WS rows G D S R) (hD : D.length = 13) (hA : A < 6) (hT : T < 6) (hq : Qu (rows.length + 3) R x8 q) (hql : q.length ≤ 100) (hE : row? R E = some vs) (hEb : rows.length + 3 ≤ E) (hne : E ≠ sid x8) (hk : kk < 2)
    (hc : ∀ R' x8' D' S' q', stp A fr T f (D, S, q) = (D', S', q') → WS rows G D' S' R' → Qu (rows.length + 3) R' x8' q' → row? R' E = some vs → E ≠ sid x8' →
      Lc78l7 F (.fn [.t 4]) x1 (.ptr rows.length 0) (.ptr (rows.length + 1) 0) (.map (rows.length + 2)) x8' (.int .i64 A) x10 (.ptr E 0) x20 x21 x53 x54 x55 (.int .i64 (kk + 1 : Nat)) R' rows.length r) :
    Jc78s15 F (.fn [.t 4]) x1 (.ptr rows.length 0) (.ptr (rows.length + 1) 0) (.map (rows.length + 2)) x8 (.int .i64 A) x10 (.ptr E 0) (.int .i64 fr) (.int .i64 T) (.int .i64 f) x20 x21 x53 x54 x55 (.int .i64 kk) R rows.length r := by
  have hw : IntKind.i64.wrap ((kk : Int) + 1) = ((kk + 1 : Nat) : Int) := by rw [wrap64 (by omega) (by omega)]; omega
  have hlook := look_mp (t := T) h.m
  have hRl := h.len
  unfold Jc78s15
  by_cases c1 : fr = A
  · by_cases c2 : T ∈ S
    · have := hc R x8 D S q (by unfold stp; rw [if_neg (fun h => h.2 c2)]) h hq hE hne
      simp [c1, hlook, c2, hw]
      simpa using this
    · have hms := mset_mp (low := rows.length) h.m c2
      have hlw : lower rows.length (rows.length + 2) = rows.length := lower_ge' (by omega)
      rw [hlw] at hms
      have h2 := h.setS (S ++ [T])
      simp [c1, hlook, c2, hms, -uc78k10, -uc78k9]
      refine walk_k10 (W := rows.length + 1) (A := A) (T := T) (f := f) h2.d hD hA hT (by omega) (by simp) (by simp) (by simp) (by simp) (fun sl' hsl => ?_)
      have h3 := h2.setD ((D.set T A).set (6 + T) (IntKind.i64.wrap (gI D (6 + A) + f)))
      have hq3 : Qu (rows.length + 3) ((R.set (rows.length + 2) (.mp (mpE (S ++ [T])))).set (rows.length + 1) (.cells (nums .i64 ((D.set T A).set (6 + T) (IntKind.i64.wrap (gI D (6 + A) + f)))))) x8 q := Qu_set (Qu_set hq (by omega)) (by omega)
      have hE3 : row? ((R.set (rows.length + 2) (.mp (mpE (S ++ [T])))).set (rows.length + 1) (.cells (nums .i64 ((D.set T A).set (6 + T) (IntKind.i64.wrap (gI D (6 + A) + f)))))) E = some vs := by
        unfold row? at hE ⊢
        rw [List.getElem?_set_ne (by omega), List.getElem?_set_ne (by omega)]
        exact hE
      generalize hR3 : (R.set (rows.length + 2) (.mp (mpE (S ++ [T])))).set (rows.length + 1) (.cells (nums .i64 ((D.set T A).set (6 + T) (IntKind.i64.wrap (gI D (6 + A) + f))))) = R3 at *
      obtain ⟨x8', R', ev, k1, k2, k3, k4⟩ := Qu_push (t := T) (low := rows.length) hq3 (by omega) hql
      have hEl := row?_lt hE3
      have hws := h3.of k4 (o := sid x8) (by obtain ⟨id, off, c, us, rfl, hb, _⟩ := hq; exact hb) k2
      have hE4 : row? R' E = some vs := by
        unfold row? at hE3 ⊢
        rw [k2 E hEl hne]
        exact hE3
      have := hc R' x8' _ _ _ (by unfold stp; rw [if_pos ⟨c1, c2⟩]) hws k1 hE4 (by omega)
      have t1 := hsl 1 (by simp)
      have t2 := hsl 2 (by simp)
      have t5 := hsl 5 (by simp)
      have t6 := hsl 6 (by simp)
      have t8 := hsl 8 (by simp)
      have t9 := hsl 9 (by simp)
      have t10 := hsl 10 (by simp)
      have t11 := hsl 11 (by simp)
      have t14 := hsl 14 (by simp)
      have t20 := hsl 20 (by simp)
      have t21 := hsl 21 (by simp)
      have t53 := hsl 53 (by simp)
      have t54 := hsl 54 (by simp)
      have t55 := hsl 55 (by simp)
      have t60 := hsl 60 (by simp)
      simp at t1 t2 t5 t6 t8 t9 t10 t11 t14 t20 t21 t53 t54 t55 t60
      simp [t1, t2, t5, t6, t8, t9, t10, t11, t14, t20, t21, t53, t54, t55, t60, fillA, splice, ev, hw]
      simpa using this
  · have := hc R x8 D S q (by unfold stp; rw [if_neg (fun h => c1 h.1)]) h hq hE hne
    have c1' : ¬ ((fr : Int) = A) := by omega
    simp [c1', hw]
    simpa using this
end
end Go.Abs

namespace Go.Abs
abbrev WSt := List Int × List Nat × List Nat
structure SI (N : Nat) (s : WSt) : Prop where
  d : s.1.length = 13
  nd : s.2.1.Nodup
  b : ∀ v ∈ s.2.1, v < N
  q : s.2.2.length ≤ s.2.1.length
theorem SI.s6 {N : Nat} {s : WSt} (h : SI N s) (hN : N ≤ 6) : s.2.1.length ≤ 6 := by
  have := List.Nodup.length_le_of_subset h.nd (l₂ := List.range N) (fun x hx => List.mem_range.2 (h.b x hx))
  simp at this
  omega
theorem stp_SI {N a fr to : Nat} {f : Int} {s : WSt} (h : SI N s) (ht : to < N) : SI N (stp a fr to f s) := by
  unfold stp
  split
  · rename_i hc
    refine ⟨by simp [h.d], ?_, ?_, ?_⟩
    · simp only
      rw [List.nodup_append]
      refine ⟨h.nd, by simp, ?_⟩
      intro x hx y hy e
      simp only [List.mem_singleton] at hy
      subst e hy
      exact hc.2 hx
    · intro v hv
      rcases List.mem_append.1 hv with hv | hv
      · exact h.b v hv
      · simp only [List.mem_singleton] at hv; omega
    · simp only [List.length_append, List.length_cons, List.length_nil]
      have := h.q
      omega
  · exact h
def est (a k : Nat) (f : Int) (s : WSt) : WSt := stp a (k % 6) (k / 6) (IntKind.i64.wrap (0 - f)) (stp a (k / 6) (k % 6) f s)
def esS (a : Nat) (ks : List Nat) (fl : List Int) (s : WSt) : Nat → WSt
  | 0 => s
  | i + 1 => est a (gN ks i) (gI fl i) (esS a ks fl s i)
section
variable {rows R : List Row} {G : List AV} {N : Nat} {ks ps : List Nat} {x1 ev : AV} {fl : List Int}
set_option maxHeartbeats 8000000 in
theorem walk_k0 {x8 x9 x20 x21 x53 x54 x55 x2 x5 x6 : AV} {A C E i : Nat} {r : AV × List Row × Nat → Prop} (hE : row? R E = some [.int .i64 A, .int .i64 C]) (hf : IsL R x1 fl) (hi : i < fl.length)
    (h : Jc78s15 F (.fn [.t 4]) x1 x2 x5 x6 x8 x9 (.int .i64 i) (.ptr E 0) (.int .i64 A) (.int .i64 C) (.int .i64 (gI fl i)) x20 x21 x53 x54 x55 (.int .i64 0) R rows.length r) :
    Lc78l7 F (.fn [.t 4]) x1 x2 x5 x6 x8 x9 (.int .i64 i) (.ptr E 0) x20 x21 x53 x54 x55 (.int .i64 0) R rows.length r := by
  have ix := idxW hf hi
  have ld := ldW1 hf hi
  rw [Nat.mul_one] at ix
  have i01 : idx? 0 2 = some 0 := rfl
  have i11 : idx? 1 2 = some 1 := rfl
  have w1 : IntKind.i64.wrap 1 = 1 := rfl
  unfold Lc78l7
  simp [hE, i01, i11, ix, ld, w1, -uc78s15, jc78s15]
  simpa using h
set_option maxHeartbeats 8000000 in
theorem walk_k1 {x8 x9 x20 x21 x53 x54 x55 x2 x5 x6 : AV} {A C E i : Nat} {r : AV × List Row × Nat → Prop} (hE : row? R E = some [.int .i64 A, .int .i64 C]) (hf : IsL R x1 fl) (hi : i < fl.length)
    (h : Jc78s15 F (.fn [.t 4]) x1 x2 x5 x6 x8 x9 (.int .i64 i) (.ptr E 0) (.int .i64 C) (.int .i64 A) (.int .i64 (IntKind.i64.wrap (0 - gI fl i))) x20 x21 x53 x54 x55 (.int .i64 1) R rows.length r) :
    Lc78l7 F (.fn [.t 4]) x1 x2 x5 x6 x8 x9 (.int .i64 i) (.ptr E 0) x20 x21 x53 x54 x55 (.int .i64 1) R rows.length r := by
  have ix := idxW hf hi
  have ld := ldW1 hf hi
  rw [Nat.mul_one] at ix
  have i01 : idx? 0 2 = some 0 := rfl
  have i11 : idx? 1 2 = some 1 := rfl
  have w1 : IntKind.i64.wrap 0 = 0 := rfl
  unfold Lc78l7
  simp [hE, i01, i11, ix, ld, w1, -uc78s15, jc78s15]
  simpa using h
theorem WS.flow {D : List Int} {S : List Nat} (h : WS rows G D S R) {v : AV} {sz n : Nat} {cs : List AV} (hf : El rows sz v cs n) : El R sz v cs n := by
  obtain ⟨L, rfl⟩ := h.base
  exact El_app hf L
set_option maxHeartbeats 8000000 in
theorem walk_both {x8 x20 x21 x53 x54 x55 : AV} {a k E i : Nat} {s : WSt} {r : AV × List Row × Nat → Prop} (hN : N ≤ 6) (ha : a < N) (hk1 : k / 6 < N) (hk2 : k % 6 < N) (h : WS rows G s.1 s.2.1 R) (hs : SI N s) (hq : Qu (rows.length + 3) R x8 s.2.2) (hE : row? R E = some [.int .i64 (k / 6 : Nat), .int .i64 (k % 6 : Nat)]) (hEb : rows.length + 3 ≤ E) (hne : E ≠ sid x8) (hf : IsL rows x1 fl) (hi : i < fl.length)
    (hc : ∀ R' x8', WS rows G (est a k (gI fl i) s).1 (est a k (gI fl i) s).2.1 R' → Qu (rows.length + 3) R' x8' (est a k (gI fl i) s).2.2 →
      Lc78l7 F (.fn [.t 4]) x1 (.ptr rows.length 0) (.ptr (rows.length + 1) 0) (.map (rows.length + 2)) x8' (.int .i64 a) (.int .i64 i) (.ptr E 0) x20 x21 x53 x54 x55 (.int .i64 2) R' rows.length r) :
    Lc78l7 F (.fn [.t 4]) x1 (.ptr rows.length 0) (.ptr (rows.length + 1) 0) (.map (rows.length + 2)) x8 (.int .i64 a) (.int .i64 i) (.ptr E 0) x20 x21 x53 x54 x55 (.int .i64 0) R rows.length r := by
  have h6 := hs.s6 hN
  have hq6 := hs.q
  refine walk_k0 hE (h.flow hf) hi ?_
  refine walk_s15 (kk := 0) h hs.d (by omega) (by omega) hq (by omega) hE hEb hne (by omega) (fun R1 x81 D1 S1 q1 e1 w1 u1 hE1 hne1 => ?_)
  have hs1 := stp_SI (a := a) (fr := k / 6) (f := gI fl i) hs hk2
  have e1' : stp a (k / 6) (k % 6) (gI fl i) s = (D1, S1, q1) := e1
  have h61 := hs1.s6 hN
  have hq61 := hs1.q
  refine walk_k1 hE1 (w1.flow hf) hi ?_
  rw [e1'] at hs1 h61 hq61
  have hq1l : q1.length ≤ S1.length := hq61
  have hs1l : S1.length ≤ 6 := h61
  refine walk_s15 (kk := 1) w1 hs1.d (by omega) (by omega) u1 (by omega) hE1 hEb hne1 (by omega) (fun R2 x82 D2 S2 q2 e2 w2 u2 hE2 hne2 => ?_)
  have e3 : est a k (gI fl i) s = (D2, S2, q2) := by
    unfold est
    rw [e1']
    exact e2
  rw [e3] at hc
  exact hc R2 x82 w2 u2
theorem est_SI {a k : Nat} {f : Int} {s : WSt} (h : SI N s) (hk1 : k / 6 < N) (hk2 : k % 6 < N) : SI N (est a k f s) := stp_SI (stp_SI h hk2) hk1
theorem esS_SI (hok : GOK N ks ps) {a : Nat} {s : WSt} (h : SI N s) : ∀ i, i ≤ ks.length → SI N (esS a ks fl s i)
  | 0, _ => h
  | i + 1, hi => by
    have hee := hok.ee _ (gN_mem (show i < ks.length by omega))
    exact est_SI (esS_SI hok h i (by omega)) (by omega) hee.2
set_option maxHeartbeats 8000000 in
theorem walk_edges {x20 x21 : AV} {a : Nat} {s : WSt} {r : AV × List Row × Nat → Prop} (hok : GOK N ks ps) (ha : a < N) (hs : SI N s) (he : El rows 2 ev (nums .i64 (eC ks)) ks.length) (hf : IsL rows x1 fl) (hfl : fl.length = ks.length)
    (hc : ∀ R' x8', WS rows G (esS a ks fl s ks.length).1 (esS a ks fl s ks.length).2.1 R' → Qu (rows.length + 3) R' x8' (esS a ks fl s ks.length).2.2 →
      Lc78l4 F (.fn [.t 4]) x1 (.ptr rows.length 0) (.ptr (rows.length + 1) 0) (.map (rows.length + 2)) x8' x20 x21 R' rows.length r) :
    ∀ (d i : Nat) (R : List Row) (x8 : AV), ks.length - i = d → i ≤ ks.length → WS rows G (esS a ks fl s i).1 (esS a ks fl s i).2.1 R → Qu (rows.length + 3) R x8 (esS a ks fl s i).2.2 →
    Lc78l5 F (.fn [.t 4]) x1 (.ptr rows.length 0) (.ptr (rows.length + 1) 0) (.map (rows.length + 2)) x8 (.int .i64 a) x20 x21 ev (.int .i64 ks.length) (.int .i64 i) R rows.length r := by
  have hek := hok.ek
  have n6 := hok.n6
  intro d
  induction d with
  | zero =>
    intro i R x8 hd h1 hw hq
    have hi : i = ks.length := by omega
    subst hi
    have := hc R x8 hw hq
    unfold Lc78l5
    simp
    simpa using this
  | succ d ih =>
    intro i R x8 hd h1 hw hq
    have hi : i < ks.length := by omega
    have hww : IntKind.i64.wrap ((i : Int) + 1) = ((i + 1 : Nat) : Int) := by rw [wrap64 (by omega) (by omega)]; omega
    obtain ⟨e1, e2⟩ := eC_a hi
    have hee := hok.ee _ (gN_mem hi)
    have he' := hw.flow he
    have hRl := hw.len
    have hqid : sid x8 < R.length := by
      obtain ⟨id, off, c, vs, rfl, _, _, hr, _⟩ := hq
      exact (List.getElem?_eq_some_iff.1 hr).1
    have hlw : lower rows.length R.length = rows.length := lower_ge' (by omega)
    have hb := walk_both (i := i) (x8 := x8) (x20 := x20) (x21 := x21) (x53 := ev) (x54 := .int .i64 ks.length) (x55 := .int .i64 i) (E := R.length) (k := gN ks i) (r := r) n6 ha (by omega) hee.2 (hw.app [.cells [.int .i64 (gN ks i / 6 : Nat), .int .i64 (gN ks i % 6 : Nat)]]) (esS_SI hok hs i (by omega)) (Qu_app hq _) row_end (by omega) (by omega) hf (by omega) (fun R' x8' w' u' => by
      have := ih (i + 1) R' x8' (by omega) (by omega) w' u'
      unfold Lc78l7
      simp [hww]
      simpa using this)
    have ix := idxW he' hi
    have ld := ldW2 he' hi
    rw [e1, e2] at ld
    unfold Lc78l5
    simp [hi, ix, ld, AV.cells, splice, hlw]
    simpa using hb
end
end Go.Abs

namespace Go.Abs
def qsS (ks : List Nat) (fl : List Int) : Nat → WSt → WSt
  | 0, s => s
  | n + 1, (D, S, []) => (D, S, [])
  | n + 1, (D, S, a :: q) => qsS ks fl n (esS a ks fl (D, S, q) ks.length)
def fiS (ks : List Nat) (fl : List Int) : Nat → WSt
  | 0 => (List.replicate 13 0, [], [])
  | i + 1 =>
    let s := fiS ks fl i
    if i ∈ s.2.1 then s else qsS ks fl 20 (((s.1.set 12 (IntKind.i64.wrap (gI s.1 12 + 1))).set i i), s.2.1 ++ [i], [i])
theorem stp_len {a fr to : Nat} {f : Int} {s : WSt} : (stp a fr to f s).2.2.length + s.2.1.length = s.2.2.length + (stp a fr to f s).2.1.length ∧ s.2.1.length ≤ (stp a fr to f s).2.1.length := by
  unfold stp
  split
  · simp; omega
  · exact ⟨rfl, Nat.le_refl _⟩
theorem esS_len {a : Nat} {ks : List Nat} {fl : List Int} {s : WSt} : ∀ i, (esS a ks fl s i).2.2.length + s.2.1.length = s.2.2.length + (esS a ks fl s i).2.1.length ∧ s.2.1.length ≤ (esS a ks fl s i).2.1.length
  | 0 => ⟨rfl, Nat.le_refl _⟩
  | i + 1 => by
    have ih := esS_len (a := a) (ks := ks) (fl := fl) (s := s) i
    have h1 := stp_len (a := a) (fr := gN ks i / 6) (to := gN ks i % 6) (f := gI fl i) (s := esS a ks fl s i)
    have h2 := stp_len (a := a) (fr := gN ks i % 6) (to := gN ks i / 6) (f := IntKind.i64.wrap (0 - gI fl i)) (s := stp a (gN ks i / 6) (gN ks i % 6) (gI fl i) (esS a ks fl s i))
    rw [esS, est]
    omega
def QIn (N : Nat) (s : WSt) : Prop := ∀ v ∈ s.2.2, v < N
theorem stp_QIn {N a fr to : Nat} {f : Int} {s : WSt} (h : QIn N s) (ht : to < N) : QIn N (stp a fr to f s) := by
  unfold stp
  split
  · intro v hv
    rcases List.mem_append.1 hv with hv | hv
    · exact h v hv
    · simp only [List.mem_singleton] at hv; omega
  · exact h
theorem esS_QIn {N : Nat} {ks ps : List Nat} (hok : GOK N ks ps) {a : Nat} {fl : List Int} {s : WSt} (h : QIn N s) : ∀ i, i ≤ ks.length → QIn N (esS a ks fl s i)
  | 0, _ => h
  | i + 1, hi => by
    have hee := hok.ee _ (gN_mem (show i < ks.length by omega))
    exact stp_QIn (stp_QIn (esS_QIn hok h i (by omega)) hee.2) (by omega)
section
variable {rows R : List Row} {G : List AV} {N : Nat} {ks ps : List Nat} {x1 : AV} {fl : List Int}
set_option maxHeartbeats 8000000 in
theorem walk_queue {x20 x21 n0 ev pv : AV} {r : AV × List Row × Nat → Prop} (hok : GOK N ks ps) (he : El rows 2 ev (nums .i64 (eC ks)) ks.length) (hf : IsL rows x1 fl) (hfl : fl.length = ks.length) :
    ∀ (n : Nat) (s : WSt) (R : List Row) (x8 : AV), 2 * (N - s.2.1.length) + s.2.2.length + 1 ≤ n → SI N s → QIn N s → WS rows [n0, ev, pv] s.1 s.2.1 R → Qu (rows.length + 3) R x8 s.2.2 →
    (∀ R', SI N (qsS ks fl n s) → WS rows [n0, ev, pv] (qsS ks fl n s).1 (qsS ks fl n s).2.1 R' → ∀ sl : List (Nat × AV), lk sl 1 = x1 → lk sl 2 = .ptr rows.length 0 → lk sl 5 = .ptr (rows.length + 1) 0 → lk sl 6 = .map (rows.length + 2) → lk sl 20 = x20 → lk sl 21 = x21 →
      Ex F (.fn [.t 4]) [.code c78k3, .inLoop c78l2, .inBlock 0, .code c78s1] ⟨mk 116 sl, R', rows.length⟩ r) →
    Lc78l4 F (.fn [.t 4]) x1 (.ptr rows.length 0) (.ptr (rows.length + 1) 0) (.map (rows.length + 2)) x8 x20 x21 R rows.length r := by
  intro n
  induction n with
  | zero => intro s R x8 h; omega
  | succ n ih =>
    intro s R x8 hn hs hqi hw hq hc
    obtain ⟨D, S, q⟩ := s
    cases q with
    | nil =>
      have hlen : evP R (.len 0 (.c x8)) = some (.int .i64 0) := by
        obtain ⟨id, off, c, vs, rfl, _⟩ := hq
        rfl
      have := hc R hs hw
      unfold Lc78l4
      simp [hlen, -uc78k3]
      refine this _ ?_ ?_ ?_ ?_ ?_ ?_ <;> simp
    | cons a q =>
      obtain ⟨k1, k2, k3⟩ := Qu_head hq
      obtain ⟨x', p1, p2, p3⟩ := Qu_pop hq
      have ha : a < N := hqi a (List.mem_cons_self ..)
      have hs0 : SI N (D, S, q) := ⟨hs.d, hs.nd, hs.b, by have : (a :: q).length ≤ S.length := hs.q; simp only [List.length_cons] at this; show q.length ≤ S.length; omega⟩
      have hq0 : QIn N (D, S, q) := fun v hv => hqi v (List.mem_cons_of_mem _ hv)
      have hel := esS_len (a := a) (ks := ks) (fl := fl) (s := (D, S, q)) ks.length
      have hes := esS_SI (fl := fl) (a := a) hok hs0 ks.length (Nat.le_refl _)
      have hS6 := List.Nodup.length_le_of_subset hes.nd (l₂ := List.range N) (fun x hx => List.mem_range.2 (hes.b x hx))
      have hed := walk_edges (x20 := x20) (x21 := x21) (a := a) (s := (D, S, q)) (r := r) hok ha hs0 he hf hfl (fun R' x8' w' u' => by
        refine ih (esS a ks fl (D, S, q) ks.length) R' x8' ?_ hes (esS_QIn hok hq0 _ (Nat.le_refl _)) w' u' (fun R'' hs'' w'' => hc R'' hs'' w'')
        simp only [List.length_cons, List.length_range] at hn hel hS6
        omega) _ 0 R x' rfl (Nat.zero_le _) hw p2
      have hg := hw.g
      have ln := evP_lenE (hw.flow he)
      have hpos : ((q.length : Int) + 1 > 0) := by omega
      have i1 : bound? (some (AV.int .i64 1)) 0 (q.length + 1) = some 1 := by simp [bound?]; omega
      unfold Lc78l4
      simp [k1, k2, k3, p1, hg, ln]
      simpa using hed
end
end Go.Abs

namespace Go.Abs
section
variable {rows R : List Row} {G : List AV} {N : Nat} {ks ps : List Nat} {x1 : AV} {fl : List Int}
theorem qsS_SI (hok : GOK N ks ps) : ∀ (n : Nat) (s : WSt), SI N s → QIn N s → SI N (qsS ks fl n s)
  | 0, s, h, _ => h
  | n + 1, (D, S, []), h, _ => h
  | n + 1, (D, S, a :: q), h, hq => by
    have hs0 : SI N (D, S, q) := ⟨h.d, h.nd, h.b, by have : (a :: q).length ≤ S.length := h.q; simp only [List.length_cons] at this; show q.length ≤ S.length; omega⟩
    have hq0 : QIn N (D, S, q) := fun v hv => hq v (List.mem_cons_of_mem _ hv)
    exact qsS_SI hok n _ (esS_SI hok hs0 _ (Nat.le_refl _)) (esS_QIn hok hq0 _ (Nat.le_refl _))
def ini1 (s : WSt) (i : Nat) : WSt := ((s.1.set 12 (IntKind.i64.wrap (gI s.1 12 + 1))).set i i, s.2.1 ++ [i], [i])
theorem ini1_SI {s : WSt} {i : Nat} (h : SI N s) (hi : i < N) (hn : i ∉ s.2.1) : SI N (ini1 s i) ∧ QIn N (ini1 s i) := by
  refine ⟨⟨by simp [ini1, h.d], ?_, ?_, by simp [ini1]⟩, ?_⟩
  · show (s.2.1 ++ [i]).Nodup
    rw [List.nodup_append]
    refine ⟨h.nd, by simp, ?_⟩
    intro x hx y hy e
    simp only [List.mem_singleton] at hy
    subst e hy
    exact hn hx
  · intro v hv
    rcases List.mem_append.1 hv with hv | hv
    · exact h.b v hv
    · simp only [List.mem_singleton] at hv; omega
  · intro v hv
    have : v = i := by simpa [ini1] using hv
    omega
theorem fiS_SI (hok : GOK N ks ps) : ∀ i, i ≤ N → SI N (fiS ks fl i)
  | 0, _ => ⟨by simp [fiS], by simp [fiS], by simp [fiS], by simp [fiS]⟩
  | i + 1, hi => by
    have ih := fiS_SI hok i (by omega)
    rw [fiS]
    split
    · exact ih
    · rename_i hn
      obtain ⟨h1, h2⟩ := ini1_SI ih (show i < N by omega) hn
      exact qsS_SI hok 20 _ h1 h2
set_option maxHeartbeats 8000000 in
theorem walk_first {n0 ev pv : AV} {r : AV × List Row × Nat → Prop} (hok : GOK N ks ps) (he : El rows 2 ev (nums .i64 (eC ks)) ks.length) (hf : IsL rows x1 fl) (hfl : fl.length = ks.length)
    (hc : ∀ R', WS rows [n0, ev, pv] (fiS ks fl N).1 (fiS ks fl N).2.1 R' → r (.ptr (rows.length + 1) 0, R', rows.length)) :
    ∀ (d i : Nat) (R : List Row), N - i = d → i ≤ N → WS rows [n0, ev, pv] (fiS ks fl i).1 (fiS ks fl i).2.1 R →
    Lc78l2 F (.fn [.t 4]) x1 (.ptr rows.length 0) (.ptr (rows.length + 1) 0) (.map (rows.length + 2)) (.int .i64 N) (.int .i64 i) R rows.length r := by
  have n6 := hok.n6
  intro d
  induction d with
  | zero =>
    intro i R hd h1 hw
    have hi : i = N := by omega
    subst hi
    have := hc R hw
    unfold Lc78l2
    simp
    exact this
  | succ d ih =>
    intro i R hd h1 hw
    have hi : i < N := by omega
    have hww : IntKind.i64.wrap ((i : Int) + 1) = ((i + 1 : Nat) : Int) := by rw [wrap64 (by omega) (by omega)]; omega
    have hlook := look_mp (t := i) hw.m
    have hsi := fiS_SI (fl := fl) hok i (by omega)
    by_cases c : i ∈ (fiS ks fl i).2.1
    · have hst : fiS ks fl (i + 1) = fiS ks fl i := by rw [fiS]; simp only [if_pos c]
      have := ih (i + 1) R (by omega) (by omega) (by rw [hst]; exact hw)
      unfold Lc78l2
      simp [hi, hlook, c, hww]
      simpa using this
    · have hst : fiS ks fl (i + 1) = qsS ks fl 20 (ini1 (fiS ks fl i) i) := by rw [fiS]; simp only [if_neg c]; rfl
      obtain ⟨hs1, hs2⟩ := ini1_SI hsi hi c
      have hD := hsi.d
      generalize hs : fiS ks fl i = s at *
      obtain ⟨D, S, q⟩ := s
      simp only at hw hlook c hD
      -- the stores
      have hRl := hw.len
      have hrow : row? R (rows.length + 1) = some (nums .i64 D) := by unfold row?; rw [hw.d]
      have hcel : cells? R (rows.length + 1) = some (nums .i64 D) := by unfold cells?; rw [hw.d]
      have hnl : (nums .i64 D).length = 13 := by simp [nums, hD]
      obtain ⟨D1, hD1⟩ : ∃ D1, D1 = D.set 12 (IntKind.i64.wrap (gI D 12 + 1)) := ⟨_, rfl⟩
      have h12 : 12 < D.length := by omega
      have hu12 : D.set 12 (IntKind.i64.wrap (D[12] + 1)) = D1 := by rw [hD1, gI_eq h12]
      have hw1 := hw.setD D1
      have hlw1 : lower rows.length (rows.length + 1) = rows.length := lower_ge' (by omega)
      have hlw2 : lower rows.length (rows.length + 2) = rows.length := lower_ge' (by omega)
      obtain ⟨R1, hR1⟩ : ∃ R1, R1 = R.set (rows.length + 1) (.cells (nums .i64 D1)) := ⟨_, rfl⟩
      rw [← hR1] at hw1
      have hms := mset_mp (low := rows.length) hw1.m c
      rw [hlw2] at hms
      have hw2 := hw1.setS (S ++ [i])
      obtain ⟨R2, hR2⟩ : ∃ R2, R2 = R1.set (rows.length + 2) (.mp (mpE (S ++ [i]))) := ⟨_, rfl⟩
      rw [← hR2] at hw2 hms
      have hcel2 : cells? R2 (rows.length + 1) = some (nums .i64 D1) := by unfold cells?; rw [hw2.d]
      have hnl2 : (nums .i64 D1).length = 13 := by simp [nums, hD1, hD]
      have hset2 : (nums .i64 D1).set i (.int .i64 i) = nums .i64 (D1.set i i) := by simp [nums, List.map_set]
      have hw3 := hw2.setD (D1.set i i)
      obtain ⟨R3, hR3⟩ : ∃ R3, R3 = R2.set (rows.length + 1) (.cells (nums .i64 (D1.set i i))) := ⟨_, rfl⟩
      rw [← hR3] at hw3
      have hw4 := hw3.app [.cells [.int .i64 i]]
      have hQ : Qu (rows.length + 3) (R3 ++ [.cells [.int .i64 i]]) (.slice R3.length 0 1 (.at_ 1)) [i] := ⟨R3.length, 0, .at_ 1, [.int .i64 i], rfl, hw3.len, .inl rfl, by simp, by simp [seg, nums]⟩
      have hini : ini1 (D, S, q) i = (D1.set i i, S ++ [i], [i]) := by unfold ini1; rw [hD1]
      have hlen0 : 2 * (N - (S ++ [i]).length) + 1 + 1 ≤ 20 := by omega
      rw [hini] at hs1 hs2 hst
      have hqu := walk_queue (x20 := .int .i64 N) (x21 := .int .i64 i) (r := r) hok he hf hfl 20 (D1.set i i, S ++ [i], [i]) (R3 ++ [.cells [.int .i64 i]]) (.slice R3.length 0 1 (.at_ 1)) hlen0 hs1 hs2 hw4 hQ (fun R' _ w' sl t1 t2 t5 t6 t20 t21 => by
        have := ih (i + 1) R' (by omega) (by omega) (by rw [hst]; exact w')
        simp [t1, t2, t5, t6, t20, t21, hww]
        simpa using this)
      have hi6 : idx? (i : Int) 6 = some i := by simp; omega
      have hi13 : i < 13 := by omega
      unfold Lc78l2
      simp [hi, hlook, c, hrow, h12, hcel, hnl, hu12, hlw1, ← hR1, hms, hi6, hcel2, hnl2, hi13, hset2, ← hR3, fillA, splice]
      simpa using hqu
end
end Go.Abs

namespace Go.Abs
structure Rl (ks : List Nat) (a : Nat) (s s' : WSt) : Prop where
  S : ∀ v ∈ s.2.1, v ∈ s'.2.1
  q : ∀ v ∈ s.2.2, v ∈ s'.2.2
  n : ∀ v ∈ s'.2.1, v ∈ s.2.1 ∨ (v ∈ s'.2.2 ∧ Adj ks a v)
  p : ∀ v ∈ s'.2.2, v ∈ s.2.2 ∨ v ∈ s'.2.1 ∧ Adj ks a v
  d : gI s'.1 12 = gI s.1 12
theorem Rl.refl {ks : List Nat} {a : Nat} {s : WSt} : Rl ks a s s := ⟨fun _ h => h, fun _ h => h, fun _ h => .inl h, fun _ h => .inl h, rfl⟩
theorem Rl.trans {ks : List Nat} {a : Nat} {s s1 s2 : WSt} (h : Rl ks a s s1) (k : Rl ks a s1 s2) : Rl ks a s s2 :=
  ⟨fun v hv => k.S v (h.S v hv), fun v hv => k.q v (h.q v hv), fun v hv => by
    rcases k.n v hv with e | e
    · rcases h.n v e with e | ⟨e1, e2⟩
      · exact .inl e
      · exact .inr ⟨k.q v e1, e2⟩
    · exact .inr e, fun v hv => by
    rcases k.p v hv with e | e
    · rcases h.p v e with e | ⟨e1, e2⟩
      · exact .inl e
      · exact .inr ⟨k.S v e1, e2⟩
    · exact .inr e, k.d.trans h.d⟩
theorem stp_Rl {ks : List Nat} {a fr to : Nat} {f : Int} {s : WSt} (hadj : Adj ks fr to) (ht : to < 6) : Rl ks a s (stp a fr to f s) ∧ (fr = a → to ∈ (stp a fr to f s).2.1) := by
  unfold stp
  split
  · rename_i hc
    obtain ⟨rfl, hc2⟩ := hc
    refine ⟨⟨fun v h => List.mem_append_left _ h, fun v h => List.mem_append_left _ h, fun v h => ?_, fun v h => ?_, ?_⟩, fun _ => by simp⟩
    · rcases List.mem_append.1 h with h | h
      · exact .inl h
      · right
        simp only [List.mem_singleton] at h
        subst h
        exact ⟨by simp, hadj⟩
    · rcases List.mem_append.1 h with h | h
      · exact .inl h
      · right
        simp only [List.mem_singleton] at h
        subst h
        exact ⟨by simp, hadj⟩
    · show gI ((s.1.set to _).set (6 + to) _) 12 = gI s.1 12
      rw [gI_set_ne (by omega), gI_set_ne (by omega)]
  · rename_i hc
    refine ⟨Rl.refl, fun e => ?_⟩
    exact Classical.byContradiction fun h => hc ⟨e, h⟩
section
variable {N : Nat} {ks ps : List Nat} {fl : List Int}
theorem esS_Rl (hok : GOK N ks ps) {a : Nat} {s : WSt} : ∀ i, i ≤ ks.length → Rl ks a s (esS a ks fl s i) ∧ ∀ j, j < i → (gN ks j / 6 = a → gN ks j % 6 ∈ (esS a ks fl s i).2.1) ∧ (gN ks j % 6 = a → gN ks j / 6 ∈ (esS a ks fl s i).2.1)
  | 0, _ => ⟨Rl.refl, fun j hj => by omega⟩
  | i + 1, hi => by
    obtain ⟨h1, h2⟩ := esS_Rl hok (a := a) (s := s) i (by omega)
    have hil : i < ks.length := by omega
    have hee := hok.ee _ (gN_mem hil)
    have n6 := hok.n6
    have ha := pe_adj hil
    have k1 := stp_Rl (a := a) (f := gI fl i) (s := esS a ks fl s i) ha (by omega)
    have k2 := stp_Rl (a := a) (f := IntKind.i64.wrap (0 - gI fl i)) (s := stp a (gN ks i / 6) (gN ks i % 6) (gI fl i) (esS a ks fl s i)) ha.symm (by omega)
    have e : esS a ks fl s (i + 1) = stp a (gN ks i % 6) (gN ks i / 6) (IntKind.i64.wrap (0 - gI fl i)) (stp a (gN ks i / 6) (gN ks i % 6) (gI fl i) (esS a ks fl s i)) := rfl
    rw [e]
    refine ⟨(h1.trans k1.1).trans k2.1, fun j hj => ?_⟩
    by_cases c : j = i
    · subst c
      exact ⟨fun e => k2.1.S _ (k1.2 e), fun e => k2.2 e⟩
    · obtain ⟨m1, m2⟩ := h2 j (by omega)
      exact ⟨fun e => k2.1.S _ (k1.1.S _ (m1 e)), fun e => k2.1.S _ (k1.1.S _ (m2 e))⟩
def ClQ (ks : List Nat) (s : WSt) : Prop := (∀ v ∈ s.2.2, v ∈ s.2.1) ∧ ∀ v ∈ s.2.1, v ∉ s.2.2 → ∀ w, Adj ks v w → w ∈ s.2.1
theorem qsS_ok (hok : GOK N ks ps) : ∀ (n : Nat) (s : WSt), SI N s → QIn N s → ClQ ks s → 2 * (N - s.2.1.length) + s.2.2.length + 1 ≤ n →
    (∀ v ∈ s.2.1, v ∈ (qsS ks fl n s).2.1) ∧ (∀ v ∈ (qsS ks fl n s).2.1, ∀ w, Adj ks v w → w ∈ (qsS ks fl n s).2.1) ∧ gI (qsS ks fl n s).1 12 = gI s.1 12 ∧ ∀ v ∈ (qsS ks fl n s).2.1, v ∈ s.2.1 ∨ ∃ u ∈ s.2.2, Cn ks u v
  | 0, s, _, _, _, h => by omega
  | n + 1, (D, S, []), hs, hq, hc, h => by
    refine ⟨fun v hv => hv, fun v hv w hw => hc.2 v hv (by simp) w hw, rfl, fun v hv => .inl hv⟩
  | n + 1, (D, S, a :: q), hs, hq, hc, h => by
    have hs0 : SI N (D, S, q) := ⟨hs.d, hs.nd, hs.b, by have : (a :: q).length ≤ S.length := hs.q; simp only [List.length_cons] at this; show q.length ≤ S.length; omega⟩
    have hq0 : QIn N (D, S, q) := fun v hv => hq v (List.mem_cons_of_mem _ hv)
    have hel := esS_len (a := a) (ks := ks) (fl := fl) (s := (D, S, q)) ks.length
    have hes := esS_SI (fl := fl) (a := a) hok hs0 ks.length (Nat.le_refl _)
    have hS6 := List.Nodup.length_le_of_subset hes.nd (l₂ := List.range N) (fun x hx => List.mem_range.2 (hes.b x hx))
    obtain ⟨r1, r2⟩ := esS_Rl (fl := fl) hok (a := a) (s := (D, S, q)) ks.length (Nat.le_refl _)
    have e : qsS ks fl (n + 1) (D, S, a :: q) = qsS ks fl n (esS a ks fl (D, S, q) ks.length) := rfl
    rw [e]
    obtain ⟨c1, c2⟩ := hc
    have hcl : ClQ ks (esS a ks fl (D, S, q) ks.length) := by
      refine ⟨fun v hv => ?_, fun v hv hnq w hw => ?_⟩
      · rcases r1.p v hv with e | ⟨e, _⟩
        · exact r1.S v (c1 v (List.mem_cons_of_mem _ e))
        · exact e
      · rcases r1.n v hv with e | ⟨e, _⟩
        · by_cases ca : v = a
          · subst ca
            obtain ⟨k, hk, e1 | e1⟩ := hw
            · obtain ⟨j, hj, rfl⟩ := List.mem_iff_getElem.1 hk
              rw [← gN_eq hj] at e1
              have := (r2 j hj).1 e1.1
              rwa [e1.2] at this
            · obtain ⟨j, hj, rfl⟩ := List.mem_iff_getElem.1 hk
              rw [← gN_eq hj] at e1
              have := (r2 j hj).2 e1.2
              rwa [e1.1] at this
          · refine r1.S w (c2 v e ?_ w hw)
            intro hm
            rcases List.mem_cons.1 hm with hm | hm
            · exact ca hm
            · exact hnq (r1.q v hm)
        · exact absurd e hnq
    have ih := qsS_ok hok n (esS a ks fl (D, S, q) ks.length) hes (esS_QIn hok hq0 _ (Nat.le_refl _)) hcl (by
      simp only [List.length_cons, List.length_range] at h hel hS6
      omega)
    obtain ⟨i1, i2, i3, i4⟩ := ih
    refine ⟨fun v hv => i1 v (r1.S v hv), i2, i3.trans r1.d, fun v hv => ?_⟩
    rcases i4 v hv with h4 | ⟨u, hu, hcn⟩
    · rcases r1.n v h4 with e | ⟨_, e⟩
      · exact .inl e
      · exact .inr ⟨a, List.mem_cons_self .., .step (.refl _) e⟩
    · rcases r1.p u hu with e | ⟨_, e⟩
      · exact .inr ⟨u, List.mem_cons_of_mem _ e, hcn⟩
      · exact .inr ⟨a, List.mem_cons_self .., Cn.trans (.step (.refl _) e) hcn⟩
theorem cntL_le (i : Nat) : cntL ks i ≤ i := by
  induction i with
  | zero => exact Nat.le_refl _
  | succ i ih =>
    rw [cntL]
    split <;> omega
theorem closed_cn {S : List Nat} (h : ∀ v ∈ S, ∀ w, Adj ks v w → w ∈ S) {u v : Nat} (hc : Cn ks u v) (hu : u ∈ S) : v ∈ S := by
  induction hc with
  | refl => exact hu
  | step _ a ih => exact h _ ih _ a
theorem fiS_ok (hok : GOK N ks ps) : ∀ i, i ≤ N → (∀ v ∈ (fiS ks fl i).2.1, ∀ w, Adj ks v w → w ∈ (fiS ks fl i).2.1) ∧ (∀ u, u < i → u ∈ (fiS ks fl i).2.1) ∧ (∀ v ∈ (fiS ks fl i).2.1, ∃ u, u < i ∧ Cn ks u v) ∧ gI (fiS ks fl i).1 12 = (cntL ks i : Int)
  | 0, _ => ⟨by simp [fiS], fun u h => by omega, by simp [fiS], rfl⟩
  | i + 1, hi => by
    obtain ⟨h1, h2, h3, h4⟩ := fiS_ok hok i (by omega)
    have hsi := fiS_SI (fl := fl) hok i (by omega)
    have n6 := hok.n6
    have hcl := cntL_le (ks := ks) i
    by_cases c : i ∈ (fiS ks fl i).2.1
    · have hst : fiS ks fl (i + 1) = fiS ks fl i := by rw [fiS]; simp only [if_pos c]
      rw [hst]
      obtain ⟨u, hu, hcn⟩ := h3 i c
      have hnl : ¬ Lst ks i := fun h => by have := h u hcn.symm; omega
      refine ⟨h1, fun v hv => ?_, fun v hv => ?_, ?_⟩
      · by_cases e : v = i
        · subst e; exact c
        · exact h2 v (by omega)
      · obtain ⟨u, hu, hcn⟩ := h3 v hv
        exact ⟨u, by omega, hcn⟩
      · rw [h4, cntL, if_neg hnl]; rfl
    · have hst : fiS ks fl (i + 1) = qsS ks fl 20 (ini1 (fiS ks fl i) i) := by rw [fiS]; simp only [if_neg c]; rfl
      obtain ⟨hs1, hs2⟩ := ini1_SI hsi (show i < N by omega) c
      have hl : Lst ks i := fun u hu => by
        apply Classical.byContradiction
        intro hlt
        exact c (closed_cn h1 hu.symm (h2 u (by omega)))
      have hC : ClQ ks (ini1 (fiS ks fl i) i) := by
        refine ⟨fun v hv => ?_, fun v hv hnq w hw => ?_⟩
        · have : v = i := by simpa [ini1] using hv
          subst this
          simp [ini1]
        · have hvi : v ≠ i := fun e => hnq (by subst e; simp [ini1])
          have hvS : v ∈ (fiS ks fl i).2.1 := by
            have : v ∈ (fiS ks fl i).2.1 ++ [i] := hv
            rcases List.mem_append.1 this with h | h
            · exact h
            · simp only [List.mem_singleton] at h; exact absurd h hvi
          exact List.mem_append_left _ (h1 v hvS w hw)
      obtain ⟨q1, q2, q3, q4⟩ := qsS_ok (fl := fl) hok 20 _ hs1 hs2 hC (by show 2 * (N - ((fiS ks fl i).2.1 ++ [i]).length) + 1 + 1 ≤ 20; omega)
      rw [hst]
      refine ⟨q2, fun v hv => ?_, fun v hv => ?_, ?_⟩
      · by_cases e : v = i
        · subst e; exact q1 v (by simp [ini1])
        · exact q1 v (List.mem_append_left _ (h2 v (by omega)))
      · rcases q4 v hv with h | ⟨u, hu, hcn⟩
        · have : v ∈ (fiS ks fl i).2.1 ++ [i] := h
          rcases List.mem_append.1 this with h | h
          · obtain ⟨u, hu, hcn⟩ := h3 v h
            exact ⟨u, by omega, hcn⟩
          · simp only [List.mem_singleton] at h
            subst h
            exact ⟨v, by omega, .refl _⟩
        · have : u = i := by simpa [ini1] using hu
          subst this
          exact ⟨u, by omega, hcn⟩
      · rw [q3]
        show gI (((fiS ks fl i).1.set 12 (IntKind.i64.wrap (gI (fiS ks fl i).1 12 + 1))).set i i) 12 = _
        rw [gI_set_ne (by omega), gI_set_eq (by rw [hsi.d]; omega), h4, cntL, if_pos hl, wrap64 (by omega) (by omega)]
        omega
end
end Go.Abs

namespace Go.Abs
section
variable {rows R : List Row} {N : Nat} {ks ps : List Nat} {g x1 : AV} {fl : List Int}
theorem fin_ptr1 {L : List Row} {o : Nat} {vs : List AV} (h : L[1]? = some (.cells vs)) (hv : vs.all (·.ids.isEmpty) = true) : fin rows (.ptr (rows.length + 1) o) (rows ++ L) rows.length = (.ptr rows.length o, rows ++ [.cells vs], none) := by
  have e : ¬ rows.length + 1 < rows.length := by omega
  unfold fin
  rw [if_pos rfl]
  have hid : (AV.ptr (rows.length + 1) o).ids = [rows.length + 1] := rfl
  rw [hid]
  simp only [List.all_cons, List.all_nil, Bool.and_true, decide_eq_true_eq]
  rw [if_neg e, rows_at, h]
  simp [hv, AV.plain1, AV.plain, AV.ren1, AV.ren]
set_option maxHeartbeats 4000000 in
theorem walked_ret (hg : GRd rows g N ks ps) (hf : IsL rows x1 fl) (hfl : fl.length = ks.length) : Ret F 78 [g, x1] rows = some (.ptr rows.length 0, rows ++ [.cells (nums .i64 (fiS ks fl N).1)], none) := by
  obtain ⟨ev, pv, rfl, he, hp, _⟩ := id hg.eq
  have hok := hg.ok
  have o1 := El_one he
  have o2 := El_one hp
  have hw0 : WS rows [.int .i64 N, ev, pv] (List.replicate 13 0) [] (rows ++ [.cells [.int .i64 N, ev, pv], .cells (nums .i64 (List.replicate 13 0)), .mp []]) := ⟨⟨_, rfl⟩, by simp [row?], by simp, by simp [mpE]⟩
  have hloop := walk_first (x1 := x1) (fl := fl) (n0 := .int .i64 N) (pv := pv) (r := fun r => fin rows r.1 r.2.1 r.2.2 = (.ptr rows.length 0, rows ++ [.cells (nums .i64 (fiS ks fl N).1)], none)) hok he hf hfl (fun R' hw => by
    obtain ⟨L, rfl⟩ := hw.base
    have hd := hw.d
    rw [List.getElem?_append_right (by omega), Nat.add_sub_cancel_left] at hd
    exact fin_ptr1 hd nums_ids) _ 0 _ rfl (Nat.zero_le _) hw0
  have hz : AV.cells (.agg (List.replicate 13 (AV.int .i64 0))) = nums .i64 (List.replicate 13 0) := rfl
  refine i78 F78 ?_
  simp [o1, o2, fillA, nums] at hloop ⊢
  simpa using hloop
theorem rep_ok {m : Nat} : ∀ x ∈ List.replicate m (0 : Int), -100 ≤ x ∧ x ≤ 100 := by
  intro x hx
  have := List.eq_of_mem_replicate hx
  omega
set_option maxHeartbeats 4000000 in
theorem Pieces_ret (hg : GRd rows g N ks ps) : Ret F 50 [g] rows = some (.tup [.int .i64 (cntL ks N), .int .i64 0], rows, none) := by
  obtain ⟨ev, pv, rfl, he, hp, _⟩ := id hg.eq
  have hok := hg.ok
  have o1 := El_one he
  have o2 := El_one hp
  have hek := hok.ek
  have hpk := hok.pk
  have hC := Check_ret (N := N) (El_app he [.cells [.int .i64 N, ev, pv]]) (by omega) (El_app hp [.cells [.int .i64 N, ev, pv]]) (by omega)
  rw [gndB_ok hok] at hC
  have hz : IsL (rows ++ [.cells [.int .i64 N, ev, pv], .cells (nums .i64 (List.replicate ks.length 0))]) (.slice (rows.length + 1) 0 ks.length (.at_ ks.length)) (List.replicate ks.length 0) := by
    have := Acc_IsL (Acc_make (B := rows) (L := [.cells [.int .i64 N, ev, pv]]) (m := ks.length))
    exact this.1
  have r78 := walked_ret (hg.app [.cells [.int .i64 N, ev, pv], .cells (nums .i64 (List.replicate ks.length 0))]) hz (by simp)
  have hD := (fiS_SI (fl := List.replicate ks.length 0) hok N (Nat.le_refl _)).d
  have h12 := (fiS_ok (fl := List.replicate ks.length 0) hok N (Nat.le_refl _)).2.2.2
  generalize (fiS ks (List.replicate ks.length 0) N).1 = D at *
  have ln := evP_lenE (El_app he [.cells [.int .i64 N, ev, pv]])
  have hlim : (ks.length : Int) ≤ lim := by simp [lim]; omega
  have hl : 12 < D.length := by omega
  have hD12 : D[12] = (cntL ks N : Int) := by rw [← h12, gI_eq hl]
  simp only [List.length_append, List.length_cons, List.length_nil, Nat.zero_add] at r78
  refine i50 F50 ?_
  simp [o1, o2, seg, hC, ln, hlim, rep_nums, r78, hl, hD12, maskE, drop_mapL, Nat.add_assoc]
end
end Go.Abs

namespace Go.Abs
structure LawIn (rows : List Row) (g lv : AV) (l : List Int) : Prop where
  g : ∃ (x : Int) (ev pv : AV) (fe fp : List Int) (m0 k0 : Nat), g = .agg [.int .i64 x, ev, pv] ∧ El rows 2 ev (nums .i64 fe) m0 ∧ m0 ≤ 9223372036854775807 ∧ El rows 3 pv (nums .i64 fp) k0 ∧ k0 ≤ 9223372036854775807
  l : IsL rows lv l
theorem newW_shape (rows : List Row) (l : List Int) : ∃ v K, newW rows 1 (nums .i64 l) l.length = (v, rows ++ K, none) ∧ IsL (rows ++ K) v l ∧ Cp 1 v ∧ K.all (Row.under 0) = true := by
  have h := acc_El (rows := rows) (H := []) (cs := nums .i64 l) (n := l.length) (sz := 1) (by simp [nums]) (by omega)
  exact ⟨_, _, rfl, h.1, h.2, acc_und rfl nums_und⟩
section
variable {rows : List Row}
theorem Und_one {X : List Row} {vs : List AV} (h : Und rows X) (hv : (Row.cells vs).under (rows.length + X.length + 1) = true) : Und rows (X ++ [.cells vs]) := Und_app h (fun y hy => by
  simp only [List.mem_singleton] at hy
  subst hy
  simpa using hv)
theorem agg_under {N : Int} {ev pv : AV} {b : Nat} (h1 : ev.under b = true) (h2 : pv.under b = true) : (Row.cells [.int .i64 N, ev, pv]).under b = true := by
  simp [Row.under, AV.under, AV.ids]
  exact ⟨by simpa [AV.under] using h1, by simpa [AV.under] using h2⟩
theorem under_mono {v : AV} {a b : Nat} (h : v.under a = true) (hab : a ≤ b) : v.under b = true := by
  have := und_mono (y := .cells [v]) (a := a) (b := b) (by simpa [Row.under] using h) hab
  simpa [Row.under] using this
theorem GRd_under {g : AV} {N : Nat} {ks ps : List Nat} (h : GRd rows g N ks ps) : ∃ ev pv, g = .agg [.int .i64 N, ev, pv] ∧ ev.under rows.length = true ∧ pv.under rows.length = true ∧ ev.one = true ∧ pv.one = true ∧ El rows 2 ev (nums .i64 (eC ks)) ks.length := by
  obtain ⟨ev, pv, e, h1, h2, h3⟩ := h.eq
  exact ⟨ev, pv, e, El_under h1, El_under h2, El_one h1, El_one h2, h1⟩
end
end Go.Abs

namespace Go.Abs
structure Beg (rows : List Row) (gv : AV) (N : Nat) (ks ps : List Nat) (B1 B3 B4 : List Row) (ev1 pv1 ev2 pv2 : AV) : Prop where
  gx : ∃ (x : Int) (ev pv : AV), gv = .agg [.int .i64 x, ev, pv] ∧ ev.one = true ∧ pv.one = true ∧ Ret F 15 [gv] (rows ++ [.cells [.int .i64 x, ev, pv]]) = some (.agg [.int .i64 N, ev1, pv1], B1, none) ∧ row? (rows ++ [.cells [.int .i64 x, ev, pv]]) rows.length = some [.int .i64 x, ev, pv]
  r17 : Ret F 17 [.agg [.int .i64 N, ev1, pv1]] (B1 ++ [.cells [.int .i64 N, ev1, pv1]]) = some (.agg [.int .i64 N, ev2, pv2], B3, none)
  o : ev1.one = true ∧ pv1.one = true ∧ ev2.one = true ∧ pv2.one = true
  l1 : rows.length ≤ B1.length
  l3 : rows.length ≤ B3.length
  r2 : row? (B1 ++ [.cells [.int .i64 N, ev1, pv1]]) B1.length = some [.int .i64 N, ev1, pv1]
  e4 : B3 ++ [.cells [.int .i64 N, ev2, pv2]] = B4
  rx : row? B4 B1.length = some [.int .i64 N, ev1, pv1]
  ry : row? B4 B3.length = some [.int .i64 N, ev2, pv2]
  gx4 : GRd B4 (.agg [.int .i64 N, ev1, pv1]) N ks ps
  gy4 : GRd B4 (.agg [.int .i64 N, ev2, pv2]) N ks ps
  un : ∃ Y, B4 = rows ++ Y ∧ Und rows Y
theorem law_beg {rows : List Row} {gv lv : AV} {l : List Int} (h : LawIn rows gv lv l) : ∃ N ks ps B1 B3 B4 ev1 pv1 ev2 pv2, Beg rows gv N ks ps B1 B3 B4 ev1 pv1 ev2 pv2 := by
  obtain ⟨x, ev, pv, fe, fp, m0, k0, rfl, he, hm, hp, hk0⟩ := h.g
  have ue := El_under he
  have up := El_under hp
  have o1 := El_one he
  have o2 := El_one hp
  -- tame
  obtain ⟨R1, hR1⟩ : ∃ R1, R1 = rows ++ [.cells [.int .i64 x, ev, pv]] := ⟨_, rfl⟩
  have hl1 : R1.length = rows.length + 1 := by simp [hR1]
  have row1 : row? R1 rows.length = some [.int .i64 x, ev, pv] := by rw [hR1]; exact row_end
  obtain ⟨N, ks, ps, g, X1, r15, u1, g1⟩ := tame_ret (rows := R1) (x := x) (hR1 ▸ El_app he _) hm (hR1 ▸ El_app hp _) hk0 (by
    rw [hl1]; exact ⟨under_mono ue (by omega), under_mono up (by omega)⟩)
  obtain ⟨ev1, pv1, rfl, ue1, up1, oe1, op1, _⟩ := GRd_under g1
  obtain ⟨B1, hB1⟩ : ∃ B1, B1 = R1 ++ X1 := ⟨_, rfl⟩
  rw [← hB1] at r15 g1 ue1 up1
  have U1 : Und rows ([.cells [.int .i64 x, ev, pv]] ++ X1) := Und_app (by
    have := Und_one (rows := rows) (X := []) (vs := [.int .i64 x, ev, pv]) Und_nil (agg_under (under_mono ue (by simp)) (under_mono up (by simp)))
    simpa using this) (by rw [← hR1]; exact u1)
  have B1e : B1 = rows ++ ([.cells [.int .i64 x, ev, pv]] ++ X1) := by rw [hB1, hR1]; simp
  obtain ⟨Y1, hY1⟩ : ∃ Y1, Y1 = [Row.cells [.int .i64 x, ev, pv]] ++ X1 := ⟨_, rfl⟩
  rw [← hY1] at U1 B1e
  obtain ⟨B2, hB2⟩ : ∃ B2, B2 = B1 ++ [.cells [.int .i64 N, ev1, pv1]] := ⟨_, rfl⟩
  have row2 : row? B2 B1.length = some [.int .i64 N, ev1, pv1] := by rw [hB2]; exact row_end
  have U2 : Und rows (Y1 ++ [.cells [.int .i64 N, ev1, pv1]]) := Und_one U1 (by
    have e : B1.length = rows.length + Y1.length := by rw [B1e]; simp
    rw [← e]
    exact agg_under (under_mono ue1 (by omega)) (under_mono up1 (by omega)))
  have B2e : B2 = rows ++ (Y1 ++ [.cells [.int .i64 N, ev1, pv1]]) := by rw [hB2, B1e]; simp
  have g2 : GRd B2 (.agg [.int .i64 N, ev1, pv1]) N ks ps := by rw [hB2]; exact g1.app _
  -- given
  obtain ⟨g', X2, r17, u2, g3⟩ := given_ret (rows := B2) g2
  obtain ⟨ev2, pv2, rfl, ue2, up2, oe2, op2, _⟩ := GRd_under g3
  obtain ⟨B3, hB3⟩ : ∃ B3, B3 = B2 ++ X2 := ⟨_, rfl⟩
  rw [← hB3] at r17 g3 ue2 up2
  obtain ⟨Y2, hY2⟩ : ∃ Y2, Y2 = (Y1 ++ [.cells [.int .i64 N, ev1, pv1]]) ++ X2 := ⟨_, rfl⟩
  have U3 : Und rows Y2 := by rw [hY2]; exact Und_app U2 (by rw [← B2e]; exact u2)
  have B3e : B3 = rows ++ Y2 := by rw [hB3, B2e, hY2]; simp
  obtain ⟨B4, hB4⟩ : ∃ B4, B4 = B3 ++ [.cells [.int .i64 N, ev2, pv2]] := ⟨_, rfl⟩
  obtain ⟨Y3, hY3⟩ : ∃ Y3, Y3 = Y2 ++ [.cells [.int .i64 N, ev2, pv2]] := ⟨_, rfl⟩
  have U4 : Und rows Y3 := by
    rw [hY3]
    refine Und_one U3 ?_
    have e : B3.length = rows.length + Y2.length := by rw [B3e]; simp
    rw [← e]
    exact agg_under (under_mono ue2 (by omega)) (under_mono up2 (by omega))
  have B4e : B4 = rows ++ Y3 := by rw [hB4, B3e, hY3]; simp
  have row4 : row? B4 B3.length = some [.int .i64 N, ev2, pv2] := by rw [hB4]; exact row_end
  have row2' : row? B4 B1.length = some [.int .i64 N, ev1, pv1] := by rw [hB4, hB3]; exact row?_old (row?_old row2 _) _
  have row1' : row? B4 B1.length = some [.int .i64 N, ev1, pv1] := by rw [hB4, hB3]; exact row?_old (row?_old row2 _) _
  have g4 : GRd B4 (.agg [.int .i64 N, ev2, pv2]) N ks ps := by rw [hB4]; exact g3.app _
  have g4' : GRd B4 (.agg [.int .i64 N, ev1, pv1]) N ks ps := by rw [hB4, hB3]; exact (g2.app _).app _
  have hlen1 : rows.length ≤ B1.length := by rw [B1e]; simp
  have hlen3 : rows.length ≤ B3.length := by rw [B3e]; simp
  refine ⟨N, ks, ps, B1, B3, B4, ev1, pv1, ev2, pv2, ⟨x, ev, pv, rfl, o1, o2, by rw [← hR1]; exact r15, by rw [← hR1]; exact row1⟩, by rw [← hB2]; exact r17, ⟨oe1, op1, oe2, op2⟩, hlen1, hlen3, by rw [← hB2]; exact row2, hB4.symm, row2', row4, g4', g4, Y3, B4e, U4⟩
end Go.Abs

set_option maxRecDepth 20000
set_option maxHeartbeats 4000000
namespace Go.Abs
variable {F : Nat → Option IFn} {cx : Ctx} {k : List Itm} {s : St} {l : List (Nat × AV)} {rows : List Row} {low : Nat} {r : AV × List Row × Nat → Prop}
def c13r0 : List Seg := [
 zm 75 11,
 zo 76 (.bin .eql (.t 75) (.c (.int .i64 0))),
 zm 77 76,
 .one ⟨some 78, .mv (.t 10), some (77, true)⟩,
 .one ⟨some 79, .loadN 3 (.t 5), some (77, true)⟩,
 .one ⟨some 80, .mv (.t 7), some (77, true)⟩,
 .one ⟨some 81, .call [] (.c (.func 49 [])) [(.t 79), (.t 80)], some (77, true)⟩,
 .one ⟨some 82, .call [] (.c (.func 27 [])) [(.t 78), (.t 81)], some (77, true)⟩,
 zo 83 (.pick (.t 77) (.t 82) (.c (.bool false))),
 zm 84 83,
 .one ⟨some 85, .mv (.t 13), some (84, true)⟩,
 .one ⟨some 86, .bin .eql (.t 85) (.c (.int .i64 0)), some (84, true)⟩,
 zo 87 (.pick (.t 84) (.t 86) (.c (.bool false))),
 zm 88 87,
 .one ⟨some 89, .mv (.t 12), some (88, true)⟩,
 .one ⟨some 90, .loadN 3 (.t 5), some (88, true)⟩,
 .one ⟨some 91, .mv (.t 8), some (88, true)⟩,
 .one ⟨some 92, .call [] (.c (.func 54 [])) [(.t 90), (.t 91)], some (88, true)⟩,
 .one ⟨some 93, .call [] (.c (.func 27 [])) [(.t 89), (.t 92)], some (88, true)⟩,
 zo 94 (.pick (.t 88) (.t 93) (.c (.bool false))),
 zm 95 94,
 .one ⟨some 96, .mv (.t 15), some (95, true)⟩,
 .one ⟨some 97, .bin .eql (.t 96) (.c (.int .i64 0)), some (95, true)⟩,
 zo 98 (.pick (.t 95) (.t 97) (.c (.bool false))),
 zm 99 98,
 .one ⟨some 100, .mv (.t 14), some (99, true)⟩,
 .one ⟨some 101, .loadN 3 (.t 5), some (99, true)⟩,
 .one ⟨some 102, .mv (.t 9), some (99, true)⟩,
 .one ⟨some 103, .call [] (.c (.func 29 [])) [(.t 101), (.t 102)], some (99, true)⟩,
 .one ⟨some 104, .call [] (.c (.func 27 [])) [(.t 100), (.t 103)], some (99, true)⟩,
 zo 105 (.pick (.t 99) (.t 104) (.c (.bool false))),
 zm 106 105,
 .one ⟨some 107, .mv (.t 17), some (106, true)⟩,
 .one ⟨some 108, .bin .eql (.t 107) (.c (.int .i64 0)), some (106, true)⟩,
 zo 109 (.pick (.t 106) (.t 108) (.c (.bool false))),
 zm 110 109,
 .one ⟨some 111, .mv (.t 16), some (110, true)⟩,
 .one ⟨some 112, .loadN 3 (.t 5), some (110, true)⟩,
 .one ⟨some 113, .mv (.t 9), some (110, true)⟩,
 .one ⟨some 114, .call [] (.c (.func 55 [])) [(.t 112), (.t 113)], some (110, true)⟩,
 .one ⟨some 115, .call [] (.c (.func 27 [])) [(.t 111), (.t 114)], some (110, true)⟩,
 zo 116 (.pick (.t 110) (.t 115) (.c (.bool false))),
 zm 117 116,
 .one ⟨some 118, .mv (.t 19), some (117, true)⟩,
 .one ⟨some 119, .bin .eql (.t 118) (.c (.int .i64 0)), some (117, true)⟩,
 zo 120 (.pick (.t 117) (.t 119) (.c (.bool false))),
 zm 121 120,
 .one ⟨some 122, .mv (.t 18), some (121, true)⟩,
 .one ⟨some 123, .loadN 3 (.t 5), some (121, true)⟩,
 .one ⟨some 124, .call [] (.c (.func 56 [])) [(.t 123)], some (121, true)⟩,
 .one ⟨some 125, .bin .eql (.t 122) (.t 124), some (121, true)⟩,
 zo 126 (.pick (.t 121) (.t 125) (.c (.bool false))),
 zm 127 126,
 .one ⟨some 128, .mv (.t 21), some (127, true)⟩,
 .one ⟨some 129, .bin .eql (.t 128) (.c (.int .i64 0)), some (127, true)⟩,
 zo 130 (.pick (.t 127) (.t 129) (.c (.bool false))),
 zm 131 130,
 .one ⟨some 132, .mv (.t 20), some (131, true)⟩,
 .one ⟨some 133, .loadN 3 (.t 5), some (131, true)⟩,
 .one ⟨some 134, .mv (.t 9), some (131, true)⟩,
 .one ⟨some 135, .call [] (.c (.func 57 [])) [(.t 133), (.t 134)], some (131, true)⟩,
 .one ⟨some 136, .eqv false .bool (.t 132) (.t 135), some (131, true)⟩,
 zo 137 (.pick (.t 131) (.t 136) (.c (.bool false))),
 zm 138 137,
 .one ⟨some 139, .call [] (.c (.func 19 [])) [], some (138, true)⟩,
 zo 140 (.pick (.t 138) (.t 139) (.c (.bool false))),
 zm 4 140]
def c13k0 : ICode := .kill 141 [5, 7, 8, 9, 10, 11, 12, 13, 14, 15, 16, 17, 18, 19, 20, 21] (.ops c13r0)
@[simp] theorem uc13k0 : Ex F cx (.code c13k0 :: k) ⟨mk 141 l, rows, low⟩ r ↔ bnd (evP rows (.bin .eql (.c (lk l 11)) (.c (.int .i64 0)))) fun v0 => bnd (gv v0 true (evP rows (.mv (.c (lk l 10))))) fun v1 => bnd (gv v0 true (evP rows (.loadN 3 (.c (lk l 5))))) fun v2 => bnd (gv v0 true (evP rows (.mv (.c (lk l 7))))) fun v3 => gcall F v0 true rows low [v2, v3] [] (.func 49 []) fun v4 R4 L4 => gcall F v0 true R4 L4 [v1, v4] [] (.func 27 []) fun v5 R5 L5 => bnd (evP R5 (.pick (.c v0) (.c v5) (.c (.bool false)))) fun v6 => bnd (gv v6 true (evP R5 (.mv (.c (lk l 13))))) fun v7 => bnd (gv v6 true (evP R5 (.bin .eql (.c v7) (.c (.int .i64 0))))) fun v8 => bnd (evP R5 (.pick (.c v6) (.c v8) (.c (.bool false)))) fun v9 => bnd (gv v9 true (evP R5 (.mv (.c (lk l 12))))) fun v10 => bnd (gv v9 true (evP R5 (.loadN 3 (.c (lk l 5))))) fun v11 => bnd (gv v9 true (evP R5 (.mv (.c (lk l 8))))) fun v12 => gcall F v9 true R5 L5 [v11, v12] [] (.func 54 []) fun v13 R13 L13 => gcall F v9 true R13 L13 [v10, v13] [] (.func 27 []) fun v14 R14 L14 => bnd (evP R14 (.pick (.c v9) (.c v14) (.c (.bool false)))) fun v15 => bnd (gv v15 true (evP R14 (.mv (.c (lk l 15))))) fun v16 => bnd (gv v15 true (evP R14 (.bin .eql (.c v16) (.c (.int .i64 0))))) fun v17 => bnd (evP R14 (.pick (.c v15) (.c v17) (.c (.bool false)))) fun v18 => bnd (gv v18 true (evP R14 (.mv (.c (lk l 14))))) fun v19 => bnd (gv v18 true (evP R14 (.loadN 3 (.c (lk l 5))))) fun v20 => bnd (gv v18 true (evP R14 (.mv (.c (lk l 9))))) fun v21 => gcall F v18 true R14 L14 [v20, v21] [] (.func 29 []) fun v22 R22 L22 => gcall F v18 true R22 L22 [v19, v22] [] (.func 27 []) fun v23 R23 L23 => bnd (evP R23 (.pick (.c v18) (.c v23) (.c (.bool false)))) fun v24 => bnd (gv v24 true (evP R23 (.mv (.c (lk l 17))))) fun v25 => bnd (gv v24 true (evP R23 (.bin .eql (.c v25) (.c (.int .i64 0))))) fun v26 => bnd (evP R23 (.pick (.c v24) (.c v26) (.c (.bool false)))) fun v27 => bnd (gv v27 true (evP R23 (.mv (.c (lk l 16))))) fun v28 => bnd (gv v27 true (evP R23 (.loadN 3 (.c (lk l 5))))) fun v29 => bnd (gv v27 true (evP R23 (.mv (.c (lk l 9))))) fun v30 => gcall F v27 true R23 L23 [v29, v30] [] (.func 55 []) fun v31 R31 L31 => gcall F v27 true R31 L31 [v28, v31] [] (.func 27 []) fun v32 R32 L32 => bnd (evP R32 (.pick (.c v27) (.c v32) (.c (.bool false)))) fun v33 => bnd (gv v33 true (evP R32 (.mv (.c (lk l 19))))) fun v34 => bnd (gv v33 true (evP R32 (.bin .eql (.c v34) (.c (.int .i64 0))))) fun v35 => bnd (evP R32 (.pick (.c v33) (.c v35) (.c (.bool false)))) fun v36 => bnd (gv v36 true (evP R32 (.mv (.c (lk l 18))))) fun v37 => bnd (gv v36 true (evP R32 (.loadN 3 (.c (lk l 5))))) fun v38 => gcall F v36 true R32 L32 [v38] [] (.func 56 []) fun v39 R39 L39 => bnd (gv v36 true (evP R39 (.bin .eql (.c v37) (.c v39)))) fun v40 => bnd (evP R39 (.pick (.c v36) (.c v40) (.c (.bool false)))) fun v41 => bnd (gv v41 true (evP R39 (.mv (.c (lk l 21))))) fun v42 => bnd (gv v41 true (evP R39 (.bin .eql (.c v42) (.c (.int .i64 0))))) fun v43 => bnd (evP R39 (.pick (.c v41) (.c v43) (.c (.bool false)))) fun v44 => bnd (gv v44 true (evP R39 (.mv (.c (lk l 20))))) fun v45 => bnd (gv v44 true (evP R39 (.loadN 3 (.c (lk l 5))))) fun v46 => bnd (gv v44 true (evP R39 (.mv (.c (lk l 9))))) fun v47 => gcall F v44 true R39 L39 [v46, v47] [] (.func 57 []) fun v48 R48 L48 => bnd (gv v44 true (evP R48 (.eqv false .bool (.c v45) (.c v48)))) fun v49 => bnd (evP R48 (.pick (.c v44) (.c v49) (.c (.bool false)))) fun v50 => gcall F v50 true R48 L48 [] [] (.func 19 []) fun v51 R51 L51 => bnd (evP R51 (.pick (.c v50) (.c v51) (.c (.bool false)))) fun v52 => Ex F cx k ⟨mk 141 [(4, v52), (140, v52), (139, v51), (138, v50), (137, v50), (136, v49), (135, v48), (134, v47), (133, v46), (132, v45), (131, v44), (130, v44), (129, v43), (128, v42), (127, v41), (126, v41), (125, v40), (124, v39), (123, v38), (122, v37), (121, v36), (120, v36), (119, v35), (118, v34), (117, v33), (116, v33), (115, v32), (114, v31), (113, v30), (112, v29), (111, v28), (110, v27), (109, v27), (108, v26), (107, v25), (106, v24), (105, v24), (104, v23), (103, v22), (102, v21), (101, v20), (100, v19), (99, v18), (98, v18), (97, v17), (96, v16), (95, v15), (94, v15), (93, v14), (92, v13), (91, v12), (90, v11), (89, v10), (88, v9), (87, v9), (86, v8), (85, v7), (84, v6), (83, v6), (82, v5), (81, v4), (80, v3), (79, v2), (78, v1), (77, v0), (76, v0), (75, lk l 11), (5, lk l 5), (7, lk l 7), (8, lk l 8), (9, lk l 9), (10, lk l 10), (11, lk l 11), (12, lk l 12), (13, lk l 13), (14, lk l 14), (15, lk l 15), (16, lk l 16), (17, lk l 17), (18, lk l 18), (19, lk l 19), (20, lk l 20), (21, lk l 21)], R51, L51⟩ r := rg [5, 7, 8, 9, 10, 11, 12, 13, 14, 15, 16, 17, 18, 19, 20, 21] c13r0 rfl (by kernel_rfl)
def c13s1 : ICode := (.seq c13k0 .ret)
@[simp] theorem uc13s1 : Ex F cx (.code c13s1 :: k) s r ↔ Ex F cx (.code (.seq c13k0 .ret) :: k) s r := Iff.rfl
def c13r2 : List Seg := [
 zo 70 (.loadN 3 (.t 6)),
 zm 71 9,
 zo 72 (.call [] (.c (.func 51 [])) [(.t 70), (.t 71)]),
 zm 69 72,
 zo 73 (.ext (.t 69) 0),
 zo 74 (.ext (.t 69) 1),
 zm 20 73,
 zm 21 74]
def c13k2 : ICode := .kill 141 [5, 6, 7, 8, 9, 10, 11, 12, 13, 14, 15, 16, 17, 18, 19] (.ops c13r2)
@[simp] theorem uc13k2 : Ex F cx (.code c13k2 :: k) ⟨mk 141 l, rows, low⟩ r ↔ bnd (evP rows (.loadN 3 (.c (lk l 6)))) fun v0 => bnd (Ret F 51 [v0, lk l 9] rows) fun q1 => bnd (evP q1.2.1 (.ext (.c q1.1) 0)) fun v2 => bnd (evP q1.2.1 (.ext (.c q1.1) 1)) fun v3 => Ex F cx k ⟨mk 141 [(21, v3), (20, v2), (74, v3), (73, v2), (69, q1.1), (72, q1.1), (71, lk l 9), (70, v0), (5, lk l 5), (6, lk l 6), (7, lk l 7), (8, lk l 8), (9, lk l 9), (10, lk l 10), (11, lk l 11), (12, lk l 12), (13, lk l 13), (14, lk l 14), (15, lk l 15), (16, lk l 16), (17, lk l 17), (18, lk l 18), (19, lk l 19)], q1.2.1, (lowO low q1.2.2)⟩ r := rg [5, 6, 7, 8, 9, 10, 11, 12, 13, 14, 15, 16, 17, 18, 19] c13r2 rfl (by kernel_rfl)
def c13s3 : ICode := (.seq c13k2 c13s1)
@[simp] theorem uc13s3 : Ex F cx (.code c13s3 :: k) s r ↔ Ex F cx (.code (.seq c13k2 c13s1) :: k) s r := Iff.rfl
def c13r4 : List Seg := [
 zo 65 (.loadN 3 (.t 6)),
 zo 66 (.call [] (.c (.func 50 [])) [(.t 65)]),
 zm 64 66,
 zo 67 (.ext (.t 64) 0),
 zo 68 (.ext (.t 64) 1),
 zm 18 67,
 zm 19 68]
def c13k4 : ICode := .kill 141 [5, 6, 7, 8, 9, 10, 11, 12, 13, 14, 15, 16, 17] (.ops c13r4)
@[simp] theorem uc13k4 : Ex F cx (.code c13k4 :: k) ⟨mk 141 l, rows, low⟩ r ↔ bnd (evP rows (.loadN 3 (.c (lk l 6)))) fun v0 => bnd (Ret F 50 [v0] rows) fun q1 => bnd (evP q1.2.1 (.ext (.c q1.1) 0)) fun v2 => bnd (evP q1.2.1 (.ext (.c q1.1) 1)) fun v3 => Ex F cx k ⟨mk 141 [(19, v3), (18, v2), (68, v3), (67, v2), (64, q1.1), (66, q1.1), (65, v0), (5, lk l 5), (6, lk l 6), (7, lk l 7), (8, lk l 8), (9, lk l 9), (10, lk l 10), (11, lk l 11), (12, lk l 12), (13, lk l 13), (14, lk l 14), (15, lk l 15), (16, lk l 16), (17, lk l 17)], q1.2.1, (lowO low q1.2.2)⟩ r := rg [5, 6, 7, 8, 9, 10, 11, 12, 13, 14, 15, 16, 17] c13r4 rfl (by kernel_rfl)
def c13s5 : ICode := (.seq c13k4 c13s3)
@[simp] theorem uc13s5 : Ex F cx (.code c13s5 :: k) s r ↔ Ex F cx (.code (.seq c13k4 c13s3) :: k) s r := Iff.rfl
def c13r6 : List Seg := [
 zo 59 (.loadN 3 (.t 6)),
 zm 60 9,
 zo 61 (.call [] (.c (.func 40 [])) [(.t 59), (.t 60)]),
 zm 58 61,
 zo 62 (.ext (.t 58) 0),
 zo 63 (.ext (.t 58) 1),
 zm 16 62,
 zm 17 63]
def c13k6 : ICode := .kill 141 [5, 6, 7, 8, 9, 10, 11, 12, 13, 14, 15] (.ops c13r6)
@[simp] theorem uc13k6 : Ex F cx (.code c13k6 :: k) ⟨mk 141 l, rows, low⟩ r ↔ bnd (evP rows (.loadN 3 (.c (lk l 6)))) fun v0 => bnd (Ret F 40 [v0, lk l 9] rows) fun q1 => bnd (evP q1.2.1 (.ext (.c q1.1) 0)) fun v2 => bnd (evP q1.2.1 (.ext (.c q1.1) 1)) fun v3 => Ex F cx k ⟨mk 141 [(17, v3), (16, v2), (63, v3), (62, v2), (58, q1.1), (61, q1.1), (60, lk l 9), (59, v0), (5, lk l 5), (6, lk l 6), (7, lk l 7), (8, lk l 8), (9, lk l 9), (10, lk l 10), (11, lk l 11), (12, lk l 12), (13, lk l 13), (14, lk l 14), (15, lk l 15)], q1.2.1, (lowO low q1.2.2)⟩ r := rg [5, 6, 7, 8, 9, 10, 11, 12, 13, 14, 15] c13r6 rfl (by kernel_rfl)
def c13s7 : ICode := (.seq c13k6 c13s5)
@[simp] theorem uc13s7 : Ex F cx (.code c13s7 :: k) s r ↔ Ex F cx (.code (.seq c13k6 c13s5) :: k) s r := Iff.rfl
def c13r8 : List Seg := [
 zo 53 (.loadN 3 (.t 6)),
 zm 54 9,
 zo 55 (.call [] (.c (.func 22 [])) [(.t 53), (.t 54)]),
 zm 52 55,
 zo 56 (.ext (.t 52) 0),
 zo 57 (.ext (.t 52) 1),
 zm 14 56,
 zm 15 57]
def c13k8 : ICode := .kill 141 [5, 6, 7, 8, 9, 10, 11, 12, 13] (.ops c13r8)
@[simp] theorem uc13k8 : Ex F cx (.code c13k8 :: k) ⟨mk 141 l, rows, low⟩ r ↔ bnd (evP rows (.loadN 3 (.c (lk l 6)))) fun v0 => bnd (Ret F 22 [v0, lk l 9] rows) fun q1 => bnd (evP q1.2.1 (.ext (.c q1.1) 0)) fun v2 => bnd (evP q1.2.1 (.ext (.c q1.1) 1)) fun v3 => Ex F cx k ⟨mk 141 [(15, v3), (14, v2), (57, v3), (56, v2), (52, q1.1), (55, q1.1), (54, lk l 9), (53, v0), (5, lk l 5), (6, lk l 6), (7, lk l 7), (8, lk l 8), (9, lk l 9), (10, lk l 10), (11, lk l 11), (12, lk l 12), (13, lk l 13)], q1.2.1, (lowO low q1.2.2)⟩ r := rg [5, 6, 7, 8, 9, 10, 11, 12, 13] c13r8 rfl (by kernel_rfl)
def c13s9 : ICode := (.seq c13k8 c13s7)
@[simp] theorem uc13s9 : Ex F cx (.code c13s9 :: k) s r ↔ Ex F cx (.code (.seq c13k8 c13s7) :: k) s r := Iff.rfl
def c13r10 : List Seg := [
 zo 47 (.loadN 3 (.t 6)),
 zm 48 8,
 zo 49 (.call [] (.c (.func 38 [])) [(.t 47), (.t 48)]),
 zm 46 49,
 zo 50 (.ext (.t 46) 0),
 zo 51 (.ext (.t 46) 1),
 zm 12 50,
 zm 13 51]
def c13k10 : ICode := .kill 141 [5, 6, 7, 8, 9, 10, 11] (.ops c13r10)
@[simp] theorem uc13k10 : Ex F cx (.code c13k10 :: k) ⟨mk 141 l, rows, low⟩ r ↔ bnd (evP rows (.loadN 3 (.c (lk l 6)))) fun v0 => bnd (Ret F 38 [v0, lk l 8] rows) fun q1 => bnd (evP q1.2.1 (.ext (.c q1.1) 0)) fun v2 => bnd (evP q1.2.1 (.ext (.c q1.1) 1)) fun v3 => Ex F cx k ⟨mk 141 [(13, v3), (12, v2), (51, v3), (50, v2), (46, q1.1), (49, q1.1), (48, lk l 8), (47, v0), (5, lk l 5), (6, lk l 6), (7, lk l 7), (8, lk l 8), (9, lk l 9), (10, lk l 10), (11, lk l 11)], q1.2.1, (lowO low q1.2.2)⟩ r := rg [5, 6, 7, 8, 9, 10, 11] c13r10 rfl (by kernel_rfl)
def c13s11 : ICode := (.seq c13k10 c13s9)
@[simp] theorem uc13s11 : Ex F cx (.code c13s11 :: k) s r ↔ Ex F cx (.code (.seq c13k10 c13s9) :: k) s r := Iff.rfl
def c13r12 : List Seg := [
 zo 41 (.loadN 3 (.t 6)),
 zm 42 7,
 zo 43 (.call [] (.c (.func 33 [])) [(.t 41), (.t 42)]),
 zm 40 43,
 zo 44 (.ext (.t 40) 0),
 zo 45 (.ext (.t 40) 1),
 zm 10 44,
 zm 11 45]
def c13k12 : ICode := .kill 141 [5, 6, 7, 8, 9] (.ops c13r12)
@[simp] theorem uc13k12 : Ex F cx (.code c13k12 :: k) ⟨mk 141 l, rows, low⟩ r ↔ bnd (evP rows (.loadN 3 (.c (lk l 6)))) fun v0 => bnd (Ret F 33 [v0, lk l 7] rows) fun q1 => bnd (evP q1.2.1 (.ext (.c q1.1) 0)) fun v2 => bnd (evP q1.2.1 (.ext (.c q1.1) 1)) fun v3 => Ex F cx k ⟨mk 141 [(11, v3), (10, v2), (45, v3), (44, v2), (40, q1.1), (43, q1.1), (42, lk l 7), (41, v0), (5, lk l 5), (6, lk l 6), (7, lk l 7), (8, lk l 8), (9, lk l 9)], q1.2.1, (lowO low q1.2.2)⟩ r := rg [5, 6, 7, 8, 9] c13r12 rfl (by kernel_rfl)
def c13s13 : ICode := (.seq c13k12 c13s11)
@[simp] theorem uc13s13 : Ex F cx (.code c13s13 :: k) s r ↔ Ex F cx (.code (.seq c13k12 c13s11) :: k) s r := Iff.rfl
def c13r14 : List Seg := [
 .grp [(zn 26 1, 0), (zp 27 (.fieldA 0 (.t 5)), 0), (zp 28 (.load1 (.t 27)), 2), (zp 29 (.call [] (.c (.func 20 [])) [(.t 26), (.t 28)]), 7), (zn 30 1, 0), (zp 31 (.fieldA 2 (.t 5)), 0), (zp 32 (.load1 (.t 31)), 32), (zp 33 (.len 0 (.t 32)), 96), (zp 34 (.call [] (.c (.func 20 [])) [(.t 30), (.t 33)]), 255), (zn 35 1, 0), (zp 36 (.fieldA 1 (.t 5)), 0), (zp 37 (.load1 (.t 36)), 1024), (zp 38 (.len 0 (.t 37)), 3072)],
 zo 39 (.call [] (.c (.func 20 [])) [(.t 35), (.t 38)]),
 zm 7 29,
 zm 8 34,
 zm 9 39]
def c13k14 : ICode := .kill 141 [1, 5, 6] (.ops c13r14)
@[simp] theorem uc13k14 : Ex F cx (.code c13k14 :: k) ⟨mk 141 l, rows, low⟩ r ↔ bnd (evP (rows ++ maskE 0 ([] : List (Nat × Row))) (.fieldA 0 (.c (lk l 5)))) fun v0 => bnd (evP (rows ++ maskE 2 ([] : List (Nat × Row))) (.load1 (.c v0))) fun v1 => bnd (opC F (rows ++ maskE 7 ([] : List (Nat × Row))) (rows.length + ([] : List (Nat × Row)).length) [lk l 1, v1] [] (.func 20 [])) fun q2 => q2.2.2 = rows.length + ([] : List (Nat × Row)).length ∧ bnd (some (([] : List (Nat × Row)) ++ List.map (fun (x : Row) => (3, x)) (q2.2.1.drop (rows.length + ([] : List (Nat × Row)).length)))) fun e2 => bnd (evP (rows ++ maskE 0 e2) (.fieldA 2 (.c (lk l 5)))) fun v3 => bnd (evP (rows ++ maskE 32 e2) (.load1 (.c v3))) fun v4 => bnd (evP (rows ++ maskE 96 e2) (.len 0 (.c v4))) fun v5 => bnd (opC F (rows ++ maskE 255 e2) (rows.length + e2.length) [lk l 1, v5] [] (.func 20 [])) fun q6 => q6.2.2 = rows.length + e2.length ∧ bnd (some (e2 ++ List.map (fun (x : Row) => (8, x)) (q6.2.1.drop (rows.length + e2.length)))) fun e6 => bnd (evP (rows ++ maskE 0 e6) (.fieldA 1 (.c (lk l 5)))) fun v7 => bnd (evP (rows ++ maskE 1024 e6) (.load1 (.c v7))) fun v8 => bnd (evP (rows ++ maskE 3072 e6) (.len 0 (.c v8))) fun v9 => bnd (Ret F 20 [lk l 1, v9] (rows ++ List.map (fun (x : Nat × Row) => x.2) e6)) fun q10 => Ex F cx k ⟨mk 141 [(9, q10.1), (8, q6.1), (7, q2.1), (39, q10.1), (38, v9), (37, v8), (36, v7), (35, lk l 1), (34, q6.1), (33, v5), (32, v4), (31, v3), (30, lk l 1), (29, q2.1), (28, v1), (27, v0), (26, lk l 1), (1, lk l 1), (5, lk l 5), (6, lk l 6)], q10.2.1, (lowO low q10.2.2)⟩ r := rg [1, 5, 6] c13r14 rfl (by kernel_rfl)
def c13s15 : ICode := (.seq c13k14 c13s13)
@[simp] theorem uc13s15 : Ex F cx (.code c13s15 :: k) s r ↔ Ex F cx (.code (.seq c13k14 c13s13) :: k) s r := Iff.rfl
def c13r16 : List Seg := [
 zo 24 (.loadN 3 (.t 5)),
 zo 25 (.call [] (.c (.func 17 [])) [(.t 24)]),
 zo 6 (.box (.c (.agg [.int .i64 0, .nilslice, .nilslice]))),
 .one ⟨none, .storeN 3 (.t 6) (.t 25), none⟩]
def c13k16 : ICode := .kill 141 [1, 5] (.ops c13r16)
@[simp] theorem uc13k16 : Ex F cx (.code c13k16 :: k) ⟨mk 141 l, rows, low⟩ r ↔ bnd (evP rows (.loadN 3 (.c (lk l 5)))) fun v0 => bnd (Ret F 17 [v0] rows) fun q1 => bnd (evE q1.2.1 (lowO low q1.2.2) (.box (.c (.agg [.int .i64 0, .nilslice, .nilslice])))) fun q2 => bnd (evE q2.2.1 q2.2.2 (.storeN 3 (.c q2.1) (.c q1.1))) fun q3 => Ex F cx k ⟨mk 141 [(6, q2.1), (25, q1.1), (24, v0), (1, lk l 1), (5, lk l 5)], q3.2.1, q3.2.2⟩ r := rg [1, 5] c13r16 rfl (by kernel_rfl)
def c13s17 : ICode := (.seq c13k16 c13s15)
@[simp] theorem uc13s17 : Ex F cx (.code c13s17 :: k) s r ↔ Ex F cx (.code (.seq c13k16 c13s15) :: k) s r := Iff.rfl
def c13r18 : List Seg := [
 zo 22 (.loadN 3 (.t 2)),
 zo 23 (.call [] (.c (.func 15 [])) [(.t 22)]),
 zo 5 (.box (.c (.agg [.int .i64 0, .nilslice, .nilslice]))),
 .one ⟨none, .storeN 3 (.t 5) (.t 23), none⟩]
def c13k18 : ICode := .kill 141 [1, 2] (.ops c13r18)
@[simp] theorem uc13k18 : Ex F cx (.code c13k18 :: k) ⟨mk 141 l, rows, low⟩ r ↔ bnd (evP rows (.loadN 3 (.c (lk l 2)))) fun v0 => bnd (Ret F 15 [v0] rows) fun q1 => bnd (evE q1.2.1 (lowO low q1.2.2) (.box (.c (.agg [.int .i64 0, .nilslice, .nilslice])))) fun q2 => bnd (evE q2.2.1 q2.2.2 (.storeN 3 (.c q2.1) (.c q1.1))) fun q3 => Ex F cx k ⟨mk 141 [(5, q2.1), (23, q1.1), (22, v0), (1, lk l 1), (2, lk l 2)], q3.2.1, q3.2.2⟩ r := rg [1, 2] c13r18 rfl (by kernel_rfl)
def c13s19 : ICode := (.seq c13k18 c13s17)
@[simp] theorem uc13s19 : Ex F cx (.code c13s19 :: k) s r ↔ Ex F cx (.code (.seq c13k18 c13s17) :: k) s r := Iff.rfl
def c13r20 : List Seg := [
 zo 2 (.box (.t 0)),
 zo 4 (.mv (.c (.bool false)))]
def c13k20 : ICode := .kill 141 [0, 1] (.ops c13r20)
@[simp] theorem uc13k20 : Ex F cx (.code c13k20 :: k) ⟨mk 141 l, rows, low⟩ r ↔ bnd (evE rows low (.box (.c (lk l 0)))) fun q0 => Ex F cx k ⟨mk 141 [(4, (.bool false)), (2, q0.1), (0, lk l 0), (1, lk l 1)], q0.2.1, q0.2.2⟩ r := rg [0, 1] c13r20 rfl (by kernel_rfl)
def c13b : ICode := (.seq c13k20 c13s19)
@[simp] theorem uc13b : Ex F cx (.code c13b :: k) s r ↔ Ex F cx (.code (.seq c13k20 c13s19) :: k) s r := Iff.rfl
def c13 : IFn := ⟨141, [.t 4], c13b⟩
def h13 : List (Nat × Nat × List Nat) := [(0, (141, [0, 1])), (1, (141, [1, 2])), (2, (141, [1, 5])), (3, (141, [1, 5, 6])), (4, (141, [5, 6, 7, 8, 9])), (5, (141, [5, 6, 7, 8, 9, 10, 11])), (6, (141, [5, 6, 7, 8, 9, 10, 11, 12, 13])), (7, (141, [5, 6, 7, 8, 9, 10, 11, 12, 13, 14, 15])), (8, (141, [5, 6, 7, 8, 9, 10, 11, 12, 13, 14, 15, 16, 17])), (9, (141, [5, 6, 7, 8, 9, 10, 11, 12, 13, 14, 15, 16, 17, 18, 19])), (10, (141, [5, 7, 8, 9, 10, 11, 12, 13, 14, 15, 16, 17, 18, 19, 20, 21]))]
theorem i13 {x0 x1 : AV} (hF : F 13 = some c13) {q : AV × List Row × Option Nat} (h : Ex F (.fn [.t 4]) [.code c13b] ⟨mk 141 [(0, x0), (1, x1)], rows, rows.length⟩ fun r => fin rows r.1 r.2.1 r.2.2 = q) : Ret F 13 [x0, x1] rows = some q := Ret_mk hF h
end Go.Abs

namespace Go.Abs
abbrev G13 : Nat → Option IFn := more F 13 c13
theorem toG13 {f : Nat} {vs : List AV} {rows : List Row} {q : AV × List Row × Option Nat} (h : Ret F f vs rows = some q) : Ret G13 f vs rows = some q := Ret_ext (more_ext (by kernel_rfl)) h
structure Hp (rows C : List Row) (a5 a6 N : Nat) (ks ps : List Nat) (ev1 pv1 ev2 pv2 hv tv fv : AV) (hl tl fl : List Int) : Prop where
  rx : row? C a5 = some [.int .i64 N, ev1, pv1]
  ry : row? C a6 = some [.int .i64 N, ev2, pv2]
  gx : GRd C (.agg [.int .i64 N, ev1, pv1]) N ks ps
  gy : GRd C (.agg [.int .i64 N, ev2, pv2]) N ks ps
  h : IsL C hv hl
  t : IsL C tv tl
  f : IsL C fv fl
  un : ∃ Y, C = rows ++ Y ∧ Und rows Y
theorem Hp.app {rows C : List Row} {a5 a6 N : Nat} {ks ps : List Nat} {ev1 pv1 ev2 pv2 hv tv fv : AV} {hl tl fl : List Int} (h : Hp rows C a5 a6 N ks ps ev1 pv1 ev2 pv2 hv tv fv hl tl fl) {X : List Row} (hX : X.all (Row.under 0) = true) : Hp rows (C ++ X) a5 a6 N ks ps ev1 pv1 ev2 pv2 hv tv fv hl tl fl := by
  obtain ⟨h1, h2, h3, h4, h5, h6, h7, Y, h8, h9⟩ := h
  exact ⟨row?_old h1 X, row?_old h2 X, h3.app X, h4.app X, IsL_app h5 X, IsL_app h6 X, IsL_app h7 X, Y ++ X, by rw [h8, List.append_assoc], Und_app h9 (Und_0 hX)⟩
theorem maskE_map {K : List Row} {b i : Nat} : maskE b (K.map fun (x : Row) => (i, x)) = if b.testBit i = true then K else K.map fun _ => .dead := by
  unfold maskE
  by_cases c : b.testBit i = true
  · rw [if_pos c]; simp [c, Function.comp_def]
  · rw [if_neg c]; simp [c, Function.comp_def]
theorem maskE_app {a c : List (Nat × Row)} {b : Nat} : maskE b (a ++ c) = maskE b a ++ maskE b c := by simp [maskE]
set_option maxRecDepth 10000 in
set_option maxHeartbeats 16000000 in
theorem flows_ret {rows : List Row} {gv lv : AV} {l : List Int} (h : LawIn rows gv lv l) (hA : ∀ H, Und rows H → Ret F 19 [] (rows ++ H) = some (.bool true, rows ++ H, none)) :
    Ret G13 13 [gv, lv] rows = some (.bool true, rows, none) := by
  obtain ⟨N, ks, ps, B1, B3, B4, ev1, pv1, ev2, pv2, hb⟩ := law_beg h
  obtain ⟨⟨x, ev, pv, rfl, o1, o2, r15, row1⟩, r17, ⟨oe1, op1, oe2, op2⟩, hl1, hl3, row2, eB4, rx, ry, gx, gy, Y, eY, uY⟩ := hb
  have hok := gx.ok
  have n1 := hok.n1
  have n6 := hok.n6
  have hek := hok.ek
  have hpk := hok.pk
  obtain ⟨_, _, eg, eE, eP, _⟩ := id gx.eq
  simp only [AV.agg.injEq, List.cons.injEq, and_true, true_and] at eg
  obtain ⟨rfl, rfl⟩ := eg
  have hL4 : IsL B4 lv l := by rw [eY]; exact IsL_app h.l _
  have nl : ∀ m, (nmbs l m).length = m := fun m => by simp [nmbs]
  have nb : ∀ m, ∀ x ∈ nmbs l m, -100 ≤ x ∧ x ≤ 100 := fun m x hx => nmbs_ok x hx
  -- the numbers
  obtain ⟨hv, K1, a1, b1, _, d1⟩ := newW_shape B4 (nmbs l N)
  obtain ⟨tv, K2, a2, b2, _, d2⟩ := newW_shape (B4 ++ K1) (nmbs l ps.length)
  obtain ⟨fv, K3, a3, b3, _, d3⟩ := newW_shape (B4 ++ K1 ++ K2) (nmbs l ks.length)
  rw [nl] at a1 a2 a3
  have r20a := toG13 (numbers_ret hL4 (m := N) (by omega))
  have r20b := toG13 (numbers_ret (IsL_app hL4 K1) (m := ps.length) (by omega))
  have r20c := toG13 (numbers_ret (IsL_app (IsL_app hL4 K1) K2) (m := ks.length) (by omega))
  rw [a1] at r20a
  rw [a2] at r20b
  rw [a3] at r20c
  have H0 : Hp rows (B4 ++ K1 ++ K2 ++ K3) B1.length B3.length N ks ps ev1 pv1 ev2 pv2 hv tv fv (nmbs l N) (nmbs l ps.length) (nmbs l ks.length) := by
    have e : B4 ++ K1 ++ K2 ++ K3 = B4 ++ (K1 ++ (K2 ++ K3)) := by simp
    refine ⟨?_, ?_, ?_, ?_, IsL_app (IsL_app b1 K2) K3, IsL_app b2 K3, b3, ?_⟩
    · rw [e]; exact row?_old rx _
    · rw [e]; exact row?_old ry _
    · rw [e]; exact gx.app _
    · rw [e]; exact gy.app _
    · refine ⟨Y ++ (K1 ++ (K2 ++ K3)), by rw [e, eY, List.append_assoc], Und_app uY (Und_0 ?_)⟩
      rw [List.all_append, List.all_append, d1, d2, d3]; rfl
  obtain ⟨C0, eC0⟩ : ∃ C0, C0 = B4 ++ K1 ++ K2 ++ K3 := ⟨_, rfl⟩
  rw [← eC0] at r20c H0
  -- the program's
  obtain ⟨av, X1, r33, z1, k1, _⟩ := Gradient_ret H0.gy H0.h (nl _) (nb _)
  have H1 := H0.app z1
  generalize C0 ++ X1 = C1 at *
  obtain ⟨bv, X2, r38, z2, k2, _⟩ := Swirl_ret H1.gy H1.t (nl _) (nb _)
  have H2 := H1.app z2
  have k1 := IsL_app k1 X2
  generalize C1 ++ X2 = C2 at *
  obtain ⟨cv, X3, r22, z3, k3, _⟩ := Gains_ret H2.gy H2.f (nl _) (nb _)
  have H3 := H2.app z3
  have k1 := IsL_app k1 X3
  have k2 := IsL_app k2 X3
  generalize C2 ++ X3 = C3 at *
  obtain ⟨dv, X4, r40, z4, k4, _⟩ := Turns_ret H3.gy H3.f (nl _) (nb _)
  have H4 := H3.app z4
  have k1 := IsL_app k1 X4
  have k2 := IsL_app k2 X4
  have k3 := IsL_app k3 X4
  generalize C3 ++ X4 = C4 at *
  have r50 := toG13 (Pieces_ret H4.gy)
  have r51 := toG13 (IsCalm_ret H4.gy H4.f (nl _) (nb _))
  -- the reference's
  obtain ⟨av', X5, r49, z5, m1, _⟩ := RGradient_ret H4.gx H4.h (nl _) (nb _)
  have H5 := H4.app z5
  have k1 := IsL_app k1 X5
  have k2 := IsL_app k2 X5
  have k3 := IsL_app k3 X5
  have k4 := IsL_app k4 X5
  generalize C4 ++ X5 = C5 at *
  obtain ⟨bv', X6, r54, z6, m2, _⟩ := RSwirl_ret H5.gx H5.t (nl _) (nb _)
  have H6 := H5.app z6
  have k2 := IsL_app k2 X6
  have k3 := IsL_app k3 X6
  have k4 := IsL_app k4 X6
  generalize C5 ++ X6 = C6 at *
  obtain ⟨cv', X7, r29, z7, m3, _⟩ := RGains_ret H6.gx H6.f (nl _)
  have H7 := H6.app z7
  have k3 := IsL_app k3 X7
  have k4 := IsL_app k4 X7
  generalize C6 ++ X7 = C7 at *
  obtain ⟨dv', X8, r55, z8, m4, _⟩ := RTurns_ret H7.gx H7.f (nl _) (nb _)
  have H8 := H7.app z8
  have k4 := IsL_app k4 X8
  generalize C7 ++ X8 = C8 at *
  have r56 := toG13 (Count_ret H8.gx)
  rw [cnt_eq hok N (Nat.le_refl _)] at r56
  have r57 := toG13 (RCalm_ret H8.gx H8.f (nl _) (nb _))
  have gl1 : (grad ks (nmbs l N)).length ≤ 100 := by rw [grad_len]; omega
  have gl2 : (swS ks ps (nmbs l ps.length) ps.length).length ≤ 100 := by rw [swS_len]; omega
  have gl3 : (gnS N ks (nmbs l ks.length) ks.length).length ≤ 100 := by rw [gnS_len]; omega
  have gl4 : (ps.map (tuS ks (nmbs l ks.length))).length ≤ 100 := by simp; omega
  have i1 := toG13 (ints_ret k1 m1 (by omega) (by omega))
  have i2 := toG13 (ints_ret k2 m2 (by omega) (by omega))
  have i3 := toG13 (ints_ret k3 m3 (by omega) (by omega))
  have i4 := toG13 (ints_ret k4 m4 (by omega) (by omega))
  have r19 : Ret G13 19 [] C8 = some (.bool true, C8, none) := by
    obtain ⟨Y8, e8, u8⟩ := H8.un
    rw [e8]
    exact toG13 (hA Y8 u8)
  have r15' := toG13 r15
  have r17' := toG13 r17
  have r33' := toG13 r33
  have r38' := toG13 r38
  have r22' := toG13 r22
  have r40' := toG13 r40
  have r49' := toG13 r49
  have r54' := toG13 r54
  have r29' := toG13 r29
  have r55' := toG13 r55
  have low1 : lower rows.length B1.length = rows.length := lower_ge' hl1
  have low3 : lower rows.length B3.length = rows.length := lower_ge' hl3
  have rxL := fun L => row?_old rx L
  have lnE := fun L => evP_lenE (El_app eE L)
  have lnP := fun L => evP_lenE (El_app eP L)
  have q0x := H0.rx
  have q0y := H0.ry
  have q1y := H1.ry
  have q2y := H2.ry
  have q3y := H3.ry
  have q4y := H4.ry
  have q4x := H4.rx
  have q5x := H5.rx
  have q6x := H6.rx
  have q7x := H7.rx
  have q8x := H8.rx
  simp only [List.append_assoc] at r20b r20c
  have t1 : Nat.testBit 255 3 = true := by decide
  refine i13 rfl ?_
  simp [o1, o2, row1, seg, r15', low1, oe1, op1, oe2, op2, cell_end, splice, row2, r17', low3, eB4, rx, rxL, lnE, lnP, maskE_map, maskE_app, t1, r20a, r20b, r20c, Function.comp_def, -uc13s13]
  have hfin : fin rows (.bool true) C8 rows.length = (.bool true, rows, none) := by simp
  simp [q0y, q1y, q2y, q3y, q4y, seg, r33', r38', r22', r40', r50, r51, -uc13s1, -uc13k0]
  rw [uc13s1, Ex_seq, uc13k0]
  simp [q4x, q5x, q6x, q7x, q8x, seg, r49', r54', r29', r55', r56, r57, i1, i2, i3, i4, r19, hfin]
end Go.Abs

