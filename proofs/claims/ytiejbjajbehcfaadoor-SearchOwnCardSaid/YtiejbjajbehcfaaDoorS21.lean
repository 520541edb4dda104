/- search: a range over the gates of a part. -/
import Derived.Test.YtiejbjajbehcfaaDoorS20
set_option linter.unusedVariables false
set_option linter.unusedSimpArgs false
namespace Go.Abs
theorem gates_loop {sl : List AV} {asg body : ICode} {d : Nat} {L N : Nat} {a b : Int} {Inv : Int → List Row → Nat → Prop} (h0 : 0 ≤ a) (hb : b ≤ 1000)
    (hloop : ∀ g R low, Inv g R low → R[N]? = some (.loop .ready none sl [d] asg body) ∧ row? R L = some [.int .i64 a, .int .i64 b])
    (hbody : ∀ g R low, a ≤ g → g < b → Inv g R low → Ex F (.round N) [.code asg, .rfBegin, .code body] ⟨putL sl [d] [.int .i64 g], R, R.length⟩ fun q => q.1 = .bool true ∧ Inv (g + 1) (gc R.length (lower low q.2.2) q.1 q.2.1) (lower low q.2.2))
    {r : AV × List Row × Nat → Prop} (hend : ∀ R low, Inv b R low → r (.tup [], R, low)) : ∀ (n : Nat) (g : Int) (R : List Row) (low : Nat), (b - g).toNat = n → a ≤ g → g ≤ b → Inv g R low →
    Lc97l0 F (.fn []) (.yield N) (.ptr L 0) (.int .i64 g) R low r := by
  intro n
  induction n with
  | zero =>
    intro g R low hn h1 h2 hI
    have : g = b := by omega
    subst this
    obtain ⟨e1, e2⟩ := hloop _ _ _ hI
    unfold Lc97l0
    simp [e2]
    exact hend R low hI
  | succ n ih =>
    intro g R low hn h1 h2 hI
    have hg : g < b := by omega
    obtain ⟨e1, e2⟩ := hloop _ _ _ hI
    have w : IntKind.i64.wrap (g + 1) = g + 1 := wrap64 (by omega) (by omega)
    unfold Lc97l0
    simp (disch := first | omega | (simp; done) | fail) [e2, hg, w]
    rw [callK_y e1 rfl]
    obtain ⟨m, q, e, hq1, hq2⟩ := hbody g R low h1 hg hI
    refine ⟨m, q, e, ?_⟩
    exact .inr ⟨hq1, ih (g + 1) _ _ (by omega) (by omega) (by omega) hq2⟩
/-- A range over the gates of a part. -/
theorem gates_rf {res : List RV} {f : Opd} {k : List Itm} {sl : List AV} {asg body : ICode} {d : Nat} {L : Nat} {a b : Int} {rows : List Row} {low : Nat} {Inv : Int → List Row → Nat → Prop} {r : AV × List Row × Nat → Prop} (h0 : 0 ≤ a) (hab : a ≤ b) (hb : b ≤ 1000) (hf : getO sl f = .func 97 [.ptr L 0])
    (hL : row? (rows ++ [.loop .ready none sl [d] asg body]) L = some [.int .i64 a, .int .i64 b])
    (hstart : Inv a (rows ++ [.loop .ready none sl [d] asg body]) (rows.length + 1))
    (hloop : ∀ g R low, Inv g R low → R[rows.length]? = some (.loop .ready none sl [d] asg body) ∧ row? R L = some [.int .i64 a, .int .i64 b])
    (hbody : ∀ g R low, a ≤ g → g < b → Inv g R low → Ex F (.round rows.length) [.code asg, .rfBegin, .code body] ⟨putL sl [d] [.int .i64 g], R, R.length⟩ fun q => q.1 = .bool true ∧ Inv (g + 1) (gc R.length (lower low q.2.2) q.1 q.2.1) (lower low q.2.2))
    (hend : ∀ R lw, Inv b R lw → ∃ z, afterLoop rows.length low (fin (rows ++ [.loop .ready none sl [d] asg body]) (.tup []) R lw).2.1 (fin (rows ++ [.loop .ready none sl [d] asg body]) (.tup []) R lw).2.2 = some z ∧ Ex F (.fn res) (z.1 ++ k) ⟨sl, z.2.1, z.2.2⟩ r) :
    Ex F (.fn res) (.code (.rf f [d] asg body) :: k) ⟨sl, rows, low⟩ r := by
  rw [Ex_rf]
  refine ⟨rfl, (97, [.yield rows.length, .ptr L 0]), by rw [hf]; rfl, ?_⟩
  generalize hR0 : rows ++ [Row.loop .ready none sl [d] asg body] = R0 at *
  have hlen : R0.length = rows.length + 1 := by rw [← hR0]; simp
  refine Ret_mk' F97 (R := fun q => ∃ z, afterLoop rows.length low q.2.1 q.2.2 = some z ∧ Ex F (.fn res) (z.1 ++ k) ⟨sl, z.2.1, z.2.2⟩ r) (show Ex F (.fn []) [.code c97b] ⟨mk 17 [(0, .yield rows.length), (1, .ptr L 0)], R0, R0.length⟩ _ from ?_)
  have := gates_loop (sl := sl) (asg := asg) (body := body) (d := d) (L := L) (N := rows.length) h0 hb hloop hbody (r := fun x => (fun q => ∃ z, afterLoop rows.length low q.2.1 q.2.2 = some z ∧ Ex F (.fn res) (z.1 ++ k) ⟨sl, z.2.1, z.2.2⟩ r) (fin R0 x.1 x.2.1 x.2.2)) (fun R lw hI => hend R lw hI) _ a R0 R0.length rfl (by omega) hab (by rw [hlen]; exact hstart)
  simp [hL]
  simpa using this
end Go.Abs
