/- What the rows of laws over bytes ask. -/
import Derived.Test.YtamlbiaakogahaaDoorRow
import Derived.Test.YtamlbiaakogahaaDoorC32
namespace Go.Proofs.YtamlbiaakogahaaDoor
open Go Go.Mo Go.RowKit

theorem slice_cells {P : Program} {W : World} {r : Reach} {b0 : Nat} {t e : TypeId} {v : Value} (ht : P.underlying t = some (.slice e)) (h : Value.okWide P W r b0 t v) : v.cells = #[v] := by
  simp only [Value.okWide, ht] at h
  cases v <;> simp_all [Value.cells, Cell.okWide, Cell.ok]

theorem slices_full {P : Program} (h : ((List.range P.types.size).all fun t => match P.underlying t with | some (.slice e) => decide (0 < P.cellsOf e) | _ => true) = true) : ∀ t e, t < P.types.size → P.underlying t = some (.slice e) → 0 < P.cellsOf e := by
  intro t e ht hu
  have := List.all_eq_true.1 h t (by simpa using ht)
  simp only [hu, decide_eq_true_eq] at this
  exact this

theorem BytesArg.place {W : World} {v : Value} {l : List B8} (h : BytesArg W v l) : ∃ p : Option Pl, (l ≠ [] → ∃ q vs T fz, p = some q ∧ ∀ π, Holds π q [.b8 l.length l] W vs T fz) ∧ ∀ (π : Mo.Loc) (i : Nat), π i = p → (argB i l.length).cv π v := by
  rcases h with ⟨rfl, a, c, rfl⟩ | ⟨hne, b, o, c, vs, T, fz, rfl, h1, h2, h3, h4⟩
  · exact ⟨none, fun q => absurd rfl q, fun π i _ => ⟨a, c, rfl⟩⟩
  · have hn : l.length ≠ 0 := fun e => hne (List.length_eq_zero_iff.1 e)
    refine ⟨some ⟨b, o, vs.length⟩, fun _ => ⟨⟨b, o, vs.length⟩, vs, T, fz, rfl, fun π => ⟨h3, rfl, ?_, ?_⟩⟩, fun π i hi => ?_⟩
    · show o + (l.length + 0) ≤ vs.length
      omega
    · refine ⟨_, [], (List.append_nil _).symm, ⟨rfl, ?_⟩, rfl⟩
      show (vs.drop o).take (l.length + 0) = l.map v8
      exact h4
    · unfold argB argZ
      cases q : Nat.beq l.length 0
      · exact ⟨⟨b, o, vs.length⟩, c, hi, by show o + 0 + c * 1 ≤ vs.length; omega, h1, rfl⟩
      · exact absurd (Nat.eq_of_beq_eq_true q) hn

theorem mem_bytes {W : World} {v0 v1 : Value} {l0 l1 : List B8} (h0 : BytesArg W v0 l0) (h1 : BytesArg W v1 l1) : ∃ π, MemRel π (mBB l0 l1) W ∧ (argB 0 l0.length).cv π v0 ∧ (argB 1 l1.length).cv π v1 := by
  obtain ⟨p0, a0, b0⟩ := h0.place
  obtain ⟨p1, a1, b1⟩ := h1.place
  refine ⟨fun i => match i with | 0 => p0 | 1 => p1 | _ => none, ?_, b0 _ 0 rfl, b1 _ 1 rfl⟩
  intro i b hi
  match i, hi with
  | 0, hi =>
    simp only [mBB] at hi
    split at hi
    · cases hi
    · rename_i hne
      cases hi
      obtain ⟨q, vs, T, fz, e, hh⟩ := a0 hne
      exact ⟨q, vs, T, fz, e, hh _⟩
  | 1, hi =>
    simp only [mBB] at hi
    split at hi
    · cases hi
    · rename_i hne
      cases hi
      obtain ⟨q, vs, T, fz, e, hh⟩ := a1 hne
      exact ⟨q, vs, T, fz, e, hh _⟩

theorem slicesFullF : ((List.range Tryd.prog.types.size).all fun t => match Tryd.prog.underlying t with | some (.slice e) => decide (0 < Tryd.prog.cellsOf e) | _ => true) = true := by kernel_rfl
end Go.Proofs.YtamlbiaakogahaaDoor
