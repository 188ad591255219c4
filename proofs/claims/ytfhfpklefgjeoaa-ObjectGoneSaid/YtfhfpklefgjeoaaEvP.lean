/- Arguments opened by their types: flat cells. Conditions: none. -/
import Derived.Test.YtfhfpklefgjeoaaEvO
import Derived.Test.YtfhfpklefgjeoaaEvX
namespace Go.Ev
open Go Go.RowKit

inductive Sh where
  | int (k : IntKind)
  | bool
  | str
  | sl (t : TypeId)

def flatFs (P : Program) (fl : TypeId → Option (List Sh)) : Nat → List Field → Option (List Sh × Nat)
  | off, [] => some ([], off)
  | off, f :: r => match Nat.beq f.offset off with
    | false => none
    | true => match fl f.type with
      | none => none
      | some s => match Nat.beq s.length (P.cellsOf f.type) with
        | false => none
        | true => match flatFs P fl (off + s.length) r with
          | none => none
          | some (s', e) => some (s ++ s', e)
/-- The cells of a type, as they lie. -/
def flat (P : Program) : Nat → TypeId → Option (List Sh)
  | 0, _ => none
  | d + 1, t => match P.underlying t with
    | some .bool => some [.bool]
    | some (.int k) => some [.int k]
    | some .string => some [.str]
    | some (.slice _) => some [.sl t]
    | some (.struct fs) => match flatFs P (flat P d) 0 fs.toList with
      | some (s, e) => match Nat.beq e (P.cellsOf t) with
        | true => some s
        | false => none
      | none => none
    | some (.array n e) => match flat P d e with
      | some s => match Nat.beq s.length (P.cellsOf e) && Nat.beq (P.cellsOf t) (n * s.length) with
        | true => some ((List.replicate n s).flatten)
        | false => none
      | none => none
    | _ => none

section
variable {H : Type} (enc0 : TypeId × Value → H) (P : Program) (w : World) (base : Nat) (sp : Nat → Bool) (held : Bool)

def Fits : List Sh → List Value → Prop
  | [], vs => vs = []
  | .int k :: r, vs => ∃ n us, vs = .int k n :: us ∧ (Lit.int k n).wf = true ∧ Fits r us
  | .bool :: r, vs => ∃ b us, vs = .bool b :: us ∧ Fits r us
  | .str :: r, vs => ∃ s us, vs = .string s :: us ∧ s.size ≤ maxLen ∧ Fits r us
  | .sl t :: r, vs => ∃ a n c us, vs = .slice a n c :: us ∧ (∃ f x, DataW.trod enc0 P w base sp held f t [.slice a n c] = some x) ∧ Fits r us

theorem Fits.append : ∀ {s1 s2 : List Sh} {a b : List Value}, Fits enc0 P w base sp held s1 a → Fits enc0 P w base sp held s2 b → Fits enc0 P w base sp held (s1 ++ s2) (a ++ b)
  | [], _, _, _, h1, h2 => by
    have : _ = [] := h1
    subst this; exact h2
  | .int k :: r, _, _, _, ⟨n, us, e, hw, h1⟩, h2 => ⟨n, us ++ _, by rw [e]; rfl, hw, Fits.append h1 h2⟩
  | .bool :: r, _, _, _, ⟨n, us, e, h1⟩, h2 => ⟨n, us ++ _, by rw [e]; rfl, Fits.append h1 h2⟩
  | .str :: r, _, _, _, ⟨n, us, e, hw, h1⟩, h2 => ⟨n, us ++ _, by rw [e]; rfl, hw, Fits.append h1 h2⟩
  | .sl t :: r, _, _, _, ⟨a, n, c, us, e, hw, h1⟩, h2 => ⟨a, n, c, us ++ _, by rw [e]; rfl, hw, Fits.append h1 h2⟩
theorem Fits.length : ∀ {s : List Sh} {a : List Value}, Fits enc0 P w base sp held s a → a.length = s.length
  | [], _, h => by
    have : _ = [] := h
    subst this; rfl
  | .int k :: r, _, ⟨n, us, e, hw, h1⟩ => by rw [e]; simp [Fits.length h1]
  | .bool :: r, _, ⟨n, us, e, h1⟩ => by rw [e]; simp [Fits.length h1]
  | .str :: r, _, ⟨n, us, e, hw, h1⟩ => by rw [e]; simp [Fits.length h1]
  | .sl t :: r, _, ⟨a, n, c, us, e, hw, h1⟩ => by rw [e]; simp [Fits.length h1]

variable {enc0 P w base sp held}
theorem trod_str {fuel : Nat} {t : TypeId} {cs : List Value} {x : DataW H × List MemPlace} (hu : P.underlying t = some .string) (h : DataW.trod enc0 P w base sp held fuel t cs = some x) : ∃ s, cs = [.string s] ∧ s.size ≤ maxLen := by
  cases fuel with
  | zero => simp [DataW.trod] at h
  | succ f =>
    match cs with
    | [] => simp [DataW.trod, hu] at h
    | [v] =>
      cases v with
      | string s =>
        simp only [DataW.trod, hu] at h
        split at h
        · rename_i hc; exact ⟨s, rfl, hc⟩
        · cases h
      | _ => simp [DataW.trod, hu] at h
    | v :: u :: r => simp [DataW.trod, hu] at h
theorem trod_slice {fuel : Nat} {t e : TypeId} {cs : List Value} {x : DataW H × List MemPlace} (hu : P.underlying t = some (.slice e)) (h : DataW.trod enc0 P w base sp held fuel t cs = some x) : ∃ a n c, cs = [.slice a n c] := by
  cases fuel with
  | zero => simp [DataW.trod] at h
  | succ f =>
    match cs with
    | [] => simp [DataW.trod, hu] at h
    | [v] =>
      cases v with
      | slice a n c => exact ⟨a, n, c, rfl⟩
      | _ => simp [DataW.trod, hu] at h
    | v :: u :: r => simp [DataW.trod, hu] at h

theorem open_fields {d f : Nat} (ih : ∀ t cs x s, DataW.trod enc0 P w base sp held f t cs = some x → flat P d t = some s → Fits enc0 P w base sp held s cs) {cs : List Value} :
    ∀ (fs : List Field) (off : Nat) (s : List Sh) (e : Nat), flatFs P (flat P d) off fs = some (s, e) → e = cs.length →
      (∀ fd ∈ fs, ∃ y, DataW.trod enc0 P w base sp held f fd.type ((cs.drop fd.offset).take (P.cellsOf fd.type)) = some y) → Fits enc0 P w base sp held s (cs.drop off)
  | [], off, s, e, h, he, _ => by
    simp only [flatFs, Option.some.injEq, Prod.mk.injEq] at h
    obtain ⟨rfl, rfl⟩ := h
    rw [he]; simp [Fits]
  | fd :: r, off, s, e, h, he, hall => by
    simp only [flatFs] at h
    split at h
    · cases h
    rename_i ho
    split at h
    · cases h
    rename_i s1 hs1
    split at h
    · cases h
    rename_i hl
    split at h
    · cases h
    rename_i s2 e2 h2
    simp only [Option.some.injEq, Prod.mk.injEq] at h
    obtain ⟨rfl, rfl⟩ := h
    have ho := Nat.eq_of_beq_eq_true ho
    have hl := Nat.eq_of_beq_eq_true hl
    obtain ⟨y, hy⟩ := hall fd (by simp)
    have f1 := ih _ _ _ _ hy hs1
    have f2 := open_fields ih r _ _ _ h2 he (fun fd' hm => hall fd' (by simp [hm]))
    have key := Fits.append enc0 P w base sp held f1 f2
    rw [ho, ← hl] at key
    have e3 : cs.drop (off + s1.length) = (cs.drop off).drop s1.length := by rw [List.drop_drop]
    rw [e3, List.take_append_drop] at key
    exact key

theorem open_flat : ∀ (d f : Nat) (t : TypeId) (cs : List Value) (x : DataW H × List MemPlace) (s : List Sh), DataW.trod enc0 P w base sp held f t cs = some x → flat P d t = some s → Fits enc0 P w base sp held s cs
  | 0, _, _, _, _, _, _, h => by cases h
  | d + 1, f, t, cs, x, s, hx, h => by
    simp only [flat] at h
    split at h
    · rename_i hu
      obtain ⟨b, rfl⟩ := trod_bool hu hx
      cases h; exact ⟨b, [], rfl, rfl⟩
    · rename_i k hu
      obtain ⟨b, rfl, hw⟩ := trod_int hu hx
      cases h; exact ⟨b, [], rfl, hw, rfl⟩
    · rename_i hu
      obtain ⟨b, rfl, hw⟩ := trod_str hu hx
      cases h; exact ⟨b, [], rfl, hw, rfl⟩
    · rename_i e hu
      obtain ⟨a, n, c, rfl⟩ := trod_slice hu hx
      cases h; exact ⟨a, n, c, [], rfl, ⟨f, x, hx⟩, rfl⟩
    · rename_i fs hu
      split at h
      · rename_i s' e he
        split at h
        · rename_i hb
          cases h
          obtain ⟨hl, f', rfl, hfd⟩ := trod_fields hu hx
          have hb := Nat.eq_of_beq_eq_true hb
          have := open_fields (f := f') (fun t cs x s h1 h2 => open_flat d f' t cs x s h1 h2) (cs := cs) _ _ _ _ he (by rw [hb, hl]) (fun fd hm => by
            obtain ⟨i, hi⟩ := List.getElem?_of_mem hm
            exact hfd i fd hi)
          simpa using this
        · cases h
      · cases h
    · rename_i n e hu
      split at h
      · rename_i s1 hs1
        split at h
        · rename_i hb
          cases h
          rw [Bool.and_eq_true] at hb
          have h1 := Nat.eq_of_beq_eq_true hb.1
          have h2 := Nat.eq_of_beq_eq_true hb.2
          cases f with
          | zero => simp [DataW.trod] at hx
          | succ f =>
            simp only [DataW.trod, hu] at hx
            split at hx
            · rename_i hl
              cases hm : (List.range n).mapM (fun i => DataW.trod enc0 P w base sp held f e ((cs.drop (i * P.cellsOf e)).take (P.cellsOf e))) with
              | none => rw [hm] at hx; cases hx
              | some r =>
                have hall := (mapM_some hm).2
                have key : ∀ k, k ≤ n → Fits enc0 P w base sp held (List.replicate k s1).flatten (cs.drop ((n - k) * s1.length)) := by
                  intro k
                  induction k with
                  | zero =>
                    intro _
                    simp only [Nat.sub_zero, List.replicate_zero, List.flatten_nil]
                    rw [← h2, ← hl, List.drop_length]; rfl
                  | succ k ihk =>
                    intro hk
                    have f2 := ihk (by omega)
                    obtain ⟨y, hy, _⟩ := hall (n - (k + 1)) (n - (k + 1)) (by rw [List.getElem?_range (by omega)])
                    have f1 := open_flat d f e _ _ _ hy hs1
                    rw [← h1] at f1
                    have e4 : (n - k) * s1.length = (n - (k + 1)) * s1.length + s1.length := by
                      rw [← Nat.succ_mul]; congr 1; omega
                    rw [e4, ← List.drop_drop] at f2
                    have := Fits.append enc0 P w base sp held f1 f2
                    rw [List.take_append_drop] at this
                    simpa [List.replicate_succ] using this
                have := key n (Nat.le_refl _)
                simpa using this
            · cases hx
        · cases h
      · cases h
    · cases h
/-- A struct's, or an array's, value is its cells. -/
theorem okWide_agg {r : Reach} {b0 : Nat} {t : TypeId} {v : Value} (hv : Value.okWide P w r b0 t v) (ht : (match P.underlying t with | some (.struct _) | some (.array _ _) => true | _ => false) = true) : ∃ cs, v = .agg cs := by
  unfold Value.okWide at hv
  split at hv
  · obtain ⟨cs, rfl, _⟩ := hv; exact ⟨cs, rfl⟩
  · obtain ⟨cs, rfl, _⟩ := hv; exact ⟨cs, rfl⟩
  · rename_i h1 h2
    split at ht
    · rename_i fs hu; exact absurd hu (h1 fs)
    · rename_i a b hu; exact absurd hu (h2 a b)
    · cases ht
theorem open_agg {r : Reach} {b0 : Nat} {t : TypeId} {v : Value} {dt : DataW H} {ps : List MemPlace} (d : Nat) (s : List Sh) (hf : flat P d t = some s) (ht : (match P.underlying t with | some (.struct _) | some (.array _ _) => true | _ => false) = true)
    (hv : Value.okWide P w r b0 t v) (h : DataW.Trod enc0 P w base sp held t v dt ps) : ∃ cs, v = .agg cs.toArray ∧ Fits enc0 P w base sp held s cs := by
  obtain ⟨cs, rfl⟩ := okWide_agg hv ht
  obtain ⟨f, hx⟩ := h
  exact ⟨cs.toList, by simp, open_flat d f t _ _ _ hx hf⟩
theorem wf_u8 {n : Int} (h : (Lit.int .u8 n).wf = true) : 0 ≤ n ∧ n < 256 := by
  simp [Lit.wf, IntKind.min, IntKind.max, IntKind.signed, IntKind.bits] at h
  omega
theorem wf_i16 {n : Int} (h : (Lit.int .i16 n).wf = true) : -32768 ≤ n ∧ n < 32768 := by
  simp [Lit.wf, IntKind.min, IntKind.max, IntKind.signed, IntKind.bits] at h
  omega
end
end Go.Ev
