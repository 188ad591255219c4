/- Lists of numbers, further: what is written. Conditions: none. -/
import Derived.Test.YtfhfpklefgjeoaaNumB
namespace Go.Ev
open Go Go.Proofs
set_option maxRecDepth 10000

/-- What is written into a list. -/
def wrN (l : List Num) (i : Int) (v : Num) : List Num × Int := if rightN v then (if 0 ≤ i ∧ i < l.length then (l.set i.toNat v, 0) else (l, 2)) else (l, 1)
theorem wrN_wrong {l : List Num} {i : Int} {v : Num} (h : rightN v = false) : wrN l i v = (l, 1) := by unfold wrN; rw [h]; rfl
theorem wrN_out {l : List Num} {i : Int} {v : Num} (h : rightN v = true) (h2 : i < 0 ∨ (l.length : Int) ≤ i) : wrN l i v = (l, 2) := by unfold wrN; rw [if_pos h, if_neg (by omega)]
theorem wrN_in {l : List Num} {i : Int} {v : Num} (h : rightN v = true) (h0 : 0 ≤ i) (h2 : i < l.length) : wrN l i v = (l.set i.toNat v, 0) := by unfold wrN; rw [if_pos h, if_pos ⟨h0, h2⟩]
theorem wrN_len (l : List Num) (i : Int) (v : Num) : (wrN l i v).1.length = l.length := by unfold wrN; split <;> (try split) <;> simp

/-- A list that is the old one, or a new one that is owned. -/
def Fresh (β w : World) (As : List Asrt) (a : Option Addr) (c : Nat) (l : List Num) (a' : Option Addr) (c' : Nat) (l' : List Num) : Prop :=
  (a' = a ∧ c' = c ∧ l' = l ∧ Sat β w As) ∨ Sat β w (Own 33 2 encN a' c' l' :: As)
theorem Sat.dropL {β w : World} : ∀ {Gs As : List Asrt}, Sat β w (Gs ++ As) → Sat β w As
  | [], _, h => h
  | _ :: Gs, _, h => Sat.dropL (Gs := Gs) h.tail
theorem Fresh.frame {β w : World} {Gs Fr : List Asrt} {a : Option Addr} {c : Nat} {l : List Num} {a' : Option Addr} {c' : Nat} {l' : List Num} (h : Fresh β w (Gs ++ Fr) a c l a' c' l') (hr : Rds β Fr 2 encN a l) :
    ∃ Bs, Sat β w (Gs ++ (Bs ++ Fr)) ∧ Rds β (Bs ++ Fr) 2 encN a' l' := by
  rcases h with ⟨rfl, rfl, rfl, h⟩ | h
  · exact ⟨[], h, hr⟩
  · have h2 : Sat β w (Gs ++ ([Own 33 2 encN a' c' l'] ++ Fr)) := h.perm List.perm_middle.symm
    exact ⟨[_], h2, Own.rds 0 rfl ⟨w, h2.dropL⟩⟩

theorem ref2Write_any (i : Int) (v : Num) {a : Option Addr} {c : Nat} {l : List Num} (hl : l.length ≤ 4294967296) : ∀ β w As, Sat β w As → Rds β As 2 encN a l →
    Calls Try.prog 57 #[.slice a l.length c, .int .i64 i, vN v] w fun e w' => ∃ a' c', e = .returned (.tuple #[.slice a' (wrN l i v).1.length c', .int .i64 (wrN l i v).2]) ∧ Fresh β w' As a c l a' c' (wrN l i v).1 := by
  intro β w As h hr
  refine calls_W (args := [.slice a l.length c, .int .i64 i, vN v]) Try.func57 rfl rfl rfl ?_
  have m1 := refRight_any v
  generalize e1 : rightN v = b1 at m1
  conv => whnf
  repeat (first | (refine CW.run rfl ?_; conv => whnf) | (refine CW.go ?_; conv => whnf) | (refine Wr.any ?_; conv => whnf))
  refine h.newK fun b w h => ?_
  conv => whnf
  repeat (first | (refine CW.run rfl ?_; conv => whnf) | (refine CW.go ?_; conv => whnf) | (refine Wr.any ?_; conv => whnf))
  refine h.ldN 0 rfl _ rfl rfl ?_
  conv => whnf
  repeat (first | (refine CW.run rfl ?_; conv => whnf) | (refine CW.go ?_; conv => whnf) | (refine Wr.any ?_; conv => whnf))
  refine m1.call h (Try.call44 _ _) fun w h => ?_
  conv => whnf
  repeat (first | (refine CW.run rfl ?_; conv => whnf) | (refine CW.go ?_; conv => whnf) | (refine Wr.any ?_; conv => whnf))
  refine sel_mk (fun h1 => ?_) (fun h1 => ?_)
  · simp at h1; subst h1
    conv => whnf
    repeat (first | (refine CW.run rfl ?_; conv => whnf) | (refine CW.go ?_; conv => whnf) | (refine Wr.any ?_; conv => whnf))
    rw [wrN_wrong e1]
    exact ⟨a, c, rfl, .inl ⟨rfl, rfl, rfl, h.tail⟩⟩
  simp at h1; subst h1
  conv => whnf
  repeat (first | (refine CW.run rfl ?_; conv => whnf) | (refine CW.go ?_; conv => whnf) | (refine Wr.any ?_; conv => whnf))
  refine sel_mk (fun h1 => ?_) (fun h1 => ?_)
  · simp at h1
    conv => whnf
    repeat (first | (refine CW.run rfl ?_; conv => whnf) | (refine CW.go ?_; conv => whnf) | (refine Wr.any ?_; conv => whnf))
    rw [wrN_out e1 (by omega)]
    exact ⟨a, c, rfl, .inl ⟨rfl, rfl, rfl, h.tail⟩⟩
  simp at h1
  conv => whnf
  repeat (first | (refine CW.run rfl ?_; conv => whnf) | (refine CW.go ?_; conv => whnf) | (refine Wr.any ?_; conv => whnf))
  refine sel_mk (fun h2 => ?_) (fun h2 => ?_)
  · simp at h2
    conv => whnf
    repeat (first | (refine CW.run rfl ?_; conv => whnf) | (refine CW.go ?_; conv => whnf) | (refine Wr.any ?_; conv => whnf))
    rw [wrN_out e1 (by omega)]
    exact ⟨a, c, rfl, .inl ⟨rfl, rfl, rfl, h.tail⟩⟩
  simp at h2
  rw [wrN_in e1 h1 h2]
  conv => whnf
  repeat (first | (refine CW.run rfl ?_; conv => whnf) | (refine CW.go ?_; conv => whnf) | (refine Wr.any ?_; conv => whnf))
  refine h.newK fun b w h => ?_
  conv => whnf
  repeat (first | (refine CW.run rfl ?_; conv => whnf) | (refine CW.go ?_; conv => whnf) | (refine Wr.any ?_; conv => whnf))
  have h := h.own_of (sz := 2) (enc := encN) [] rfl (fun _ hx => by cases hx)
  refine Sat.append (l := []) (xs := l) (sz := 2) (enc := encN) h rfl rfl rfl (by decide) rfl rfl rfl hr.cons.cons (fun _ => rfl) (fun _ => rfl) (by show _ * 16 ≤ _; simp; omega) fun a' c' w h => ?_
  conv => whnf
  repeat (first | (refine CW.run rfl ?_; conv => whnf) | (refine CW.go ?_; conv => whnf) | (refine Wr.any ?_; conv => whnf))
  refine h.ldN 1 rfl _ rfl rfl ?_
  conv => whnf
  repeat (first | (refine CW.run rfl ?_; conv => whnf) | (refine CW.go ?_; conv => whnf) | (refine Wr.any ?_; conv => whnf))
  refine Chk.mk ⟨by omega, by simp; omega, (h.rds 0 rfl).okLt (i := i.toNat) (by simp; omega)⟩ ?_
  conv => whnf
  repeat (first | (refine CW.run rfl ?_; conv => whnf) | (refine CW.go ?_; conv => whnf) | (refine Wr.any ?_; conv => whnf))
  refine h.storeOwn (j := i.toNat) 0 v rfl rfl rfl rfl rfl rfl (by simp; omega) rfl ?_
  conv => whnf
  repeat (refine Wr.any ?_; conv => whnf)
  intro w h
  conv => whnf
  repeat (first | (refine CW.run rfl ?_; conv => whnf) | (refine CW.go ?_; conv => whnf) | (refine Wr.any ?_; conv => whnf))
  have h := h.f1.tail
  simp only [List.nil_append] at h
  exact ⟨a', c', by simp, .inr h⟩
end Go.Ev
