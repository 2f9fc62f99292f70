/- Regions that draw their order: each operation by what it promises, walked once, in the order of the text. Regions that draw their order, with appends: quiet operations are taken first, the others as they come up; every world may have grown meanwhile. -/
import Derived.StillTail
import Derived.Deep.QuietTactic
import Derived.Test.YtphgokaeonkjaaaDoorMem
import Derived.Test.YtphgokaeonkjaaaDoorOwn
namespace Chart
open Go Go.RowKit

/-- A plain operation: the value, the world left alone. -/
def valUpon (w : World) (v : Value) : Result Next → Prop
  | .ok (.value u) w' => w' = w ∧ u = v
  | .ok .skip w' => w' = w ∧ v = undef
  | _ => False
def valAt (P : Program) (o : Oper) (a : Act) (w : World) (v : Value) : Prop := valUpon w v ((execOp a.eval o).run P w)
/-- An operation that promises something of its value and of the world behind it. -/
def spUpon (P : Program) (R : Value → World → Prop) : Result Next → Prop
  | .ok (.value u) w' => R u w'
  | .ok .skip w' => R undef w'
  | .ok (.enter f args) w' => Calls P f args w' fun e w'' => ∃ v, e = .returned v ∧ R v w''
  | _ => False
def spAt (P : Program) (o : Oper) (a : Act) (w : World) (R : Value → World → Prop) : Prop := spUpon P R ((execOp a.eval o).run P w)

theorem valAt_unique {P : Program} {o : Oper} {a : Act} {w : World} {v v' : Value} (h : valAt P o a w v) (h' : valAt P o a w v') : v = v' := by
  unfold valAt at h h'
  generalize (execOp a.eval o).run P w = r at *
  cases r with
  | ok n w' => cases n <;> simp only [valUpon] at h h' <;> first | exact h.2.symm.trans h'.2 | exact h.2.trans h'.2.symm
  | halt x w' => simp only [valUpon] at h

/-- Comes before, in every order. -/
inductive Bef (md : Region.Mode) (ops : Array Oper) : Nat → Nat → Prop
  | edge {j : Nat} {o : Oper} {e : Edge} (h : ops[j]? = some o) (he : e ∈ o.after) (hb : Region.binds md e = true) : Bef md ops j e.on
  | tail {j i d : Nat} (h : Bef md ops j i) (h' : Bef md ops i d) : Bef md ops j d

abbrev Facts := Nat → World → Prop
def fput (F : Facts) (k : Nat) (φ : World → Prop) : Facts := fun d w => F d w ∧ (d = k → φ w)
theorem fput_comm (F : Facts) (i j : Nat) (φ ψ : World → Prop) : fput (fput F i φ) j ψ = fput (fput F j ψ) i φ := by
  funext d w
  simp only [fput, eq_iff_iff]
  exact ⟨fun ⟨⟨a, b⟩, c⟩ => ⟨⟨a, c⟩, b⟩, fun ⟨⟨a, b⟩, c⟩ => ⟨⟨a, c⟩, b⟩⟩
def Stab (F : Facts) : Prop := ∀ d w w', F d w → Below w.heap.size w w' → F d w'
def Inh (C : World → Prop) (F : Facts) : Prop := ∃ w, C w ∧ ∀ d, F d w
theorem Stab.put {F : Facts} {k : Nat} {φ : World → Prop} (h : Stab F) (hφ : ∀ w w', φ w → Below w.heap.size w w' → φ w') : Stab (fput F k φ) :=
  fun d w w' hd hb => ⟨h d w w' hd.1 hb, fun e => hφ w w' (hd.2 e) hb⟩
theorem Inh.less {C : World → Prop} {F : Facts} {k : Nat} {φ : World → Prop} (h : Inh C (fput F k φ)) : Inh C F :=
  let ⟨w, hw, hd⟩ := h
  ⟨w, hw, fun d => (hd d).1⟩

section
variable {P : Program} {ops : Array Oper} {md : Region.Mode} {C : World → Prop} {Φ : Nat → Option (Value → World → Prop)}

theorem Bef.listed {n : Nat} {listed : Array Bool} (inv : HeadInv md ops n listed) {j d : Nat} (h : Bef md ops j d) : listed.getD j false = true → listed.getD d false = true := by
  induction h with
  | edge h he hb => exact fun hl => inv.closed _ _ h hl _ he hb
  | tail _ _ ih1 ih2 => exact fun hl => ih2 (ih1 hl)
theorem Bef.ready {n : Nat} {listed : Array Bool} (inv : HeadInv md ops n listed) {j d : Nat} (h : Bef md ops j d) : j ∈ Region.ready md ops listed → listed.getD d false = true := by
  induction h with
  | edge h he hb =>
    intro hr
    obtain ⟨_, o, ho, hall⟩ := mem_ready.1 hr
    have : o = _ := Option.some.inj (ho.symm.trans h)
    subst this
    exact hall _ he hb
  | tail _ h2 ih1 _ => exact fun hr => h2.listed inv (ih1 hr)

/-- Operation number i comes up. -/
def spOp (P : Program) (md : Region.Mode) (ops : Array Oper) (C : World → Prop) (Φ : Nat → Option (Value → World → Prop)) (i : Nat) (K : Facts → Act → Prop) (F : Facts) (a : Act) : Prop :=
  match ops[i]? with
  | none => K F a
  | some o =>
    if Region.wanted o (yielded ops a.tmps) = true then
      match Φ i with
      | none => ∃ v, (∀ w, C w → valAt P o a w v) ∧ K F (a.put o.dst v)
      | some φ => (∀ w, C w → (∀ d, Bef md ops i d → F d w) → spAt P o a w fun v w' => C w' ∧ Below w.heap.size w w' ∧ φ v w') ∧ ∀ v, (∃ w, C w ∧ φ v w) → K (fput F i (φ v)) (a.put o.dst v)
    else K F (a.put o.dst undef)

/-- The walk in the order of the text. -/
def wpSp (P : Program) (md : Region.Mode) (ops : Array Oper) (C : World → Prop) (Φ : Nat → Option (Value → World → Prop)) (Q : Facts → Act → Prop) : List Oper → Nat → Facts → Act → Prop
  | [], _, F, a => Q F a
  | o :: rest, k, F, a =>
    (Region.wanted o (yielded ops a.tmps) = true →
      match Φ k with
      | none => ∃ v, (∀ w, C w → valAt P o a w v) ∧ wpSp P md ops C Φ Q rest (k + 1) F (a.put o.dst v)
      | some φ => (∀ w, C w → (∀ d, Bef md ops k d → F d w) → spAt P o a w fun v w' => C w' ∧ Below w.heap.size w w' ∧ φ v w') ∧ ∀ v, (∃ w, C w ∧ φ v w) → wpSp P md ops C Φ Q rest (k + 1) (fput F k (φ v)) (a.put o.dst v)) ∧
    (Region.wanted o (yielded ops a.tmps) = false → wpSp P md ops C Φ Q rest (k + 1) F (a.put o.dst undef))

/-- Every order. -/
def anySp (P : Program) (md : Region.Mode) (ops : Array Oper) (C : World → Prop) (Φ : Nat → Option (Value → World → Prop)) (n : Nat) (L : Array Bool → Facts → Act → Prop) : Nat → Array Bool → Facts → Act → Prop
  | 0, listed, F, a => Inh C F → L listed F a
  | f + 1, listed, F, a => Inh C F → Region.ready md ops listed ≠ [] ∧ ∀ i ∈ Region.ready md ops listed, i < n ∧ spOp P md ops C Φ i (anySp P md ops C Φ n L f (listed.setIfInBounds i true)) F a

theorem spOp_mono {i : Nat} {K K' : Facts → Act → Prop} {F : Facts} {a : Act} (hst : ∀ k φ, Φ k = some φ → ∀ v w w', φ v w → Below w.heap.size w w' → φ v w') (hF : Stab F)
    (h : ∀ F' oi u, ops[i]? = some oi → Stab F' → K F' (a.put oi.dst u) → K' F' (a.put oi.dst u)) (hn : ops[i]? ≠ none) (hh : spOp P md ops C Φ i K F a) : spOp P md ops C Φ i K' F a := by
  unfold spOp at *
  cases ho : ops[i]? with
  | none => exact absurd ho hn
  | some o =>
    simp only [ho] at hh ⊢
    split
    · rename_i hw
      simp only [hw, if_true] at hh
      cases hΦ : Φ i with
      | none =>
        simp only [hΦ] at hh ⊢
        obtain ⟨v, h1, h2⟩ := hh
        exact ⟨v, h1, h _ _ _ ho hF h2⟩
      | some φ =>
        simp only [hΦ] at hh ⊢
        exact ⟨hh.1, fun v hv => h _ _ _ ho (hF.put (hst i φ hΦ v)) (hh.2 v hv)⟩
    · rename_i hw
      simp only [hw] at hh
      exact h _ _ _ ho hF hh

theorem valAt_put {oj : Oper} (hsj : ∀ cs b, oj.op ≠ .select cs b) {a : Act} {dst : Option Tmp} {v u : Value} {w : World} (h1 : ∀ d, dst = some d → d ∉ oj.looksAt ops) : valAt P oj (a.put dst v) w u ↔ valAt P oj a w u := by
  unfold valAt
  rw [execOp_put oj hsj a dst v h1]
theorem spAt_put {oj : Oper} (hsj : ∀ cs b, oj.op ≠ .select cs b) {a : Act} {dst : Option Tmp} {v : Value} {w : World} {R : Value → World → Prop} (h1 : ∀ d, dst = some d → d ∉ oj.looksAt ops) : spAt P oj (a.put dst v) w R ↔ spAt P oj a w R := by
  unfold spAt
  rw [execOp_put oj hsj a dst v h1]

/-- A promise kept, somewhere. -/
theorem spAt_some {o : Oper} {a : Act} {w : World} {R : Value → World → Prop} (h : spAt P o a w R) : ∃ v w', R v w' := by
  unfold spAt at h
  generalize (execOp a.eval o).run P w = r at *
  cases r with
  | ok n w' =>
    cases n <;> simp only [spUpon] at h
    case value u => exact ⟨u, w', h⟩
    case skip => exact ⟨_, w', h⟩
    case enter f args =>
      obtain ⟨e, w'', fr, ⟨v, _, hv⟩, _⟩ := h []
      exact ⟨v, w'', hv⟩
  | halt x w' => simp only [spUpon] at h

theorem anySp_first {n i : Nat} {oi : Oper} {L : Array Bool → Facts → Act → Prop} (hi : ops[i]? = some oi) (hsel : ∀ (j : Nat) (o : Oper) cs b, ops[j]? = some o → o.op ≠ .select cs b)
    (hst : ∀ k φ, Φ k = some φ → ∀ v w w', φ v w → Below w.heap.size w w' → φ v w')
    (hlt : ∀ listed, HeadInv md ops n listed → ∀ i, i < n → listed.getD i true = false → ∀ j ∈ Region.ready md ops listed, j < n) (hin : i < n)
    (hdone : ∀ listed F a, L listed F a → ∀ j ∈ Region.ready md ops listed, n ≤ j) (f : Nat) :
    ∀ (listed : Array Bool) (F : Facts) (a : Act), HeadInv md ops n listed → Stab F →
      (∀ j oj, ops[j]? = some oj → j ≠ i → listed.getD j true = false → (∀ e ∈ oj.after, Region.binds md e = true → e.on ≠ i) → oi.apart ops oj = true) →
      i ∈ Region.ready md ops listed →
      spOp P md ops C Φ i (anySp P md ops C Φ n L f (listed.setIfInBounds i true)) F a → anySp P md ops C Φ n L (f + 1) listed F a := by
  induction f with
  | zero =>
    intro listed F a inv hF _ hr H hinh
    have hun := (mem_ready.1 hr).1
    refine ⟨List.ne_nil_of_mem hr, fun j hj => ?_⟩
    have hjn : j < n := hlt listed inv i hin hun j hj
    refine ⟨hjn, ?_⟩
    by_cases hji : j = i
    · subst hji; exact H
    · exfalso
      have hL : ∃ F' a', L (listed.setIfInBounds i true) F' a' := by
        unfold spOp at H
        simp only [hi] at H
        split at H
        · cases hΦ : Φ i with
          | none =>
            simp only [hΦ] at H
            obtain ⟨v, _, h2⟩ := H
            exact ⟨_, _, h2 hinh⟩
          | some φ =>
            simp only [hΦ] at H
            obtain ⟨ws, hws, hd⟩ := hinh
            obtain ⟨v, w', h1, h2, h3⟩ := spAt_some (H.1 ws hws (fun d _ => hd d))
            exact ⟨_, _, H.2 v ⟨w', h1, h3⟩ ⟨w', h1, fun d => ⟨hF d ws w' (hd d) h2, fun _ => h3⟩⟩⟩
        · exact ⟨_, _, H hinh⟩
      obtain ⟨F', a', hL⟩ := hL
      have := hdone _ _ _ hL j (ready_mono hj hji)
      omega
  | succ f ih =>
    intro listed F a inv hF hfree hr H hinh
    have hun := (mem_ready.1 hr).1
    refine ⟨List.ne_nil_of_mem hr, fun j hj => ?_⟩
    have hjn : j < n := hlt listed inv i hin hun j hj
    refine ⟨hjn, ?_⟩
    by_cases hji : j = i
    · subst hji; exact H
    obtain ⟨hjun, oj, hoj, hall⟩ := mem_ready.1 hj
    have hnot : ∀ e ∈ oj.after, Region.binds md e = true → e.on ≠ i := fun e he hb heq => by
      have h1 := hall e he hb
      rw [heq, getD_both hun] at h1
      cases h1
    have hap := hfree j oj hoj hji hjun hnot
    obtain ⟨p1, p2, p3⟩ := Oper.apart_spec hap
    have hsi := fun cs b => hsel i oi cs b hi
    have hsj := fun cs b => hsel j oj cs b hoj
    have hbj : ∀ d, Bef md ops j d → d ≠ i := fun d hd e => by
      subst e
      have := hd.ready inv hj
      rw [getD_both hun] at this
      cases this
    have hwj : ∀ v, Region.wanted oj (yielded ops (a.put oi.dst v).tmps) = Region.wanted oj (yielded ops a.tmps) := fun v => wanted_put oj a oi.dst v p1
    have hwi : ∀ u, Region.wanted oi (yielded ops (a.put oj.dst u).tmps) = Region.wanted oi (yielded ops a.tmps) := fun u => wanted_put oi a oj.dst u p3
    have hfree' : ∀ k ok, ops[k]? = some ok → k ≠ i → (listed.setIfInBounds j true).getD k true = false → (∀ e ∈ ok.after, Region.binds md e = true → e.on ≠ i) → oi.apart ops ok = true := fun k ok hk hki hun2 hno => by
      refine hfree k ok hk hki ?_ hno
      by_cases hjk : j = k
      · subst hjk; exact hjun
      · rw [getD_set_ne true hjk] at hun2; exact hun2
    have IH := fun F' a' hF' => ih (listed.setIfInBounds j true) F' a' (inv.set hj hjn) hF' hfree' (ready_mono hr (Ne.symm hji))
    have hcl : (listed.setIfInBounds j true).setIfInBounds i true = (listed.setIfInBounds i true).setIfInBounds j true := Array.setIfInBounds_comm _ _ hji
    have hcp : ∀ u v, (a.put oj.dst u).put oi.dst v = (a.put oi.dst v).put oj.dst u := fun u v => (Act.put_comm a v u p2).symm
    rw [hcl] at IH
    have hjr : j ∈ Region.ready md ops (listed.setIfInBounds i true) := ready_mono hj hji
    -- what number i does
    unfold spOp at H
    simp only [hi] at H
    -- the case of a value that is fixed (plain, or not wanted)
    have fixed : ∀ v, anySp P md ops C Φ n L (f + 1) (listed.setIfInBounds i true) F (a.put oi.dst v) →
        (∀ u (K : Facts → Act → Prop) F', K F' ((a.put oj.dst u).put oi.dst v) → spOp P md ops C Φ i K F' (a.put oj.dst u)) →
        spOp P md ops C Φ j (anySp P md ops C Φ n L (f + 1) (listed.setIfInBounds j true)) F a := fun v hK hback => by
      have S := ((hK hinh).2 j hjr).2
      unfold spOp at S ⊢
      simp only [hoj] at S ⊢
      rw [hwj v] at S
      split
      · rename_i hw
        simp only [hw, if_true] at S
        cases hΦj : Φ j with
        | none =>
          simp only [hΦj] at S ⊢
          obtain ⟨u, s1, s2⟩ := S
          refine ⟨u, fun w hw' => (valAt_put hsj p1).1 (s1 w hw'), IH F _ hF (hback u _ F ?_)⟩
          rw [hcp]; exact s2
        | some ψ =>
          simp only [hΦj] at S ⊢
          refine ⟨fun w hw' hd => (spAt_put hsj p1).1 (S.1 w hw' hd), fun u hu => IH _ _ (hF.put (hst j ψ hΦj u)) (hback u _ _ ?_)⟩
          rw [hcp]; exact S.2 u hu
      · rename_i hw
        simp only [hw] at S
        refine IH F _ hF (hback undef _ F ?_)
        rw [hcp]; exact S
    by_cases hw : Region.wanted oi (yielded ops a.tmps) = true
    case neg =>
      simp only [hw] at H
      refine fixed undef H fun u K F' hK => ?_
      unfold spOp
      simp only [hi]
      rw [hwi u, if_neg hw]
      exact hK
    simp only [hw, if_true] at H
    cases hΦi : Φ i with
    | none =>
      simp only [hΦi] at H
      obtain ⟨v, h1, h2⟩ := H
      refine fixed v h2 fun u K F' hK => ?_
      unfold spOp
      simp only [hi]
      rw [hwi u, if_pos hw]
      simp only [hΦi]
      exact ⟨v, fun w hw' => (valAt_put hsi p3).2 (h1 w hw'), hK⟩
    | some φ =>
      simp only [hΦi] at H
      obtain ⟨ws, hws, hd⟩ := hinh
      obtain ⟨v0, w0, h1, h2, h3⟩ := spAt_some (H.1 ws hws (fun d _ => hd d))
      have hin0 : Inh C (fput F i (φ v0)) := ⟨w0, h1, fun d => ⟨hF d ws w0 (hd d) h2, fun _ => h3⟩⟩
      have S := fun v hv hin => ((H.2 v hv hin).2 j hjr).2
      have S0 := S v0 ⟨w0, h1, h3⟩ hin0
      -- number i behind number j
      have back : ∀ u F' (K : Facts → Act → Prop), (∀ d w, F' d w → F d w) → (∀ v, (∃ w, C w ∧ φ v w) → K (fput F' i (φ v)) ((a.put oj.dst u).put oi.dst v)) → spOp P md ops C Φ i K F' (a.put oj.dst u) := fun u F' K hle hK => by
        unfold spOp
        simp only [hi]
        rw [hwi u, if_pos hw]
        simp only [hΦi]
        exact ⟨fun w hw' hd' => (spAt_put hsi p3).2 (H.1 w hw' (fun d hb => hle d w (hd' d hb))), hK⟩
      unfold spOp at S S0 ⊢
      simp only [hoj] at S S0 ⊢
      rw [hwj v0] at S0
      by_cases hw2 : Region.wanted oj (yielded ops a.tmps) = true
      · rw [if_pos hw2] at S0 ⊢
        cases hΦj : Φ j with
        | none =>
          simp only [hΦj] at S S0 ⊢
          obtain ⟨u, s1, s2⟩ := S0
          refine ⟨u, fun w hw' => (valAt_put hsj p1).1 (s1 w hw'), IH F _ hF (back u F _ (fun _ _ h => h) fun v hv => ?_)⟩
          have hg : Inh C (fput F i (φ v)) → anySp P md ops C Φ n L f ((listed.setIfInBounds i true).setIfInBounds j true) (fput F i (φ v)) ((a.put oj.dst u).put oi.dst v) := fun hin => by
            have Sv := S v hv hin
            rw [hwj v, if_pos hw2] at Sv
            obtain ⟨u', t1, t2⟩ := Sv
            have : u = u' := valAt_unique ((valAt_put hsj p1).1 (s1 ws hws)) ((valAt_put hsj p1).1 (t1 ws hws))
            subst this
            rw [hcp]; exact t2
          cases f with
          | zero => exact fun hin => hg hin hin
          | succ f => exact fun hin => hg hin hin
        | some ψ =>
          simp only [hΦj] at S S0 ⊢
          refine ⟨fun w hw' hd' => (spAt_put hsj p1).1 (S0.1 w hw' fun d hb => ⟨hd' d hb, fun e => absurd e (hbj d hb)⟩), fun u hu => ?_⟩
          refine IH _ _ (hF.put (hst j ψ hΦj u)) (back u _ _ (fun _ _ h => h.1) fun v hv => ?_)
          have hg : Inh C (fput (fput F j (ψ u)) i (φ v)) → anySp P md ops C Φ n L f ((listed.setIfInBounds i true).setIfInBounds j true) (fput (fput F j (ψ u)) i (φ v)) ((a.put oj.dst u).put oi.dst v) := fun hin => by
            have Sv := S v hv (by rw [fput_comm] at hin; exact hin.less)
            rw [hwj v, if_pos hw2] at Sv
            rw [hcp, ← fput_comm]; exact Sv.2 u hu
          cases f with
          | zero => exact fun hin => hg hin hin
          | succ f => exact fun hin => hg hin hin
      · rw [if_neg hw2] at S0 ⊢
        refine IH F _ hF (back undef F _ (fun _ _ h => h) fun v hv => ?_)
        have hg : Inh C (fput F i (φ v)) → anySp P md ops C Φ n L f ((listed.setIfInBounds i true).setIfInBounds j true) (fput F i (φ v)) ((a.put oj.dst undef).put oi.dst v) := fun hin => by
          have Sv := S v hv hin
          rw [hwj v, if_neg hw2] at Sv
          rw [hcp]; exact Sv
        cases f with
        | zero => exact fun hin => hg hin hin
        | succ f => exact fun hin => hg hin hin

/-- From some order's promise to the machine's. -/
theorem wpOp_of_spOp {i : Nat} {K : Facts → Act → Prop} {K' : Act → World → Prop} {Q' : Exit → Act → World → Prop} {F : Facts} {a : Act} {w : World} (hst : ∀ k φ, Φ k = some φ → ∀ v w w', φ v w → Below w.heap.size w w' → φ v w')
    (hw : C w) (hF : Stab F) (hd : ∀ d, F d w) (h : ∀ F' a' w', C w' → Stab F' → (∀ d, F' d w') → K F' a' → K' a' w') (hh : spOp P md ops C Φ i K F a) : wpOp P ops Q' i K' a w := by
  unfold spOp at hh
  unfold wpOp
  cases ho : ops[i]? with
  | none => simp only [ho] at hh; exact h _ _ _ hw hF hd hh
  | some o =>
    simp only [ho] at hh ⊢
    split
    · rename_i hwt
      simp only [hwt, if_true] at hh
      refine .inl ?_
      cases hΦ : Φ i with
      | none =>
        simp only [hΦ] at hh
        obtain ⟨v, h1, h2⟩ := hh
        have h3 := h1 w hw
        unfold valAt at h3
        unfold Oper.wp
        generalize (execOp a.eval o).run P w = r at *
        cases r with
        | ok n w' =>
          cases n <;> simp only [valUpon] at h3 <;> simp only [Oper.upon]
          case value u => obtain ⟨e1, e2⟩ := h3; subst e1; subst e2; exact h _ _ _ hw hF hd h2
          case skip => obtain ⟨e1, e2⟩ := h3; subst e1; subst e2; exact h _ _ _ hw hF hd h2
        | halt x w' => simp only [valUpon] at h3
      | some φ =>
        simp only [hΦ] at hh
        have h3 := hh.1 w hw (fun d _ => hd d)
        have hk : ∀ v w', C w' ∧ Below w.heap.size w w' ∧ φ v w' → K' (a.put o.dst v) w' := fun v w' ⟨g1, g2, g3⟩ =>
          h (fput F i (φ v)) _ _ g1 (hF.put (hst i φ hΦ v)) (fun d => ⟨hF d w w' (hd d) g2, fun _ => g3⟩) (hh.2 v ⟨w', g1, g3⟩)
        unfold spAt at h3
        unfold Oper.wp
        generalize (execOp a.eval o).run P w = r at *
        cases r with
        | ok n w' =>
          cases n <;> simp only [spUpon] at h3 <;> simp only [Oper.upon]
          case value u => exact hk _ _ h3
          case skip => exact hk _ _ h3
          case enter f args => exact h3.mono fun e w'' ⟨v, he, hv⟩ => by subst he; exact hk _ _ hv
        | halt x w' => simp only [spUpon] at h3
    · rename_i hwt
      simp only [hwt] at hh
      exact h _ _ _ hw hF hd hh

theorem wpAny_of_sp {n g : Nat} {L : Array Bool → Facts → Act → Prop} {Q' : Exit → Act → World → Prop} (hst : ∀ k φ, Φ k = some φ → ∀ v w w', φ v w → Below w.heap.size w w' → φ v w')
    (hL : ∀ listed F a w, C w → (∀ d, F d w) → L listed F a → wpAny P md ops Q' g listed a w) :
    ∀ (f : Nat) (listed : Array Bool) (F : Facts) (a : Act) (w : World), C w → Stab F → (∀ d, F d w) → anySp P md ops C Φ n L f listed F a → wpAny P md ops Q' (f + g) listed a w
  | 0, listed, F, a, w, hw, _, hd, h => by rw [Nat.zero_add]; exact hL _ _ _ _ hw hd (h ⟨w, hw, hd⟩)
  | f + 1, listed, F, a, w, hw, hF, hd, h => by
    rw [show f + 1 + g = (f + g) + 1 by omega]
    obtain ⟨h1, h2⟩ := h ⟨w, hw, hd⟩
    exact ⟨fun h0 => absurd h0 h1, fun i hi => wpOp_of_spOp hst hw hF hd (fun F' a' w' hw' hF' hd' h' => wpAny_of_sp hst hL f _ F' a' w' hw' hF' hd' h') (h2 i hi).2⟩

/-- The order of the text may be kept, up to here. -/
def spLex (md : Region.Mode) (ops : Array Oper) (fin : Array Bool → Bool) : Nat → Nat → Array Bool → Bool
  | 0, _, listed => fin listed
  | fuel + 1, k, listed => (Region.ready md ops listed).contains k && Region.free md ops listed k && spLex md ops fin fuel (k + 1) (listed.setIfInBounds k true)

theorem anySp_lex {n : Nat} {fin : Array Bool → Bool} {Lq : Facts → Act → Prop} (hsel : Region.noSelect ops = true) (hst : ∀ k φ, Φ k = some φ → ∀ v w w', φ v w → Below w.heap.size w w' → φ v w')
    (hlt : ∀ listed, HeadInv md ops n listed → ∀ i, i < n → listed.getD i true = false → ∀ j ∈ Region.ready md ops listed, j < n)
    (hdone : ∀ listed, fin listed = true → ∀ j ∈ Region.ready md ops listed, n ≤ j) :
    ∀ (l : List Oper) (k : Nat) (listed : Array Bool) (F : Facts) (a : Act), (∀ j, j < l.length → l[j]? = ops[k + j]?) → k + l.length = n → HeadInv md ops n listed → Stab F →
    spLex md ops fin l.length k listed = true → wpSp P md ops C Φ Lq l k F a →
    anySp P md ops C Φ n (fun listed' F' a' => fin listed' = true ∧ Lq F' a') l.length listed F a
  | [], k, listed, F, a, _, hk, _, _, hB, h => fun _ => ⟨by simpa [spLex] using hB, h⟩
  | o :: l, k, listed, F, a, hl, hk, inv, hF, hB, h => by
    have h0 : ops[k]? = some o := by simpa using (hl 0 (by simp)).symm
    simp only [List.length_cons, spLex, Bool.and_eq_true] at hB
    obtain ⟨⟨hr, hf⟩, hB'⟩ := hB
    have hkn : k < n := by simp only [List.length_cons] at hk; omega
    have hr' : k ∈ Region.ready md ops listed := by simpa using hr
    have hst2 : spOp P md ops C Φ k (wpSp P md ops C Φ Lq l (k + 1)) F a := by
      unfold spOp
      simp only [h0]
      split
      · rename_i hw; exact h.1 hw
      · rename_i hw; exact h.2 (by simpa using hw)
    refine anySp_first h0 (Region.noSelect_spec hsel) hst hlt hkn (fun listed F a hL => hdone listed hL.1) l.length listed F a inv hF (Region.free_spec h0 hf) hr' ?_
    refine spOp_mono hst hF (fun F' oi u hoi hF' hK => ?_) (by rw [h0]; simp) hst2
    exact anySp_lex hsel hst hlt hdone l (k + 1) _ _ _ (fun j hj => by have := hl (j + 1) (by simp; omega); simpa [Nat.add_assoc, Nat.add_comm 1 j] using this) (by simp only [List.length_cons] at hk; omega) (inv.set hr' hkn) hF' hB' hK
end

section
variable {P : Program} {C : World → Prop} {Φ : Nat → Option (Value → World → Prop)} {id : Nat} {Q : Exit → Act → World → Prop} {a : Act} {w : World} {l : List Oper}
/-- A whole region. -/
def spFull (ops : Array Oper) : Bool := Region.noSelect ops && spLex .any ops (fun listed => (Region.ready .any ops listed).isEmpty) ops.size 0 (Array.replicate ops.size false)
theorem wp_region_sp (hm : P.follows .mixedOrders = true) (hB : spFull l.toArray = true) (hst : ∀ k φ, Φ k = some φ → ∀ v w w', φ v w → Below w.heap.size w w' → φ v w') (hC : C w.drew)
    (h : wpSp P .any l.toArray C Φ (fun F a' => ∀ w', C w' → (∀ d, F d w') → Q .normal a' w') l 0 (fun _ _ => True) a) : (Code.region id l.toArray true).wp P Q a w := by
  simp only [spFull, Bool.and_eq_true] at hB
  have inv0 : HeadInv .any l.toArray l.toArray.size (Array.replicate l.toArray.size false) :=
    ⟨by simp, fun j oj _ hl => (by rw [getD_replicate_false] at hl; cases hl), fun t ht1 ht => by omega⟩
  have H := anySp_lex (C := C) (Φ := Φ) (P := P) (md := .any) (n := l.toArray.size) (fin := fun listed => (Region.ready .any l.toArray listed).isEmpty) hB.1 hst (fun listed _ i _ _ j hj => by
      obtain ⟨_, o, ho, _⟩ := mem_ready.1 hj
      exact (Array.getElem?_eq_some_iff.1 ho).1)
    (fun listed hf j hj => by
      have : Region.ready .any l.toArray listed = [] := (by simpa using hf)
      rw [this] at hj
      cases hj)
    l 0 (Array.replicate l.toArray.size false) (fun _ _ => True) a (fun j hj => by simp) (by simp) inv0 (fun _ _ _ h _ => h) (by simpa using hB.2) h
  refine wp_region_any hm ?_
  have := wpAny_of_sp (Q' := Q) (g := 0) hst (fun listed F a' w' hw' hd' hL => ⟨by simpa using hL.1, hL.2 w' hw' hd'⟩) _ _ _ _ w.drew hC (fun _ _ _ h _ => h) (fun _ => trivial) H
  simpa using this
/-- A region with a tail: the tail's operations come one after the other, behind the whole head. -/
def spTail (ops : Array Oper) (n : Nat) : Bool :=
  Region.noSelect ops && decide (n < ops.size) && Region.sinkB .any ops n && Region.chainB .any ops n && spLex .any ops (fun listed => Region.seqB .any ops (ops.size - n) n listed) n 0 (Array.replicate ops.size false)
theorem wp_region_sp_tail (n : Nat) (hm : P.follows .mixedOrders = true) (hB : spTail l.toArray n = true) (hst : ∀ k φ, Φ k = some φ → ∀ v w w', φ v w → Below w.heap.size w w' → φ v w') (hC : C w.drew)
    (h : wpSp P .any l.toArray C Φ (fun F a' => ∀ w', C w' → (∀ d, F d w') → wpList P l.toArray Q (l.drop n) a' w') (l.take n) 0 (fun _ _ => True) a) : (Code.region id l.toArray true).wp P Q a w := by
  simp only [spTail, Bool.and_eq_true, decide_eq_true_eq] at hB
  obtain ⟨⟨⟨⟨hsel, hn⟩, hs⟩, hc⟩, hlex⟩ := hB
  have hn' : n < l.length := by simpa using hn
  have htl : (l.take n).length = n := by simp; omega
  have hdl : (l.drop n).length = l.toArray.size - n := by simp
  have inv0 : HeadInv .any l.toArray n (Array.replicate l.toArray.size false) :=
    ⟨by simp, fun j oj _ hl => (by rw [getD_replicate_false] at hl; cases hl), fun t _ ht => getD_in (by simpa using ht) (getD_replicate_false _ _)⟩
  have H := anySp_lex (C := C) (Φ := Φ) (P := P) (md := .any) (n := n) hsel hst (fun listed inv i hi hun j hj => Nat.lt_of_not_le fun h => tail_waits hs hc hn inv _ i rfl hi hun j h hj)
    (fun listed hf j hj => seqB_ready hf j hj)
    (l.take n) 0 (Array.replicate l.toArray.size false) (fun _ _ => True) a (fun j hj => by
      have hj' : j < n := by rw [htl] at hj; exact hj
      simp [hj']) (by simpa using htl) inv0 (fun _ _ _ h _ => h) (by rw [htl]; exact hlex) h
  refine wp_region_any hm ?_
  have := wpAny_of_sp (Q' := Q) (g := l.toArray.size - n) hst (fun listed F a' w' hw' hd' hL => by
    have := wpAny_of_seq (md := .any) (Q' := Q) (l.drop n) n listed a' w' (fun j => by simp [List.getElem?_drop]) (by rw [hdl]; exact hL.1) (hL.2 w' hw' hd')
    rwa [hdl] at this) _ _ _ _ w.drew hC (fun _ _ _ h _ => h) (fun _ => trivial) H
  rw [htl, show n + (l.toArray.size - n) = l.toArray.size by omega] at this
  exact this
end

/-- What a region's operations promise, by their numbers. -/
abbrev Sp := { φ : Value → World → Prop // ∀ v w w', φ v w → Below w.heap.size w w' → φ v w' }
def Tab (t : List (Nat × Sp)) (k : Nat) : Option (Value → World → Prop) := (t.lookup k).map (·.1)
theorem Tab.stable (t : List (Nat × Sp)) : ∀ k φ, Tab t k = some φ → ∀ v w w', φ v w → Below w.heap.size w w' → φ v w' := by
  intro k φ h
  unfold Tab at h
  cases hl : t.lookup k with
  | none => rw [hl] at h; cases h
  | some s => rw [hl] at h; cases h; exact s.2
def spV (v0 : Value) : Sp := ⟨fun v _ => v = v0, fun _ _ _ h _ => h⟩

section
variable {P : Program} {md : Region.Mode} {ops : Array Oper} {C : World → Prop} {Φ : Nat → Option (Value → World → Prop)} {Q : Facts → Act → Prop} {o : Oper} {rest : List Oper} {k : Nat} {F : Facts} {a : Act}
/-- A plain operation. -/
theorem sp_plain (hΦ : Φ k = none) (h : ∀ K : Act → Prop, (∀ a, wpSp P md ops C Φ Q rest (k + 1) F a → K a) → if Region.wanted o (yielded ops a.tmps) = true then ∃ v, (∀ w, C w → valAt P o a w v) ∧ K (a.put o.dst v) else K (a.put o.dst undef)) :
    wpSp P md ops C Φ Q (o :: rest) k F a := by
  have h2 := h _ (fun _ h => h)
  refine ⟨fun hw => ?_, fun hw => ?_⟩
  · simp only [hw, if_true] at h2
    simp only [hΦ]
    exact h2
  · simp only [hw] at h2
    exact h2
/-- A plain operation whose value is said. -/
theorem sp_val (v : Value) (hΦ : Φ k = none) (hw : Region.wanted o (yielded ops a.tmps) = true) (hv : ∀ w, C w → (execOp a.eval o).run P w = .ok (.value v) w) (h : wpSp P md ops C Φ Q rest (k + 1) F (a.put o.dst v)) :
    wpSp P md ops C Φ Q (o :: rest) k F a := by
  refine ⟨fun _ => ?_, fun h0 => by rw [hw] at h0; cases h0⟩
  simp only [hΦ]
  exact ⟨v, fun w hC => by unfold valAt; rw [hv w hC]; exact ⟨rfl, rfl⟩, h⟩
/-- One that a guard skips. -/
theorem sp_skip (hw : Region.wanted o (yielded ops a.tmps) = false) (h : ∀ K : Act → Prop, (∀ a, wpSp P md ops C Φ Q rest (k + 1) F a → K a) → K (a.put o.dst undef)) : wpSp P md ops C Φ Q (o :: rest) k F a := by
  exact ⟨fun h0 => (by rw [hw] at h0; cases h0), fun _ => h _ fun _ h => h⟩
/-- One with a promise. -/
theorem sp_spec {φ : Value → World → Prop} (hΦ : Φ k = some φ) (hw : Region.wanted o (yielded ops a.tmps) = true) (h1 : ∀ w, C w → (∀ d, Bef md ops k d → F d w) → spAt P o a w fun v w' => C w' ∧ Below w.heap.size w w' ∧ φ v w')
    (h2 : ∀ v, (∃ w, C w ∧ φ v w) → ∀ K : Act → Prop, (∀ a, wpSp P md ops C Φ Q rest (k + 1) (fput F k (φ v)) a → K a) → K (a.put o.dst v)) : wpSp P md ops C Φ Q (o :: rest) k F a := by
  refine ⟨fun _ => ?_, fun h0 => by rw [hw] at h0; cases h0⟩
  simp only [hΦ]
  exact ⟨h1, fun v hv => h2 v hv _ fun _ h => h⟩
theorem sp_nil (h : Q F a) : wpSp P md ops C Φ Q [] k F a := h
/-- A whole variable is read. -/
theorem sp_load_row (hΦ : Φ k = none) (hw : Region.wanted o (yielded ops a.tmps) = true) (ty : TypeId) (x : Operand) (ho : o.op = .load ty x)
    (g : Nat) (hx : a.eval x = .pointer (some ⟨g, 0, none⟩)) (t : TypeId) (cs : Array Value) (fr : Nat × Nat) (d : TypeDesc) (hg : ∀ w, C w → w.heap[g]? = some (.cells cs t fr))
    (hu : P.underlying ty = some d) (hd : (match d with | .struct _ | .array _ _ => true | _ => false) = true) (hi : (P.info? ty).map (·.size) = some cs.size)
    (h : ∀ K : Act → Prop, (∀ a, wpSp P md ops C Φ Q rest (k + 1) F a → K a) → K (a.put o.dst (.agg cs))) : wpSp P md ops C Φ Q (o :: rest) k F a :=
  sp_val _ hΦ hw (fun w hw => by
    unfold execOp
    simp only [ho, hx, Instr.loadAt, Instr.sureAddr, Sem.run_bind, Sem.run_pure, Result.andThen_ok, run_loadVar_row w g t ty cs fr d (hg w hw) hu hd hi]) (h _ fun _ h => h)
end

/-- Who comes before, counted. -/
def preds (md : Region.Mode) (ops : Array Oper) (i : Nat) : List Nat :=
  match ops[i]? with
  | some o => (o.after.toList.filter fun e => Region.binds md e).map (·.on)
  | none => []
def ancs (md : Region.Mode) (ops : Array Oper) : Nat → List Nat → List Nat → List Nat
  | 0, _, s => s
  | _ + 1, [], s => s
  | f + 1, i :: r, s => if s.contains i then ancs md ops f r s else ancs md ops f (preds md ops i ++ r) (i :: s)
theorem preds_bef {md : Region.Mode} {ops : Array Oper} {i x : Nat} (h : x ∈ preds md ops i) : Bef md ops i x := by
  unfold preds at h
  cases ho : ops[i]? with
  | none => rw [ho] at h; cases h
  | some o =>
    rw [ho] at h
    obtain ⟨e, he, rfl⟩ := List.mem_map.1 h
    obtain ⟨h1, h2⟩ := List.mem_filter.1 he
    exact .edge ho (by simpa using h1) h2
theorem ancs_bef {md : Region.Mode} {ops : Array Oper} {j : Nat} : ∀ (f : Nat) (fr s : List Nat), (∀ x ∈ fr, Bef md ops j x) → (∀ x ∈ s, Bef md ops j x) → ∀ x ∈ ancs md ops f fr s, Bef md ops j x
  | 0, _, _, _, hs, x, hx => hs x hx
  | _ + 1, [], _, _, hs, x, hx => hs x hx
  | f + 1, i :: r, s, hf, hs, x, hx => by
    unfold ancs at hx
    split at hx
    · exact ancs_bef f r s (fun y hy => hf y (List.mem_cons_of_mem _ hy)) hs x hx
    · refine ancs_bef f _ _ (fun y hy => ?_) (fun y hy => ?_) x hx
      · rcases List.mem_append.1 hy with hy | hy
        · exact .tail (hf i (by simp)) (preds_bef hy)
        · exact hf y (List.mem_cons_of_mem _ hy)
      · rcases List.mem_cons.1 hy with rfl | hy
        · exact hf _ (by simp)
        · exact hs y hy
theorem bef_of {md : Region.Mode} {ops : Array Oper} {j d : Nat} (h : (ancs md ops 2000 (preds md ops j) []).contains d = true) : Bef md ops j d :=
  ancs_bef 2000 _ [] (fun _ hx => preds_bef hx) (fun _ hx => by cases hx) d (by simpa using h)
end Chart

namespace Chart
open Go Go.RowKit

section
variable {P : Program} {md : Region.Mode} {ops : Array Oper} {C : World → Prop} {Q : Act → World → Prop}

def mOp (P : Program) (ops : Array Oper) (i : Nat) (K : Act → World → Prop) (a : Act) (w : World) : Prop :=
  match ops[i]? with
  | none => K a w
  | some o => if Region.wanted o (yielded ops a.tmps) = true then spAt P o a w (fun v w' => K (a.put o.dst v) w') else K (a.put o.dst undef) w
def anyM (P : Program) (md : Region.Mode) (ops : Array Oper) (C : World → Prop) (Q : Act → World → Prop) : Nat → Array Bool → Act → World → Prop
  | 0, listed, a, w => Region.ready md ops listed = [] ∧ ∀ w', Below w.heap.size w w' → C w' → Q a w'
  | f + 1, listed, a, w => ∀ w', Below w.heap.size w w' → C w' →
    (Region.ready md ops listed = [] → Q a w') ∧ ∀ i ∈ Region.ready md ops listed, mOp P ops i (fun a' w'' => C w'' ∧ anyM P md ops C Q f (listed.setIfInBounds i true) a' w'') a w'

theorem anyM.grow {f : Nat} {listed : Array Bool} {a : Act} {w w1 : World} (h : anyM P md ops C Q f listed a w) (hb : Below w.heap.size w w1) : anyM P md ops C Q f listed a w1 := by
  cases f with
  | zero => exact ⟨h.1, fun w' hb' hC => h.2 w' (hb.trans (hb'.mono hb.size)) hC⟩
  | succ f => exact fun w' hb' hC => h w' (hb.trans (hb'.mono hb.size)) hC

theorem spUpon_mono {R R' : Value → World → Prop} (h : ∀ v w, R v w → R' v w) {r : Result Next} (hh : spUpon P R r) : spUpon P R' r := by
  cases r with
  | ok n w' =>
    cases n <;> simp only [spUpon] at hh ⊢
    case value u => exact h _ _ hh
    case skip => exact h _ _ hh
    case enter f args => exact hh.mono fun e w'' ⟨v, he, hv⟩ => ⟨v, he, h _ _ hv⟩
  | halt x w' => simp only [spUpon] at hh
theorem spAt_mono {o : Oper} {a : Act} {w : World} {R R' : Value → World → Prop} (h : ∀ v w, R v w → R' v w) (hh : spAt P o a w R) : spAt P o a w R' := spUpon_mono h hh

/-- One value, in every world of the class, which may grow. -/
def QV (P : Program) (ops : Array Oper) (C : World → Prop) (o : Oper) (v : Value) (a : Act) : Prop :=
  (Region.wanted o (yielded ops a.tmps) = true ∧ ∀ w, C w → spAt P o a w fun u w' => u = v ∧ C w' ∧ Below w.heap.size w w') ∨ (Region.wanted o (yielded ops a.tmps) = false ∧ v = undef)

theorem mOp_of_QV {i : Nat} {o : Oper} {v : Value} {a : Act} {w : World} {K : Act → World → Prop} (hi : ops[i]? = some o) (hC : C w) (hq : QV P ops C o v a) (h : ∀ w', C w' → Below w.heap.size w w' → K (a.put o.dst v) w') : mOp P ops i K a w := by
  unfold mOp
  simp only [hi]
  rcases hq with ⟨hw, hq⟩ | ⟨hw, rfl⟩
  · rw [if_pos hw]
    exact spAt_mono (fun u w' ⟨h1, h2, h3⟩ => by subst h1; exact h _ h2 h3) (hq w hC)
  · rw [if_neg (by rw [hw]; decide)]
    exact h w hC (Below.refl _ _)

theorem anyM_first {i : Nat} {oi : Oper} {v : Value} (hi : ops[i]? = some oi) (hsel : ∀ (j : Nat) (o : Oper) cs b, ops[j]? = some o → o.op ≠ .select cs b) (f : Nat) :
    ∀ (listed : Array Bool) (a : Act) (w : World),
      (∀ j oj, ops[j]? = some oj → j ≠ i → listed.getD j true = false → (∀ e ∈ oj.after, Region.binds md e = true → e.on ≠ i) → oi.apart ops oj = true) →
      i ∈ Region.ready md ops listed → QV P ops C oi v a →
      anyM P md ops C Q f (listed.setIfInBounds i true) (a.put oi.dst v) w → anyM P md ops C Q (f + 1) listed a w := by
  induction f with
  | zero =>
    intro listed a w _ hr hq H w' hb hC
    refine ⟨fun h => (by rw [h] at hr; cases hr), fun j hj => ?_⟩
    by_cases hji : j = i
    · subst hji
      exact mOp_of_QV hi hC hq fun w'' hC' hb' => ⟨hC', H.grow (hb.trans (hb'.mono hb.size))⟩
    · have := ready_mono hj hji
      rw [H.1] at this
      cases this
  | succ f ih =>
    intro listed a w hfree hr hq H w' hb hC
    refine ⟨fun h => (by rw [h] at hr; cases hr), fun j hj => ?_⟩
    by_cases hji : j = i
    · subst hji
      exact mOp_of_QV hi hC hq fun w'' hC' hb' => ⟨hC', H.grow (hb.trans (hb'.mono hb.size))⟩
    have hun := (mem_ready.1 hr).1
    obtain ⟨hjun, oj, hoj, hall⟩ := mem_ready.1 hj
    have hnot : ∀ e ∈ oj.after, Region.binds md e = true → e.on ≠ i := fun e he hb heq => by
      have h1 := hall e he hb
      rw [heq, getD_both hun] at h1
      cases h1
    obtain ⟨p1, p2, p3⟩ := Oper.apart_spec (hfree j oj hoj hji hjun hnot)
    have hsi := fun cs b => hsel i oi cs b hi
    have hsj := fun cs b => hsel j oj cs b hoj
    have hfree' : ∀ k ok, ops[k]? = some ok → k ≠ i → (listed.setIfInBounds j true).getD k true = false → (∀ e ∈ ok.after, Region.binds md e = true → e.on ≠ i) → oi.apart ops ok = true := fun k ok hk hki hun2 hno => by
      refine hfree k ok hk hki ?_ hno
      by_cases hjk : j = k
      · subst hjk; exact hjun
      · rw [getD_set_ne true hjk] at hun2; exact hun2
    have keep : ∀ u, QV P ops C oi v (a.put oj.dst u) := fun u => by
      unfold QV at hq ⊢
      rw [wanted_put oi a oj.dst u p3]
      exact hq.imp (fun ⟨h1, h2⟩ => ⟨h1, fun w hw => (spAt_put hsi p3).2 (h2 w hw)⟩) id
    have nxt : ∀ u w'', C w'' ∧ anyM P md ops C Q f ((listed.setIfInBounds i true).setIfInBounds j true) ((a.put oi.dst v).put oj.dst u) w'' → C w'' ∧ anyM P md ops C Q (f + 1) (listed.setIfInBounds j true) (a.put oj.dst u) w'' := fun u w'' ⟨h1, h2⟩ => by
      refine ⟨h1, ih _ _ _ hfree' (ready_mono hr (Ne.symm hji)) (keep u) ?_⟩
      rw [Array.setIfInBounds_comm _ _ hji, ← Act.put_comm a v u p2]
      exact h2
    have S := (H w' hb hC).2 j (ready_mono hj hji)
    unfold mOp at S ⊢
    simp only [hoj] at S ⊢
    rw [wanted_put oj a oi.dst v p1] at S
    split
    · rename_i hw
      simp only [hw, if_true] at S
      exact spAt_mono (fun u w'' h => nxt u w'' h) ((spAt_put hsj p1).1 S)
    · rename_i hw
      simp only [hw] at S
      exact nxt _ _ S

theorem wpOp_of_mOp {i : Nat} {K K' : Act → World → Prop} {Q' : Exit → Act → World → Prop} {a : Act} {w : World} (h : ∀ a w, K a w → K' a w) (hh : mOp P ops i K a w) : wpOp P ops Q' i K' a w := by
  unfold mOp at hh
  unfold wpOp
  cases ho : ops[i]? with
  | none => simp only [ho] at hh; exact h _ _ hh
  | some o =>
    simp only [ho] at hh ⊢
    split
    · rename_i hw
      simp only [hw, if_true] at hh
      refine .inl ?_
      unfold spAt at hh
      unfold Oper.wp
      generalize (execOp a.eval o).run P w = r at *
      cases r with
      | ok n w' =>
        cases n <;> simp only [spUpon] at hh <;> simp only [Oper.upon]
        case value u => exact h _ _ hh
        case skip => exact h _ _ hh
        case enter f args => exact hh.mono fun e w'' ⟨v, he, hv⟩ => by subst he; exact h _ _ hv
      | halt x w' => simp only [spUpon] at hh
    · rename_i hw
      simp only [hw] at hh
      exact h _ _ hh
theorem wpAny_of_M {Q' : Exit → Act → World → Prop} : ∀ (f : Nat) (listed : Array Bool) (a : Act) (w : World), C w → anyM P md ops C (Q' .normal) f listed a w → wpAny P md ops Q' f listed a w
  | 0, _, _, w, hC, h => ⟨h.1, h.2 w (Below.refl _ _) hC⟩
  | f + 1, listed, a, w, hC, h => by
    obtain ⟨h1, h2⟩ := h w (Below.refl _ _) hC
    exact ⟨h1, fun i hi => wpOp_of_mOp (fun a' w' ⟨h3, h4⟩ => wpAny_of_M f _ a' w' h3 h4) (h2 i hi)⟩
theorem wp_region_M {id : Nat} {Q' : Exit → Act → World → Prop} {a : Act} {w : World} (hm : P.follows .mixedOrders = true) (hC : C w.drew)
    (h : anyM P .any ops C (Q' .normal) ops.size (Array.replicate ops.size false) a w.drew) : (Code.region id ops true).wp P Q' a w :=
  wp_region_any hm (wpAny_of_M _ _ _ _ hC h)

/-- Taken first: a plain operation. -/
theorem m_plain (i : Nat) {oi : Oper} {f : Nat} {listed : Array Bool} {a : Act} {w : World} (hi : ops[i]? = some oi) (hs : Region.noSelect ops = true) (hf : Region.free md ops listed i = true) (hr : (Region.ready md ops listed).contains i = true)
    (h : ∀ K : Act → Prop, (∀ a, anyM P md ops C Q f (listed.setIfInBounds i true) a w → K a) → if Region.wanted oi (yielded ops a.tmps) = true then ∃ v, (∀ w, C w → valAt P oi a w v) ∧ K (a.put oi.dst v) else K (a.put oi.dst undef)) :
    anyM P md ops C Q (f + 1) listed a w := by
  have h2 := h _ fun _ h => h
  by_cases hw : Region.wanted oi (yielded ops a.tmps) = true
  · simp only [hw, if_true] at h2
    obtain ⟨v, hv, hK⟩ := h2
    refine anyM_first hi (Region.noSelect_spec hs) f listed a w (Region.free_spec hi hf) (by simpa using hr) (.inl ⟨hw, fun w hC => ?_⟩) hK
    have h3 := hv w hC
    unfold valAt at h3
    unfold spAt
    generalize (execOp a.eval oi).run P w = r at *
    cases r with
    | ok n w' =>
      cases n <;> simp only [valUpon] at h3 <;> simp only [spUpon]
      case value u => obtain ⟨e1, e2⟩ := h3; subst e1; exact ⟨e2, hC, Below.refl _ _⟩
      case skip => obtain ⟨e1, e2⟩ := h3; subst e1; exact ⟨e2.symm, hC, Below.refl _ _⟩
    | halt x w' => simp only [valUpon] at h3
  · simp only [hw] at h2
    exact anyM_first hi (Region.noSelect_spec hs) f listed a w (Region.free_spec hi hf) (by simpa using hr) (.inr ⟨by simpa using hw, rfl⟩) h2
/-- Taken first: an operation of one value in every world of the class. -/
theorem m_take (i : Nat) (v : Value) {oi : Oper} {f : Nat} {listed : Array Bool} {a : Act} {w : World} (hi : ops[i]? = some oi) (hs : Region.noSelect ops = true) (hf : Region.free md ops listed i = true) (hr : (Region.ready md ops listed).contains i = true)
    (hw : Region.wanted oi (yielded ops a.tmps) = true) (hq : ∀ w, C w → spAt P oi a w fun u w' => u = v ∧ C w' ∧ Below w.heap.size w w')
    (h : ∀ K : Act → Prop, (∀ a, anyM P md ops C Q f (listed.setIfInBounds i true) a w → K a) → K (a.put oi.dst v)) : anyM P md ops C Q (f + 1) listed a w :=
  anyM_first hi (Region.noSelect_spec hs) f listed a w (Region.free_spec hi hf) (by simpa using hr) (.inl ⟨hw, hq⟩) (h _ fun _ h => h)
/-- The one that comes up. -/
theorem m_step (i : Nat) {oi : Oper} {f : Nat} {listed : Array Bool} {a : Act} {w : World} (hi : ops[i]? = some oi) (hr : Region.ready md ops listed = [i]) (hw : Region.wanted oi (yielded ops a.tmps) = true)
    (h : ∀ w', Below w.heap.size w w' → C w' → ∀ K : Act → World → Prop, (∀ a w'', C w'' → anyM P md ops C Q f (listed.setIfInBounds i true) a w'' → K a w'') → spAt P oi a w' fun v w'' => K (a.put oi.dst v) w'') : anyM P md ops C Q (f + 1) listed a w := by
  intro w' hb hC
  refine ⟨fun h0 => (by rw [h0] at hr; cases hr), fun j hj => ?_⟩
  rw [hr, List.mem_singleton] at hj
  subst hj
  unfold mOp
  simp only [hi]
  rw [if_pos hw]
  exact h w' hb hC (fun a w'' => C w'' ∧ anyM P md ops C Q f (listed.setIfInBounds j true) a w'') fun _ _ h1 h2 => ⟨h1, h2⟩
/-- All have come up. -/
theorem m_done {listed : Array Bool} {a : Act} {w : World} (hr : Region.ready md ops listed = []) (h : ∀ w', Below w.heap.size w w' → C w' → Q a w') : anyM P md ops C Q 0 listed a w := ⟨hr, h⟩
end
end Chart
namespace Chart
open Go Go.RowKit
section
variable {P : Program} {md : Region.Mode} {ops : Array Oper} {C : World → Prop} {Q : Act → World → Prop}
/-- Taken first: a whole variable is read. -/
theorem m_load_row (i : Nat) {o : Oper} {f : Nat} {listed : Array Bool} {a : Act} {w : World} (hi : ops[i]? = some o) (hs : Region.noSelect ops = true) (hf : Region.free md ops listed i = true) (hr : (Region.ready md ops listed).contains i = true)
    (hw : Region.wanted o (yielded ops a.tmps) = true) (ty : TypeId) (x : Operand) (ho : o.op = .load ty x)
    (g : Nat) (hx : a.eval x = .pointer (some ⟨g, 0, none⟩)) (t : TypeId) (cs : Array Value) (fr : Nat × Nat) (d : TypeDesc) (hg : ∀ w, C w → w.heap[g]? = some (.cells cs t fr))
    (hu : P.underlying ty = some d) (hd : (match d with | .struct _ | .array _ _ => true | _ => false) = true) (hi2 : (P.info? ty).map (·.size) = some cs.size)
    (h : ∀ K : Act → Prop, (∀ a, anyM P md ops C Q f (listed.setIfInBounds i true) a w → K a) → K (a.put o.dst (.agg cs))) : anyM P md ops C Q (f + 1) listed a w :=
  m_take i (.agg cs) hi hs hf hr hw (fun w hC => by
    unfold spAt execOp
    simp only [ho, hx, Instr.loadAt, Instr.sureAddr, Sem.run_bind, Sem.run_pure, Result.andThen_ok, run_loadVar_row w g t ty cs fr d (hg w hC) hu hd hi2]
    exact ⟨rfl, hC, Below.refl _ _⟩) h
theorem own_mV {N : Nat} {w : World} {p : Own N w} {f : FuncId} {args : Array Value} {v0 : Value} (hN : N ≤ w.heap.size)
    (h : Calls P f args p.w' fun e w' => e = .returned v0 ∧ Below p.w'.heap.size p.w' w') :
    Calls P f args p.w' fun e w'' => ∃ v, e = .returned v ∧ v = v0 ∧ (∃ q : Own N w, w'' = q.w') ∧ Below p.w'.heap.size p.w' w'' :=
  h.mono fun _ _ ⟨he, hb⟩ => ⟨v0, he, rfl, ⟨.of (p.below.trans (hb.mono (Nat.le_trans hN p.below.size))), rfl⟩, hb⟩
end
end Chart
