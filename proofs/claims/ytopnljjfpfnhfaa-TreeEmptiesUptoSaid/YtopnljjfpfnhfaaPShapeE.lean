/- TreeShape, TreeEmpties. -/
import Derived.Test.YtopnljjfpfnhfaaPShapeD
namespace Go.Proofs.Ytopnljjfpfnhfaa
open Go D
set_option linter.unusedVariables false
set_option linter.unusedSimpArgs false

theorem insKV_len' (k v : Key) : ∀ l : List KV, (insKV k v l).length ≤ l.length + 1
  | [] => by simp [insKV]
  | (a, x) :: r => by
    have ih := insKV_len' k v r
    unfold insKV
    split
    · simp only [List.length_cons]; omega
    · split <;> simp
theorem delKV_len' (k : Key) (l : List KV) : (delKV k l).length ≤ l.length := List.length_filter_le _ _
set_option maxRecDepth 20000 in
theorem treeShape_spec {h : Heap} {x0 : Sl} (h0 : OpS h x0.a x0.len) {R : Bool → Heap → Prop} (hk : ∀ h', Nw h h' → R true h') : CallT Try.prog law8_TreeShape_no [.slice x0.a x0.len x0.cap] h [.sc .bool] R := by
  have hcall := law8_TreeShape_call x0 (R := R) (h := h)
  apply hcall
  clear hcall
  unfold law8_TreeShape
  refine treeNew ?_
  intro p2 h2 n2 t2
  refine cnd_f rfl ?_
  refine LoopT.intro (fun (s : Option Addr × Int) hh => ∃ (i p : Nat) (l : List KV), s.1 = some ⟨p, 0, none⟩ ∧ s.2 = (i : Int) ∧ i ≤ 400 ∧ l.length ≤ i ∧ Nw h2 hh ∧ TreeAt hh (fun b => b < hh.size) p l) (fun s _ => (400 - s.2).toNat)
    ⟨0, p2, [], rfl, rfl, by omega, by simp, Keep.refl _ _, t2.mono (fun b hb => hb.2)⟩ ?_
  rintro ⟨tp, ix⟩ ha ⟨i, p, l, rfl, rfl, hi, ll, na, ta⟩
  have n0a := n2.trans' na
  refine withJ.inl ?_
  refine cnd_share True ?_ ?_ (fun _ => trivial)
  · intro _
    refine withJ.inl ?_
    refine shape_spec ta (fun b hb => hb) (by omega) ?_
    intro hx nx
    refine cnd_t rfl ?_
    refine awake_spec ?_
    intro hy ny
    exact hk hy ((n0a.trans' nx).trans' ny)
  · intro c hT
    refine cnd_dec ?_ ?_
    rotate_left
    · intro _; exact hT trivial
    intro c2
    have hil : i < x0.len := by have : (i : Int) < (x0.len : Int) := c; omega
    have hi4 : i < 400 := by have : (i : Int) < 400 := c2; omega
    have w1 : w64 ((i : Int) + 1) = ((i + 1 : Nat) : Int) := by rw [w64_id (by omega) (by omega)]; push_cast; rfl
    refine withJ.inl ?_
    refine withJ.intro (fun (s : Option Addr) h14 => ∃ p' l', s = some ⟨p', 0, none⟩ ∧ l'.length ≤ i + 1 ∧ Nw ha h14 ∧ TreeAt h14 (fun b => b < h14.size) p' l') ?_ ?_
    · rintro _ h14 ⟨p', l', rfl, ll', n14, t14⟩
      refine withJ.intro (fun (s : Bool) h17 => s = false ∧ Nw h14 h17) ?_ ?_
      · rintro _ h17 ⟨rfl, n17⟩
        refine cnd_f rfl ?_
        refine ⟨⟨i + 1, p', l', rfl, w1, by omega, ll', (na.trans' n14).trans' n17, (t14.nw n17).mono (fun b hb => by have := n17.size; omega)⟩, ?_⟩
        show (400 - w64 ((i : Int) + 1)).toNat < (400 - (i : Int)).toNat
        rw [w1]; omega
      · intro J hJ
        refine cnd_f rfl ?_
        refine cnd_of (fun _ => ?_) (fun _ => hJ false h14 ⟨rfl, Keep.refl _ _⟩)
        refine shape_spec t14 (fun b hb => hb) (by omega) ?_
        intro hx nx
        exact hJ _ _ ⟨rfl, nx⟩
    · intro J hJ
      refine h0.d n0a hil ?_
      generalize opD h x0.a i = d
      have up : ∀ {h' : Heap} {p' : Nat} {l' : List KV}, Nw ha h' → TreeAt h' (Fn (fun b => b < ha.size) ha h') p' l' → TreeAt h' (fun b => b < h'.size) p' l' := fun nw tt => tt.mono (fun b hb => by
        have := nw.size
        rcases hb with hb | hb
        · omega
        · exact hb.2)
      cases d with
      | true =>
        refine cnd_t rfl ?_
        refine h0.k n0a hil ?_
        refine treeDel ta (fun b hb => hb) (by omega) ?_ ?_
        · intro _ h' nw
          exact hJ _ _ ⟨p, l, rfl, by omega, nw, (ta.nw nw).mono (fun b hb => by have := nw.size; omega)⟩
        · intro _ p' h' nw tt _
          have := delKV_len' (opK h x0.a i).1 l
          exact hJ _ _ ⟨p', _, rfl, by omega, nw, up nw tt⟩
      | false =>
        refine cnd_f rfl ?_
        refine h0.k n0a hil ?_
        refine h0.v n0a hil ?_
        refine treePut ta (fun b hb => hb) (by omega) ?_
        intro p' h' nw tt
        have := insKV_len' (opK h x0.a i).1 (opK h x0.a i).2 l
        exact hJ _ _ ⟨p', _, rfl, by omega, nw, up nw tt⟩
end Go.Proofs.Ytopnljjfpfnhfaa
