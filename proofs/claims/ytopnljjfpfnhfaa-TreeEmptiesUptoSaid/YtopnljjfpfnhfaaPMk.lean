/- New nodes. -/
import Derived.Test.YtopnljjfpfnhfaaPPutF
namespace Go.Proofs.Ytopnljjfpfnhfaa
open Go D
set_option linter.unusedVariables false
set_option linter.unusedSimpArgs false

/-- blocks laid since h0 -/
def New (h0 h : Heap) (b : Nat) : Prop := h0.size ≤ b ∧ b < h.size
theorem rep_leaf {h0 h : Heap} {F : Nat → Prop} {p : Nat} {r1 r2 : Sl} {t : List KV} (row : Row h p [.slice r1.a r1.len r1.cap, .slice r2.a r2.len r2.cap]) (o1 : Own h0 h 1 r1 (keysV (t.map (·.1)))) (o2 : Own h0 h 1 r2 (keysV (t.map (·.2)))) (hp : h0.size ≤ p) (hF : ∀ b, New h0 h b → F b) :
    Rep h F 0 t (.iface lfT (.pointer (some ⟨p, 0, none⟩))) :=
  ⟨p, r1.a, r1.len, r1.cap, r2.a, r2.len, r2.cap, rfl, hF p ⟨hp, row.lt⟩, row, o1.rv, o2.rv, fun b hb => hF b ⟨o1.fresh b hb, o1.lt hb⟩, fun b hb => hF b ⟨o2.fresh b hb, o2.lt hb⟩⟩
theorem rep_inner {h0 h : Heap} {F : Nat → Prop} {n p : Nat} {r1 r2 : Sl} {ks : List Key} {ss : List (T n)} {vs : List Value} (row : Row h p [.slice r1.a r1.len r1.cap, .slice r2.a r2.len r2.cap]) (o1 : Own h0 h 1 r1 (keysV ks)) (o2 : Own h0 h 1 r2 vs) (hp : h0.size ≤ p) (hF : ∀ b, New h0 h b → F b)
    (hl : vs.length = ss.length) (hs : ∀ (i : Nat) s w, ss[i]? = some s → vs[i]? = some w → Rep h F n s w) : Rep h F (n + 1) (ks, ss) (.iface inT (.pointer (some ⟨p, 0, none⟩))) :=
  ⟨p, r1.a, r1.len, r1.cap, r2.a, r2.len, r2.cap, vs, rfl, hF p ⟨hp, row.lt⟩, row, o1.rv, o2.rv, o2.le, fun b hb => hF b ⟨o1.fresh b hb, o1.lt hb⟩, fun b hb => hF b ⟨o2.fresh b hb, o2.lt hb⟩, hl, hs⟩
end Go.Proofs.Ytopnljjfpfnhfaa
