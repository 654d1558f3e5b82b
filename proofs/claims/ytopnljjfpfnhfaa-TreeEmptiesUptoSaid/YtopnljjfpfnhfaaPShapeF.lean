/- TreeEmpties. -/
import Derived.Test.YtopnljjfpfnhfaaPShapeE
namespace Go.Proofs.Ytopnljjfpfnhfaa
open Go D
set_option linter.unusedVariables false
set_option linter.unusedSimpArgs false

theorem has_get (k : Key) (l : List KV) : hasK k l = (getL k l).isSome := by
  unfold hasK getL
  rw [Option.isSome_map, List.isSome_find?]
theorem tmod_in {n : Int} {l : Nat} (hl : 0 < l) (hl2 : l ≤ 1000000) (hn : InI n) : ∃ k : Nat, k < l ∧ (w64 (n.tmod (l : Int) + (l : Int))).tmod (l : Int) = (k : Int) := by
  have h1 : -(l : Int) < n.tmod l := Int.lt_tmod_of_pos n (by omega)
  have h2 : n.tmod l < l := Int.tmod_lt_of_pos n (by omega)
  rw [w64_id (by omega) (by omega)]
  have h3 : (n.tmod (l : Int) + (l : Int)).tmod l = (n.tmod (l : Int) + (l : Int)) % l := Int.tmod_eq_emod_of_nonneg (by omega)
  have h4 := Int.emod_lt_of_pos (n.tmod (l : Int) + (l : Int)) (show (0 : Int) < l by omega)
  have h5 := Int.emod_nonneg (n.tmod (l : Int) + (l : Int)) (show (l : Int) ≠ 0 by omega)
  exact ⟨((n.tmod (l : Int) + (l : Int)) % l).toNat, by omega, by rw [h3]; omega⟩
theorem mem_ins {k v : Key} {l : List KV} (ha : Asc (l.map (·.1))) (q : KV) : q ∈ insKV k v l ↔ q = (k, v) ∨ (q ∈ l ∧ q.1 ≠ k) := by
  have e : q ∈ delKV k l ↔ (q ∈ l ∧ q.1 ≠ k) := by unfold delKV; rw [List.mem_filter]; simp
  rw [← e, insKV_eq, delKV_eq k ha, List.mem_append, List.mem_append, List.mem_cons]
  constructor
  · rintro (h | h | h)
    · exact .inr (.inl h)
    · exact .inl h
    · exact .inr (.inr h)
  · rintro (h | h | h)
    · exact .inr (.inl h)
    · exact .inl h
    · exact .inr (.inr h)
theorem has_iff {k : Key} {l : List KV} : hasK k l = true ↔ ∃ p ∈ l, p.1 = k := by
  unfold hasK
  rw [List.any_eq_true]
  constructor
  · rintro ⟨p, h1, h2⟩; exact ⟨p, h1, by simpa using h2⟩
  · rintro ⟨p, h1, h2⟩; exact ⟨p, h1, by simpa using h2⟩
theorem ins_len {k v : Key} {l : List KV} (ha : Asc (l.map (·.1))) : (insKV k v l).length + (hasK k l).toNat = l.length + 1 := by
  have dl := del_leaf (k := k) ha
  have hd : delF k 0 l = if (l.map (·.1))[below k (l.map (·.1))]? = some k then some (delL l (below k (l.map (·.1)))) else none := rfl
  have fl := below_le k (l.map (·.1))
  rw [List.length_map] at fl
  rw [insKV_eq]
  unfold skipK
  by_cases c : (l.map (·.1))[below k (l.map (·.1))]? = some k
  · rw [if_pos c] at hd ⊢
    obtain ⟨_, ⟨p, h1, h2⟩, _⟩ := dl.2 _ hd
    have hk : hasK k l = true := has_iff.2 ⟨p, h1, h2⟩
    have hm := (List.getElem?_eq_some_iff.1 c).1
    rw [List.length_map] at hm
    rw [hk]
    simp only [List.length_append, List.length_take, List.length_cons, List.length_drop, Bool.toNat_true]
    omega
  · rw [if_neg c] at hd ⊢
    have hk : hasK k l = false := by
      cases e : hasK k l with
      | false => rfl
      | true =>
        obtain ⟨p, h1, h2⟩ := has_iff.1 e
        exact absurd h2 (dl.1 hd p h1)
    rw [hk]
    simp only [List.length_append, List.length_take, List.length_cons, List.length_drop, Bool.toNat_false]
    omega
theorem has_ins {k v j : Key} {l : List KV} (ha : Asc (l.map (·.1))) : hasK j (insKV k v l) = true ↔ j = k ∨ hasK j l = true := by
  rw [has_iff, has_iff]
  constructor
  · rintro ⟨p, h1, h2⟩
    rcases (mem_ins ha p).1 h1 with rfl | ⟨h3, _⟩
    · exact .inl h2.symm
    · exact .inr ⟨p, h3, h2⟩
  · rintro (rfl | ⟨p, h1, h2⟩)
    · exact ⟨(j, v), (mem_ins ha _).2 (.inl rfl), rfl⟩
    · by_cases e : p.1 = k
      · exact ⟨(k, v), (mem_ins ha _).2 (.inl rfl), by rw [← h2, ← e]⟩
      · exact ⟨p, (mem_ins ha _).2 (.inr ⟨h1, e⟩), h2⟩
theorem has_del {k j : Key} {l : List KV} : hasK j (delKV k l) = true ↔ j ≠ k ∧ hasK j l = true := by
  rw [has_iff, has_iff]
  unfold delKV
  constructor
  · rintro ⟨p, h1, h2⟩
    obtain ⟨h3, h4⟩ := List.mem_filter.1 h1
    have h5 : p.1 ≠ k := by simpa using h4
    exact ⟨fun e => h5 (by rw [h2, e]), p, h3, h2⟩
  · rintro ⟨h1, p, h2, h3⟩
    exact ⟨p, List.mem_filter.2 ⟨h2, by simp only [decide_eq_true_eq]; rw [h3]; exact h1⟩, h3⟩
/-- blocks that a slice does not lie in -/
def De (h : Heap) (s : Sl) (b : Nat) : Prop := b < h.size ∧ ¬ blk s.a b
/-- the keys are those of the tree -/
structure KI (h2 h' : Heap) (ks : Sl) (kl : List Key) (p : Nat) (l : List KV) : Prop where
  nw : Nw h2 h'
  ow : Own h2 h' 1 ks (keysV kl)
  tr : TreeAt h' (De h' ks) p l
  nd : kl.Nodup
  mem : ∀ k, k ∈ kl ↔ hasK k l = true
  len : kl.length = l.length
theorem KI.step {h2 h' h'' : Heap} {ks : Sl} {kl : List Key} {p : Nat} {l : List KV} (hi : KI h2 h' ks kl p l) (hk : Nw h' h'') : KI h2 h'' ks kl p l :=
  ⟨hi.nw.trans' hk, hi.ow.nw hk, (hi.tr.nw hk).mono (fun b hb => ⟨by have := hb.1; have := hk.size; omega, hb.2⟩), hi.nd, hi.mem, hi.len⟩
theorem KI.slen {h2 h' : Heap} {ks : Sl} {kl : List Key} {p : Nat} {l : List KV} (hi : KI h2 h' ks kl p l) : ks.len = kl.length := by have := hi.ow.len; rw [List.length_map] at this; omega
theorem KI.up {h2 h' h'' : Heap} {ks : Sl} {kl : List Key} {p p' : Nat} {l l' : List KV} (hi : KI h2 h' ks kl p l) (hk : Nw h' h'') (ht : TreeAt h'' (Fn (De h' ks) h' h'') p' l') : TreeAt h'' (De h'' ks) p' l' := ht.mono (fun b hb => by
  rcases hb with hb | hb
  · exact ⟨by have := hb.1; have := hk.size; omega, hb.2⟩
  · exact ⟨hb.2, fun e => by have := hi.ow.lt e; have := hb.1; omega⟩)
theorem nodup_del {kl : List Key} (h : kl.Nodup) {k : Nat} (hk : k < kl.length) : (delL kl k).Nodup ∧ ∀ j, j ∈ delL kl k ↔ j ≠ kl[k] ∧ j ∈ kl := by
  have e : kl = kl.take k ++ kl[k] :: kl.drop (k + 1) := by rw [← List.drop_eq_getElem_cons hk, List.take_append_drop]
  have h' := h
  rw [e] at h'
  obtain ⟨n1, n2, n3⟩ := List.nodup_append.1 h'
  obtain ⟨n4, n5⟩ := List.nodup_cons.1 n2
  refine ⟨List.nodup_append.2 ⟨n1, n5, fun a ha b hb => n3 a ha b (List.mem_cons_of_mem _ hb)⟩, fun j => ?_⟩
  unfold delL
  rw [List.mem_append]
  constructor
  · rintro (hj | hj)
    · exact ⟨fun e2 => n3 j hj kl[k] (List.mem_cons_self ..) e2, List.mem_of_mem_take hj⟩
    · exact ⟨fun e2 => n4 (e2 ▸ hj), List.mem_of_mem_drop hj⟩
  · rintro ⟨h1, h2⟩
    rw [e] at h2
    rcases List.mem_append.1 h2 with h3 | h3
    · exact .inl h3
    · rcases List.mem_cons.1 h3 with h4 | h4
      · exact absurd h4 h1
      · exact .inr h4

set_option maxRecDepth 20000 in
theorem treeEmpties_spec {h : Heap} {x0 x1 : Sl} (h0 : OpS h x0.a x0.len) (h1 : IntsAt h x1.a x1.len) (hx1 : x1.len ≤ 4611686018427387904) {R : Bool → Heap → Prop} (hk : ∀ h', Nw h h' → R true h') : CallT Try.prog law8_TreeEmpties_no [.slice x0.a x0.len x0.cap, .slice x1.a x1.len x1.cap] h [.sc .bool] R := by
  have hcall := law8_TreeEmpties_call x0 x1 (R := R) (h := h)
  apply hcall
  clear hcall
  unfold law8_TreeEmpties
  refine treeNew ?_
  intro p2 h2 n2 t2
  refine withJ.inl (withJ.inl ?_)
  refine cnd_f rfl ?_
  refine cnd_dec (fun c => ?_) (fun c => ?_)
  · refine withJ.inl ?_
    refine cnd_t rfl ?_
    refine awake_spec ?_
    intro hx nx
    exact hk hx (n2.trans' nx)
  have hl : x0.len ≤ 200 := by have : ¬ (x0.len : Int) > 200 := c; omega
  have nob : ∀ b, ¬ blk (none : Option Addr) b := fun b hb => by obtain ⟨y, e, _⟩ := hb; cases e
  refine LoopT.intro (fun (s : Option Addr × Sl × Int) hh => ∃ (i p : Nat) (l : List KV) (kl : List Key), s.1 = some ⟨p, 0, none⟩ ∧ s.2.2 = (i : Int) ∧ i ≤ x0.len ∧ l.length ≤ i ∧ KI h2 hh s.2.1 kl p l) (fun s _ => ((x0.len : Int) - s.2.2).toNat)
    ⟨0, p2, [], [], rfl, rfl, Nat.zero_le _, by simp, ⟨Keep.refl _ _, Own.nil _ _ _, t2.mono (fun b hb => ⟨hb.2, nob b⟩), List.nodup_nil, fun k => by simp [hasK], rfl⟩⟩ ?_
  rintro ⟨tp, ks, ix⟩ ha ⟨i, p, l, kl, rfl, rfl, hi, ll, ki⟩
  simp only at ki
  have n0a := n2.trans' ki.nw
  have ksl := ki.slen
  have klen := ki.len
  refine cnd_dec (fun ci => ?_) (fun ci => ?_)
  · have hil : i < x0.len := by have : (i : Int) < (x0.len : Int) := ci; omega
    have w1 : w64 ((i : Int) + 1) = ((i + 1 : Nat) : Int) := by rw [w64_id (by omega) (by omega)]; push_cast; rfl
    refine withJ.inl ?_
    refine withJ.intro (fun (s : Sl) h14 => ∃ kl' : List Key, Nw h2 h14 ∧ Own h2 h14 1 s (keysV kl') ∧ TreeAt h14 (De h14 s) p l ∧ kl'.Nodup ∧ (∀ k, k ∈ kl' ↔ k = (opK h x0.a i).1 ∨ hasK k l = true) ∧ kl'.length + (hasK (opK h x0.a i).1 l).toNat = l.length + 1) ?_ ?_
    · rintro s h14 ⟨kl', n14, o14, t14, d14, m14, l14⟩
      refine h0.k (n2.trans' n14) hil ?_
      refine h0.v (n2.trans' n14) hil ?_
      have asc := t14.asc
      refine treePut t14 (fun b hb => hb.1) (by omega) ?_
      intro p' h20 n20 t20
      refine cnd_f rfl ?_
      have il := ins_len (k := (opK h x0.a i).1) (v := (opK h x0.a i).2) asc
      refine ⟨⟨i + 1, p', _, kl', rfl, w1, by omega, ?_, ⟨n14.trans' n20, o14.nw n20, t20.mono (fun b hb => ?_), d14, fun k => by rw [m14, has_ins asc], by omega⟩⟩, ?_⟩
      · omega
      · rcases hb with hb | hb
        · exact ⟨by have := hb.1; have := n20.size; omega, hb.2⟩
        · exact ⟨hb.2, fun e => by have := o14.lt e; have := hb.1; omega⟩
      · show ((x0.len : Int) - w64 ((i : Int) + 1)).toNat < ((x0.len : Int) - (i : Int)).toNat
        rw [w1]; omega
    · intro J hJ
      refine h0.k n0a hil ?_
      refine treeGet ki.tr ?_
      intro h24 n24
      have kb := ki.step n24
      have hg := has_get (opK h x0.a i).1 l
      refine cnd_of (fun cg => ?_) (fun cg => ?_)
      · have hf : hasK (opK h x0.a i).1 l = false := by rw [hg]; simpa using cg
        refine h0.k (n0a.trans' n24) hil ?_
        refine kb.ow.push (N := 1 * 1) kb.nw rfl rfl rfl (by intro u hu; simp only [List.mem_singleton] at hu; subst hu; rfl) (by omega) ?_
        intro a' c' h31 q1 q2 q3 q4
        refine hJ _ _ ⟨kl ++ [(opK h x0.a i).1], q2, by unfold keysV at q1 ⊢; rw [List.map_append]; exact q1, (kb.tr.keep q3 (fun b hb e => hb.2 e)).mono (fun b hb => ⟨by have := hb.1; have := q3.size; omega, fun e => ?_⟩), ?_, ?_, ?_⟩
        · rcases q4 b e with e2 | e2
          · exact hb.2 e2
          · have := hb.1; omega
        · refine List.nodup_append.2 ⟨ki.nd, List.nodup_cons.2 ⟨by simp, List.nodup_nil⟩, fun a ha b hb => ?_⟩
          simp only [List.mem_singleton] at hb
          subst hb
          intro e
          subst e
          rw [(ki.mem _).1 ha] at hf; cases hf
        · intro k
          rw [List.mem_append, List.mem_singleton, ki.mem, or_comm]
        · rw [hf]; simp; omega
      · have hf : hasK (opK h x0.a i).1 l = true := by rw [hg]; simpa using cg
        refine hJ _ _ ⟨kl, kb.nw, kb.ow, kb.tr, kb.nd, fun k => ?_, by rw [hf]; simp; omega⟩
        rw [ki.mem]
        constructor
        · exact .inr
        · rintro (rfl | e)
          · exact hf
          · exact e
  · refine treeLen ki.tr ?_
    refine cnd_f (by rw [bne_eq_false_iff_eq]; show (l.length : Int) = (ks.len : Int); omega) ?_
    have hi2 : i = x0.len := by have : ¬ (i : Int) < (x0.len : Int) := ci; omega
    refine LoopT.intro (fun (s : Option Addr × Sl × Int) hh => ∃ (i p : Nat) (l : List KV) (kl : List Key), s.1 = some ⟨p, 0, none⟩ ∧ s.2.2 = (i : Int) ∧ i + kl.length ≤ 200 ∧ KI h2 hh s.2.1 kl p l) (fun s _ => s.2.1.len)
      ⟨0, p, l, kl, rfl, rfl, by omega, ki⟩ ?_
    rintro ⟨tp, ks, jx⟩ hb ⟨j, p, l, kl, rfl, rfl, hj, ki⟩
    simp only at ki
    have n0b := n2.trans' ki.nw
    have ksl := ki.slen
    have klen := ki.len
    refine cnd_dec (fun cj => ?_) (fun cj => ?_)
    · have hpos : 0 < kl.length := by have : (ks.len : Int) > 0 := cj; omega
      have wj : w64 ((j : Int) + 1) = ((j + 1 : Nat) : Int) := by rw [w64_id (by omega) (by omega)]; push_cast; rfl
      refine withJ.inl ?_
      refine withJ.intro (fun (s : Int) h43 => h43 = hb ∧ ∃ k : Nat, s = (k : Int) ∧ k < kl.length) ?_ ?_
      · rintro _ h43 ⟨rfl, k, rfl, hk'⟩
        have wk : w64 ((k : Int) + 1) = ((k + 1 : Nat) : Int) := by rw [w64_id (by omega) (by omega)]; push_cast; rfl
        refine ki.ow.rv.at (by omega) (by show (k : Int) < (ks.len : Int); omega) (v := .string kl[k]) (by rw [Int.toNat_natCast, List.getElem?_map, List.getElem?_eq_getElem hk']; rfl) ?_
        intro a44 c44
        refine ldS_at c44 ?_
        have hhas : hasK kl[k] l = true := (ki.mem _).1 (List.getElem_mem hk')
        refine treeDel ki.tr (fun b hb => hb.1) (by omega) (fun e => by rw [hhas] at e; cases e) ?_
        intro _ p' h47 n47 t47 dl
        have kj := ki.step n47
        have t47' := ki.up n47 t47
        refine withJ.inl (withJ.inl ?_)
        refine cnd_f rfl ?_
        refine cnd_f rfl ?_
        refine treeLen t47' ?_
        refine treeLen kj.tr ?_
        refine cnd_f ?_ ?_
        · rw [bne_eq_false_iff_eq, w64_id (by omega) (by omega)]; omega
        obtain ⟨nd, nm⟩ := nodup_del ki.nd hk'
        simp only [wk]
        refine kj.ow.rv.sub (cap := ks.cap) (by omega) (by omega) (by show (k : Int) ≤ (ks.len : Int); omega) (by have := kj.ow.le; show (k : Int) ≤ (ks.cap : Int); omega) (by omega) ?_
        intro o51 r51 b51
        have kle := kj.ow.le
        refine kj.ow.rv.sub (cap := ks.cap) (by omega) (by show ((k + 1 : Nat) : Int) ≤ (ks.len : Int); omega) (by omega) (by show (ks.len : Int) ≤ (ks.cap : Int); omega) (by omega) ?_
        intro o52 r52 b52
        have e1 : ((k : Int) - 0).toNat = k := by omega
        have e2 : ((ks.len : Int) - ((k + 1 : Nat) : Int)).toNat = ks.len - (k + 1) := by omega
        have e3 : (0 : Int).toNat = 0 := rfl
        simp only [e1, e2, e3, Int.toNat_natCast, List.drop_zero] at r51 r52 ⊢
        have m1 : (keysV kl).take k = keysV (kl.take k) := by unfold keysV; rw [List.map_take]
        have m2 : ((keysV kl).drop (k + 1)).take (ks.len - (k + 1)) = keysV (kl.drop (k + 1)) := by
          unfold keysV
          rw [List.take_of_length_le (by rw [List.length_drop, List.length_map]; omega), List.map_drop]
        rw [m1] at r51
        rw [m2] at r52
        have l51 := r51.1
        have l52 := r52.1
        rw [List.length_map] at l51 l52
        refine newB_row ?_
        intro h54 s54 r54 k54
        refine Rv.rd (r51.keep0 k54) ?_
        have sl0 : SlR h54 1 (some ⟨h47.size, 0, none⟩) 0 0 [] := .inr ⟨h47.size, 0, [], rfl, r54, Nat.le_refl _, by simp, rfl, rfl⟩
        refine SlR.app (new := keysV (kl.take k)) (m := k) sl0 rfl (by rw [List.length_map, ← l51, Nat.mul_one]) (keysV_one _) (by omega) ?_
        intro o55 c56 h57 v1 v2 v3
        rw [List.nil_append] at v1
        have n57 : Nw h47 h57 := k54.trans v2 (fun x hx e => by rw [blk_some] at e; simp only at e; omega)
        have ow57 : Own h47 h57 1 ⟨o55, 0 + k, c56⟩ (keysV (kl.take k)) := ⟨v1, fun b hb => by
          rcases v3 with ⟨e, _⟩ | ⟨e, _⟩
          · rw [e, blk_some] at hb; simp only at hb; omega
          · rw [e, blk_some] at hb; simp only at hb; omega⟩
        refine Rv.rd (r52.keep0 n57) ?_
        refine ow57.app (new := keysV (kl.drop (k + 1))) (m := ks.len - (k + 1)) n57 rfl (by rw [List.length_map, ← l52, Nat.mul_one]) (keysV_one _) (by show (2 * (0 + k + _) + 1024) * 16 ≤ _; omega) ?_
        intro o59 c60 h61 q1 q2 q3 q4
        have t61 := t47'.nw q2
        have q1' : Own h47 h61 1 ⟨o59, 0 + k + (ks.len - (k + 1)), c60⟩ (keysV (delL kl k)) := by
          have e : keysV (delL kl k) = keysV (kl.take k) ++ keysV (kl.drop (k + 1)) := by unfold keysV delL; rw [List.map_append]
          rw [e]; exact q1
        have dlen := delL_len hk'
        have fin : ∀ {h65 : Heap}, Nw h61 h65 → KI h2 h65 ⟨o59, 0 + k + (ks.len - (k + 1)), c60⟩ (delL kl k) p' (delKV kl[k] l) := fun n65 => by
          refine ⟨((ki.nw.trans' n47).trans' q2).trans' n65, (q1'.up (by have := ki.nw.size; have := n47.size; omega)).nw n65, (t61.nw n65).mono (fun b hb => ⟨?_, fun e => ?_⟩), nd, fun k' => by rw [nm, has_del, ki.mem], by omega⟩
          · have := hb.1; have := q2.size; have := n65.size; omega
          · have := q1'.fresh b e; have := hb.1; omega
        refine withJ.intro (fun (s : Bool) h65 => s = false ∧ Nw h61 h65) ?_ ?_
        · rintro _ h65 ⟨rfl, n65⟩
          refine cnd_f rfl ?_
          refine ⟨⟨j + 1, p', _, _, rfl, wj, by omega, fin n65⟩, ?_⟩
          show 0 + k + (ks.len - (k + 1)) < ks.len
          omega
        · intro J hJ
          refine cnd_of (fun _ => ?_) (fun _ => hJ false _ ⟨rfl, Keep.refl _ _⟩)
          have t61' : TreeAt h61 (fun b => b < h61.size) p' (delKV kl[k] l) := t61.mono (fun b hb => by have := hb.1; have := q2.size; omega)
          refine shape_spec t61' (fun b hb => hb) (by omega) ?_
          intro hx nx
          exact hJ _ _ ⟨rfl, nx⟩
      · intro J hJ
        refine cnd_dec (fun cx => ?_) (fun cx => ?_)
        · have hjx : j < x1.len := by have : (j : Int) < (x1.len : Int) := cx; omega
          refine h1.ld (n0b.mono (fun b _ e => e.elim)) (by show (0 : Int) ≤ (j : Int); omega) (by show (j : Int) < (x1.len : Int); omega) ?_
          intro z hz
          refine ⟨by show (ks.len : Int) ≠ 0; omega, by show (ks.len : Int) ≠ 0; omega, ?_⟩
          obtain ⟨kk, hkk, ek⟩ := tmod_in (l := ks.len) (by omega) (by omega) hz
          refine hJ _ _ ⟨rfl, kk, ek, by omega⟩
        · exact hJ _ _ ⟨rfl, 0, rfl, hpos⟩
    · have h0l : kl.length = 0 := by have : ¬ (ks.len : Int) > 0 := cj; omega
      have el : l = [] := List.eq_nil_of_length_eq_zero (by omega)
      subst el
      have tr := ki.tr
      refine withJ.inl ?_
      refine treeLen tr ?_
      refine cnd_t rfl ?_
      have tr2 := tr
      obtain ⟨n, t, tt, rt, e⟩ := tr
      have n0 : n = 0 := by
        rcases height_le rt with e2 | e2
        · exact e2
        · rw [e] at e2
          have : 0 < 4 ^ n := Nat.pow_pos (by omega)
          simp at e2
      subst n0
      refine levels_spec tt (fun b hb => hb.1) (small_leaf rt.1.2) (by omega) rt.1 (.inl rfl) ?_
      intro r us h83 n83 rv83 fr83 ks83
      have l2 := ks83.1
      have l1 := rv83.1
      have ll : (levF 0 [t]).length = 1 := rfl
      refine cnd_t (by rw [beq_iff_eq]; omega) ?_
      have t83 : TreeAt h83 (fun b => b < h83.size) p [] := (tr2.nw n83).mono (fun b hb' => by have := hb'.1; have := n83.size; omega)
      refine shape_spec t83 (fun b hb => hb) (by simp) ?_
      intro h85 n85
      refine cnd_t rfl ?_
      refine awake_spec ?_
      intro h87 n87
      exact hk h87 (((n0b.trans' n83).trans' n85).trans' n87)
end Go.Proofs.Ytopnljjfpfnhfaa
