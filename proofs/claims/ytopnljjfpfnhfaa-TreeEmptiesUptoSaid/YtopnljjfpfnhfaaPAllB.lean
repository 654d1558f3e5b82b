/- all, of inner nodes. -/
import Derived.Test.YtopnljjfpfnhfaaPAll
namespace Go.Proofs.Ytopnljjfpfnhfaa
open Go D
set_option linter.unusedVariables false
set_option linter.unusedSimpArgs false

/-- keys rise in every node; as many sons as keys and one; nothing is very great -/
def Srt : (n : Nat) → T n → Prop
  | 0, t => Asc (List.map (·.1) t) ∧ List.length t ≤ 1000000
  | n + 1, t => Asc t.1 ∧ t.2.length = t.1.length + 1 ∧ t.2.length ≤ 1000000 ∧ ∀ s ∈ t.2, Srt n s

theorem all_spec {h : Heap} {v : Value} {k : Key} (hv : v.cells = #[v]) {R : Value → Heap → Prop}
    (hk : ∀ h', Nw h h' → h'.size = h.size + 2 → Row h' h.size [v] → Row h' (h.size + 1) [.string k] → R (.func (.func 34) #[] #[.pointer (some ⟨h.size, 0, none⟩), .pointer (some ⟨h.size + 1, 0, none⟩)]) h') : CallT Try.prog btree_all_no [v, .string k] h [.sc .raw] R := by
  have hcall := btree_all_call v k (R := R) (h := h)
  apply hcall
  unfold btree_all
  refine ⟨hv, newB_row ?_⟩
  intro h1 s1 r1 k1
  refine newB_row ?_
  intro h2 s2 r2 k2
  rw [s1] at r2 ⊢
  exact hk h2 (k1.trans' k2) (by omega) (k2.row r1 (fun h => h)) r2

theorem seq_all : ∀ (n : Nat) {h : Heap} {F : Nat → Prop} {v : Value} {b1 b3 : Nat} {k : Key} {t : T n} (hr : Rep h F n t v) (hF : ∀ b, F b → b < h.size) (hA : Srt n t) (r1 : Row h b1 [v]) (r3 : Row h b3 [.string k]),
    SeqC Try.prog (.func (.func 34) #[] #[.pointer (some ⟨b1, 0, none⟩), .pointer (some ⟨b3, 0, none⟩)]) [.str, .str] h (fun b => F b ∨ b = b1 ∨ b = b3) (frm k n t)
  | 0, h, F, v, b1, b3, k, t, hr, hF, hA, r1, r3 => seq_leaf hr hF hA.1 hA.2 r1 r3
  | n + 1, h, F, v, b1, b3, k, t, hr, hF, hA, r1, r3 => by
    refine ⟨34, #[], #[.pointer (some ⟨b1, 0, none⟩), .pointer (some ⟨b3, 0, none⟩)], rfl, by kernel_rfl, by kernel_rfl, ?_⟩
    intro y J O h1 kp stab ndf j0 hO round
    have hcall := btree_all_1_call (.func (.yield y) #[] #[]) (some ⟨b1, 0, none⟩) (some ⟨b3, 0, none⟩) (R := fun _ h4 => ∃ g pre O', J g pre O' h4 ∧ (g = true → pre = frm k (n + 1) t)) (h := h1)
    apply hcall
    clear hcall
    unfold btree_all_1
    refine ⟨rfl, newB_row ?_⟩
    intro h2 s2 rY kY
    have hD : ∀ b, (F b ∨ b = b1 ∨ b = b3) → b < h.size := fun b hb => by
      rcases hb with hb | rfl | rfl
      · exact hF b hb
      · exact r1.lt
      · exact r3.lt
    have hz1 := kp.size
    have K2 : Keep (fun b => ¬ (F b ∨ b = b1 ∨ b = b3)) h h2 := kp.trans kY (fun _ _ h => h.elim)
    have j2 : J true [] O h2 := stab _ _ _ _ _ j0 (kY.mono (fun _ _ h => h.elim))
    have R1 : Row h2 b1 [v] := K2.row r1 (fun hh => hh (.inr (.inl rfl)))
    have R3 : Row h2 b3 [.string k] := K2.row r3 (fun hh => hh (.inr (.inr rfl)))
    have hr2 : Rep h2 F (n + 1) t v := hr.keep K2 (fun b hb hh => hh (.inl hb))
    obtain ⟨p, ka, kl, kc, sa, sl, sc, vs, rfl, fp, row, k1, k2, lc, f1, f2, lv, hsons⟩ := hr2
    have ldv : ∀ {K : Value → Prop}, K (.iface inT (.pointer (some ⟨p, 0, none⟩))) → ldV ⟨b1, 0, none⟩ h2 K := fun hK => ⟨_, by rw [R1.cells]; rfl, hK⟩
    refine ldv ?_
    refine isP_yes rfl ?_
    refine cnd_f rfl ?_
    refine ldL_row (o := 0 + 1) row rfl ?_
    refine ldS_row (o := 0) R3 rfl ?_
    obtain ⟨a1, a2, a3, a4⟩ := hA
    have len1 : kl = t.1.length := by have := k1.1; simpa using this
    have len2 : sl = t.2.length := by have := k2.1; omega
    refine at_spec (x := ⟨p, 0, none⟩) (by rw [row.cells]; rfl) k1 a1 (by omega) ?_
    intro h38 n38
    have row38 := n38.row row (fun h => h)
    refine ⟨ldL_row (o := 0 + 1) row38 rfl rfl, ?_⟩
    have hm := upto_le k t.1
    generalize hmm : upto k t.1 = m at hm
    refine k2.sub (by omega) (by omega) (by omega) (by omega) (by omega) ?_
    intro o40 rv40 hb40
    have e40 : ((sl : Int) - (m : Int)).toNat = sl - m := by omega
    rw [e40, Int.toNat_natCast] at rv40
    rw [e40]
    have hfrm : frm k (n + 1) t = ((t.2.drop m).map (frm k n)).flatten := by show ((t.2.drop (upto k t.1)).map (frm k n)).flatten = _; rw [hmm]
    rw [hfrm] at round ⊢
    generalize hxs : (t.2.drop m).map (frm k n) = xs at round ⊢
    have lxs : xs.length = sl - m := by rw [← hxs, List.length_map, List.length_drop]; omega
    refine LoopT.intro (fun (s : Int) h' => ∃ (i : Nat) (O' : Nat → Prop), s = (i : Int) ∧ i ≤ sl - m ∧ J true (xs.take i).flatten O' h' ∧ Keep (fun b => ¬ ((F b ∨ b = b1 ∨ b = b3) ∨ b = h1.size)) h2 h' ∧ ∀ b, O' b → ¬ ((F b ∨ b = b1 ∨ b = b3) ∨ b = h1.size) ∧ b < h'.size) (fun s _ => (((sl - m : Nat) : Int) - s).toNat)
      ⟨0, O, rfl, Nat.zero_le _, stab _ _ _ _ _ j2 (n38.mono (fun _ _ h => h.elim)), n38.mono (fun _ _ h => h.elim), fun b hb => ⟨fun hh => ?_, by have := (hO b hb).2; have := n38.size; omega⟩⟩ ?_
    · rcases hh with hh | rfl
      · exact (hO b hb).1 hh
      · have := (hO _ hb).2; omega
    rintro s h' ⟨i, O', rfl, g2, ji, kk, ho⟩
    have fin : ∀ (g : Bool) pre (O'' : Nat → Prop) (h5 : Heap), J g pre O'' h5 → (g = true → pre = xs.flatten) → shutX h1.size h5 fun h6 => ∃ g pre O', J g pre O' h6 ∧ (g = true → pre = xs.flatten) := by
      intro g pre O'' h5 hj hg h6 hz hs
      exact ⟨g, pre, O'', stab _ _ _ _ _ hj (shut_keep hz hs (ndf _ _ _ _ hj)), hg⟩
    refine cnd_dec (fun c1 => ?_) (fun c1 => ?_)
    · have hi : i < sl - m := by have : (i : Int) < ((sl - m : Nat) : Int) := c1; omega
      have hi2 : m + i < t.2.length := by omega
      have hi3 : m + i < vs.length := by omega
      have zk := kk.size
      have rv' := rv40.keep kk (fun _ b hb hh => hh (.inl (.inl (f2 b (hb40 b hb)))))
      refine Rv.at rv' (by omega) (by omega) (v := vs[m + i]) (by rw [Int.toNat_natCast, List.getElem?_take, if_pos hi, List.getElem?_drop, List.getElem?_eq_getElem hi3]) ?_
      intro z hz
      refine ⟨_, hz, ?_⟩
      have R3' : Row h' b3 [.string k] := kk.row R3 (fun hh => hh (.inl (.inr (.inr rfl))))
      refine ldS_row (o := 0) R3' rfl ?_
      have son : Rep h' F n (t.2[m + i]) vs[m + i] := (hsons (m + i) _ _ (List.getElem?_eq_getElem hi2) (List.getElem?_eq_getElem hi3)).keep kk (fun b hb hh => hh (.inl (.inl hb)))
      refine all_spec son.one.1 ?_
      intro h49 n49 s49 q1 q3
      have hFl : ∀ b, F b → b < h'.size := fun b hb => by have := hF b hb; omega
      have sq := seq_all n (son.nw n49) (fun b hb => by have := hFl b hb; omega) (a4 _ (List.getElem_mem hi2)) q1 q3
      have xi : frm k n t.2[m + i] = xs[i]'(by omega) := by simp only [← hxs, List.getElem_map, List.getElem_drop]
      rw [xi] at sq
      have hcut : xs.flatten = (xs.take i).flatten ++ (xs[i]'(by omega) ++ (xs.drop (i + 1)).flatten) := by
        conv => lhs; rw [← List.take_append_drop i xs, List.drop_eq_getElem_cons (show i < xs.length by omega)]
        rw [List.flatten_append, List.flatten_cons]
      refine rngX_intro sq (fun b hb => ?_) (fun ex pre O2 hh => ∃ g, J g ((xs.take i).flatten ++ pre) O2 hh ∧ ((ex = .nrm ∧ g = true) ∨ (ex = .ret ∧ g = false)) ∧ Keep (fun b => ¬ ((F b ∨ b = b1 ∨ b = b3) ∨ b = h1.size)) h2 hh ∧ (∀ b, O2 b → ¬ ((F b ∨ b = b1 ∨ b = b3) ∨ b = h1.size) ∧ b < hh.size)) O' ?_ (fun b hb => ⟨fun hd => ?_, ?_⟩) ?_ ?_ ?_ ?_ ?_ ?_ ?_
      · rcases hb with hb | rfl | rfl
        · have := hFl b hb; omega
        · omega
        · omega
      · refine ⟨true, ?_, .inl ⟨rfl, rfl⟩, kk.trans n49 (fun _ _ h => h.elim), fun b hb => ⟨(ho b hb).1, by have := (ho b hb).2; omega⟩⟩
        rw [List.append_nil]
        exact stab _ _ _ _ _ ji (n49.mono (fun _ _ h => h.elim))
      · have h5 := ho b hb
        rcases hd with hd | rfl | rfl
        · exact h5.1 (.inl (.inl hd))
        · omega
        · omega
      · have := (ho b hb).2; omega
      · rintro ex pre O2 ha hb ⟨g, j1, e1, k4, o4⟩ hk
        refine ⟨g, stab _ _ _ _ _ j1 (hk.mono (fun b _ hh => ⟨hh.1, by omega⟩)), e1, k4.trans hk (fun b hb hh => by have := hh.2; omega), fun b hb => ⟨(o4 b hb).1, by have := (o4 b hb).2; have := hk.size; omega⟩⟩
      · rintro ex pre O2 ha ⟨g, j1, _⟩
        exact ndf _ _ _ _ j1
      · rintro rb lb pre x O2 ha M Qb ⟨g, j1, e1, k4, o4⟩ hpre hlt hlb hlb2 hlb3 hM hQ
        have hg : g = true := by
          rcases e1 with ⟨_, e⟩ | ⟨e, _⟩
          · exact e
          · cases e
        subst hg
        refine hM ha _ (Keep.refl _ _) ?_
        intro h4 z4 kl4 hrb
        have rY4 : Row h4 h1.size [.func (.yield y) #[] #[]] := kl4.row (k4.row rY (fun hh => hh (.inr rfl))) (fun e => by have e' : h1.size = lb := e; omega)
        refine ⟨_, by rw [rY4.cells]; rfl, ?_⟩
        refine .inr ⟨y, rfl, YldT.mono (round ((xs.take i).flatten ++ pre) x O2 h4 (stab _ _ _ _ _ j1 (kl4.mono (fun b _ e => by have e' : b = lb := e; subst e'; exact ⟨hlb, by omega⟩))) ?_) ?_⟩
        · obtain ⟨r, hr⟩ := hpre
          refine ⟨r ++ (xs.drop (i + 1)).flatten, ?_⟩
          rw [hcut, ← hr]
          simp only [List.append_assoc]
        · rintro b h3 ⟨O3, j3, k3, gr⟩
          rw [List.append_assoc] at j3
          have kq : Keep (fun b => O2 b ∨ b = lb) ha h3 := (kl4.mono (fun b _ e => .inr e)).trans k3 (fun b _ hb => .inl hb)
          have rb3 : h3[lb]? = some rb := by rw [k3.same lb (by omega) hlb]; exact hrb
          have gr' : Grow O2 O3 ha h3 := fun b hb => by rw [← z4]; exact gr b hb
          have kz := k4.size
          have kP : Keep (fun b => ¬ ((F b ∨ b = b1 ∨ b = b3) ∨ b = h1.size)) h2 h3 := k4.trans kq (fun b hb hh => by
            rcases hh with hh | rfl
            · exact (o4 b hh).1
            · omega)
          have oP : ∀ b, O3 b → ¬ ((F b ∨ b = b1 ∨ b = b3) ∨ b = h1.size) ∧ b < h3.size := fun b hb => ⟨fun hh => by
            rcases (gr' b hb).1 with h5 | h5
            · exact (o4 b h5).1 hh
            · rcases hh with hh | rfl
              · have := hD b hh; omega
              · omega, (gr' b hb).2⟩
          cases b with
          | false => exact cnd_t rfl (hQ .ret h3 ⟨O3, ⟨false, j3, .inr ⟨rfl, rfl⟩, kP, oP⟩, kq, rb3, gr'⟩)
          | true => exact cnd_f rfl (hQ .nrm h3 ⟨O3, ⟨true, j3, .inl ⟨rfl, rfl⟩, kP, oP⟩, kq, rb3, gr'⟩)
      · rintro O2 h5 ⟨g, j1, e1, k4, o4⟩
        have hg : g = true := by
          rcases e1 with ⟨_, e⟩ | ⟨e, _⟩
          · exact e
          · cases e
        subst hg
        have ew : w64 ((i : Int) + 1) = ((i + 1 : Nat) : Int) := by rw [w64_id (by omega) (by omega)]; push_cast; rfl
        refine ⟨⟨i + 1, O2, ew, by omega, ?_, k4, o4⟩, ?_⟩
        · have : xs.take (i + 1) = xs.take i ++ [xs[i]'(by omega)] := List.take_succ_eq_append_getElem (by omega)
          rw [this, List.flatten_append, List.flatten_singleton]
          exact j1
        · rw [ew]; omega
      · rintro pre O2 h5 ⟨g, j1, e1, k4, o4⟩
        have hg : g = false := by
          rcases e1 with ⟨e, _⟩ | ⟨_, e⟩
          · cases e
          · exact e
        subst hg
        exact fin _ _ _ _ j1 (fun e => by cases e)
      · rintro i pre O2 h5 ⟨g, j1, e1, _⟩
        rcases e1 with ⟨e, _⟩ | ⟨e, _⟩ <;> cases e
      · rintro i pre O2 h5 ⟨g, j1, e1, _⟩
        rcases e1 with ⟨e, _⟩ | ⟨e, _⟩ <;> cases e
    · have hi : i = sl - m := by have : ¬ (i : Int) < ((sl - m : Nat) : Int) := c1; omega
      refine fin _ _ _ _ ji (fun _ => ?_)
      rw [List.take_of_length_le (by omega)]
end Go.Proofs.Ytopnljjfpfnhfaa
