/- The program's reader: what is wrong with a head's headers, a whole request. -/
import Derived.Test.YtjpmjhnjdnbopaaPParseC
namespace Go.Proofs.Ytjpmjhnjdnbopaa
open Go D
set_option linter.unusedVariables false
set_option linter.unusedSimpArgs false

theorem allF_mem {name : ByteArray} : ∀ {hs : List HP} {v : ByteArray}, v ∈ allF name hs → ∃ p ∈ hs, p.2 = v
  | [], v, h => by simp [allF] at h
  | p :: r, v, h => by
    unfold allF at h
    split at h
    · rcases List.mem_cons.1 h with rfl | h
      · exact ⟨p, by simp, rfl⟩
      · obtain ⟨q, h1, h2⟩ := allF_mem h
        exact ⟨q, by simp [h1], h2⟩
    · obtain ⟨q, h1, h2⟩ := allF_mem h
      exact ⟨q, by simp [h1], h2⟩
/-- headers whose texts are not too long -/
def Small (hs : List HP) : Prop := hs.length ≤ 1000 ∧ ∀ p ∈ hs, p.1.size ≤ 1000000000 ∧ p.2.size ≤ 1000000000
theorem Small.val {hs : List HP} {name v : ByteArray} (h : Small hs) (hv : v ∈ allF name hs) : v.size ≤ 1000000000 := by
  obtain ⟨p, h1, rfl⟩ := allF_mem hv
  exact (h.2 p h1).2
theorem lowerL_len (s : List UInt8) : (lowerL s).length = s.length := List.length_map _
theorem dropWhile_len (p : UInt8 → Bool) : ∀ s : List UInt8, (s.dropWhile p).length ≤ s.length
  | [] => by simp
  | a :: r => by
    have := dropWhile_len p r
    rw [List.dropWhile_cons]
    split
    · simp; omega
    · simp
theorem trimL_len (s : List UInt8) : (trimL s).length ≤ s.length := by
  unfold trimL
  rw [List.length_reverse]
  have h1 := dropWhile_len blankB (s.dropWhile blankB).reverse
  have h2 := dropWhile_len blankB s
  rw [List.length_reverse] at h1
  omega
theorem headF_len {l : List UInt8} {p : HP} (h : headF l = some p) : p.1.size ≤ l.length ∧ p.2.size ≤ l.length := by
  unfold headF at h
  split at h
  · cases h
  · injection h with h
    subst h
    have := cutAt_len 58 l
    have h2 := trimL_len (cutAt 58 l).2.1
    simp only [ofL_size, lowerL_len]
    omega
theorem headersF_small : ∀ {k : Nat} {rest : List UInt8} {hd : Nat} {l : List HP} {n k' : Nat}, headersF k rest hd = .ok (l, n, k') → l.length + k' = k ∧ n ≤ rest.length ∧ hd + n ≤ 65536 ∧ ∀ p ∈ l, p.1.size ≤ 65536 ∧ p.2.size ≤ 65536
  | 0, rest, hd, l, n, k', h => by
    unfold headersF at h
    split at h
    · split at h <;> cases h
    · rename_i i hc
      split at h
      · cases h
      · split at h
        · injection h with h
          injection h with h1 h2
          injection h2 with h2 h3
          subst h1 h2 h3
          have := crlf_lt hc
          exact ⟨rfl, by omega, by omega, fun p hp => by cases hp⟩
        · cases h
  | k + 1, rest, hd, l, n, k', h => by
    unfold headersF at h
    split at h
    · split at h <;> cases h
    · rename_i i hc
      have hlt := crlf_lt hc
      split at h
      · cases h
      · split at h
        · injection h with h
          injection h with h1 h2
          injection h2 with h2 h3
          subst h1 h2 h3
          exact ⟨by simp, by omega, by omega, fun p hp => by cases hp⟩
        · split at h
          · cases h
          · rename_i p hp
            split at h
            · rename_i l2 n2 k2 he
              injection h with h
              injection h with h1 h2
              injection h2 with h2 h3
              subst h1 h2 h3
              obtain ⟨g1, g2, g4, g3⟩ := headersF_small he
              have hl := headF_len hp
              rw [List.length_take] at hl
              rw [List.length_drop] at g2
              refine ⟨by simp; omega, by omega, by omega, fun q hq => ?_⟩
              rcases List.mem_cons.1 hq with rfl | hq
              · omega
              · have := g3 q hq; omega
            · cases h

theorem rvS {h : Heap} {a : Option Addr} {l : Nat} {ss : List ByteArray} (hs : Rv h a l (ss.map Value.string)) {v : ByteArray} (h0 : ss[0]? = some v) {K : ByteArray → Prop} (hk : K v) : idx a l 0 fun x => ldS (x.add ((0 : Int).toNat * 1)) h K := by
  have hl := hs.1
  have hi := (List.getElem?_eq_some_iff.1 h0).1
  rw [List.length_map] at hl
  refine hs.at (by omega) (by omega) (v := .string v) ?_ (fun y hy => ldS_at hy hk)
  rw [List.getElem?_map]
  show (ss[0]?).map _ = _
  rw [h0]
  rfl
theorem seq_low (s t : ByteArray) : seq (ofL (lowerL (bl s))) t = decide (lowS s = t) := seq_dec _ _

theorem checkH_spec {h : Heap} {x0 : Sl} {hs : List HP} (hh : HdsAt h x0.a x0.len hs) (hsm : Small hs) {R : Int × Int → Heap → Prop} (hk : ∀ h', Nw h h' → R (checkF hs) h') :
    CallT Try.prog http_check_no [.slice x0.a x0.len x0.cap] h [.sc (.int .i64), .sc (.int .i64)] R := by
  apply http_check_call
  unfold http_check
  have hlen := hh.1
  have hl : x0.len ≤ 10000000 := by have := hsm.1; omega
  refine all_spec hh hl ?_
  intro r1 h2 v1 k2
  replace v1 := v1.rv
  refine all_spec (hh.keep0 k2) hl ?_
  intro r3 h4 v3 k4
  replace v3 := v3.rv
  have K4 := k2.trans' k4
  have v1' := v1.keep0 k4
  have n1 := v1.1
  have n3 := v3.1
  rw [List.length_map] at n1 n3
  have hdf : checkF hs = fitF hs (allF teT hs) (allF clT hs) := rfl
  have hvt : ∀ v ∈ allF teT hs, v.size ≤ 1000000000 := fun v hv => hsm.val hv
  have hvc : ∀ v ∈ allF clT hs, v.size ≤ 1000000000 := fun v hv => hsm.val hv
  replace v1' : Rv h4 r1.a r1.len ((allF teT hs).map Value.string) := v1'
  replace v3 : Rv h4 r3.a r3.len ((allF clT hs).map Value.string) := v3
  replace n1 : r1.len = (allF teT hs).length := n1
  replace n3 : r3.len = (allF clT hs).length := n3
  generalize allF teT hs = te at *
  generalize allF clT hs = cl at *
  unfold fitF at hdf
  refine withJ.intro (fun (n : Int) h' => Nw h h' ∧ checkF hs = expF hs te n) ?_ ?_
  · rintro n h' ⟨k, e⟩
    refine withJ.intro (fun _ h2 => Nw h h2 ∧ checkF hs = if te.length = 1 then (-1, 0) else (n, 0)) ?_ ?_
    · rintro _ h2 ⟨k2, e2⟩
      have := hk h2 k2
      rw [e2] at this
      refine cnd_of (fun e3 => ?_) (fun e3 => ?_)
      · rw [if_pos (by have := eq_of_beq e3; omega)] at this
        exact this
      · rw [if_neg (by have := ne_of_beq_false e3; omega)] at this
        exact this
    · intro J9 hJ9
      refine get_spec (hh.keep0 k) hl ?_
      intro h12 k12
      have K12 := k.trans' k12
      unfold expF at e
      show withJ _ _
      have he : ∀ v ∈ allF expectT hs, v.size ≤ 1000000000 := fun v hv => hsm.val hv
      rw [show (⟨#[101, 120, 112, 101, 99, 116]⟩ : ByteArray) = expectT from rfl]
      match hx : allF expectT hs with
      | [] =>
        rw [hx] at e
        refine withJ.inl ?_
        show cnd false _ _
        refine cnd_f rfl (cnd_f rfl (hJ9 _ _ ⟨K12, e⟩))
      | v :: r =>
        rw [hx] at e he
        have hv := he v (by simp)
        simp only at e
        refine withJ.intro (fun (q : Bool) h' => Nw h h' ∧ q = !decide (lowS v = contT)) ?_ ?_
        · rintro q h3 ⟨k3, rfl⟩
          refine cnd_of (fun e3 => ?_) (fun e3 => ?_)
          · rw [if_pos (by simpa using e3)] at e
            have := hk h3 k3
            rw [e] at this
            exact this
          · rw [if_neg (by simpa using e3)] at e
            exact hJ9 _ _ ⟨k3, e⟩
        · intro J14 hJ14
          show cnd true _ _
          refine cnd_t rfl ?_
          refine lower_spec (s := v) (by omega) ?_
          intro h16 k16
          exact hJ14 _ _ ⟨K12.trans' k16, by rw [seq_low]; rfl⟩
  · intro J6 hJ6
    refine withJ.intro (fun (q : Bool) h' => Nw h4 h' ∧ q = decide ((allF hostT hs).length ≠ 1 ∨ (te ≠ [] ∧ cl ≠ []) ∨ 1 < te.length)) ?_ ?_
    · rintro q h' ⟨k, rfl⟩
      have K' := K4.trans' k
      refine cnd_dec (fun e => ?_) (fun e => ?_)
      · rw [if_pos e] at hdf
        have := hk h' K'
        rw [hdf] at this
        exact this
      · rw [if_neg e] at hdf
        have v1'' := v1'.keep0 k
        have v3'' := v3.keep0 k
        refine withJ.intro (fun (q : Bool) h2 => Nw h' h2 ∧ q = decide (te.length = 1 ∧ te.head?.map lowS ≠ some chunkedT)) ?_ ?_
        · rintro q h2 ⟨k2, rfl⟩
          have K2 := K'.trans' k2
          refine cnd_dec (fun e2 => ?_) (fun e2 => ?_)
          · rw [if_pos e2] at hdf
            have := hk h2 K2
            rw [hdf] at this
            exact this
          · rw [if_neg e2] at hdf
            match hcl : cl with
            | [] =>
              refine cnd_neg (by rw [n3]; simp) ?_
              exact hJ6 _ _ ⟨K2, hdf⟩
            | x :: r =>
              simp only at hdf
              have hx := hvc x (by simp)
              refine cnd_pos (by rw [n3]; simp) ?_
              refine rvS (v3''.keep0 k2) (v := x) rfl ?_
              refine int_spec ?_
              refine withJ.intro (fun _ h3 => h3 = h2 ∧ ¬ ((intF (bl x)).2 = false ∨ r ≠ [])) ?_ ?_
              · rintro _ h3 ⟨rfl, e3⟩
                rw [if_neg e3] at hdf
                refine cnd_dec (fun e4 => ?_) (fun e4 => ?_)
                · rw [if_pos e4] at hdf
                  have := hk h3 K2
                  rw [hdf] at this
                  exact this
                · rw [if_neg e4] at hdf
                  exact hJ6 _ _ ⟨K2, hdf⟩
              · intro J29 hJ29
                refine withJ.intro (fun (q : Bool) h3 => h3 = h2 ∧ q = decide ((intF (bl x)).2 = false ∨ r ≠ [])) ?_ ?_
                · rintro q h3 ⟨rfl, rfl⟩
                  refine cnd_dec (fun e3 => ?_) (fun e3 => hJ29 _ _ ⟨rfl, e3⟩)
                  rw [if_pos e3] at hdf
                  have := hk h3 K2
                  rw [hdf] at this
                  exact this
                · intro J32 hJ32
                  refine cnd_of (fun e3 => hJ32 _ _ ⟨rfl, ?_⟩) (fun e3 => hJ32 _ _ ⟨rfl, ?_⟩)
                  · rw [decide_eq_true]
                    exact .inl (by simpa using e3)
                  · have h1 : (intF (bl x)).2 = true := by simpa using e3
                    rw [h1, n3, Bool.eq_iff_iff]
                    simp
                    cases r with
                    | nil => simp
                    | cons y r => simp; omega
        · intro J22 hJ22
          refine cnd_of (fun e2 => ?_) (fun e2 => hJ22 _ _ ⟨.refl _ _, ?_⟩)
          · have h1 : te.length = 1 := by have := eq_of_beq e2; omega
            match te, h1 with
            | [x], _ =>
              have hx := hvt x (by simp)
              refine rvS v1'' (v := x) rfl ?_
              refine lower_spec (s := x) (by omega) ?_
              intro h2 k2
              refine hJ22 _ _ ⟨k2, ?_⟩
              rw [seq_low, Bool.eq_iff_iff]
              simp
              rfl
          · rw [decide_eq_false]
            rintro ⟨h1, _⟩
            rw [n1, h1] at e2
            simp at e2
    · intro J19 hJ19
      refine all_spec (hh.keep0 K4) hl ?_
      intro r38 h39 v38 k39
      replace v38 := v38.rv
      have n38 := v38.1
      rw [List.length_map] at n38
      replace n38 : r38.len = (allF hostT hs).length := n38
      refine cnd_of (fun e => hJ19 _ _ ⟨k39, ?_⟩) (fun e => ?_)
      · rw [e, decide_eq_true]
        refine .inl (fun e2 => ?_)
        rw [n38, e2] at e
        simp at e
      · have h1 : (allF hostT hs).length = 1 := by simp at e; omega
        refine withJ.intro (fun (q : Bool) h' => h' = h39 ∧ q = decide (te ≠ [] ∧ cl ≠ [])) ?_ ?_
        · rintro q h' ⟨rfl, rfl⟩
          refine cnd_dec (fun e2 => hJ19 _ _ ⟨k39, ?_⟩) (fun e2 => hJ19 _ _ ⟨k39, ?_⟩)
          · rw [decide_eq_true e2, decide_eq_true]
            exact .inr (.inl e2)
          · rw [n1, Bool.eq_iff_iff, decide_eq_true_eq, decide_eq_true_eq]
            constructor
            · intro h; exact .inr (.inr (by omega))
            · rintro (h | h | h)
              · exact absurd h1 h
              · exact absurd h e2
              · omega
        · intro J41 hJ41
          refine cnd_dec (fun e2 => hJ41 _ _ ⟨rfl, ?_⟩) (fun e2 => hJ41 _ _ ⟨rfl, ?_⟩)
          · have : te ≠ [] := fun e3 => by rw [n1, e3] at e2; simp at e2
            rw [n3, Bool.eq_iff_iff, decide_eq_true_eq, decide_eq_true_eq]
            cases cl <;> simp [this]
          · rw [decide_eq_false]
            rintro ⟨h3, _⟩
            cases te with
            | nil => exact h3 rfl
            | cons x r => rw [n1] at e2; simp at e2
end Go.Proofs.Ytjpmjhnjdnbopaa
