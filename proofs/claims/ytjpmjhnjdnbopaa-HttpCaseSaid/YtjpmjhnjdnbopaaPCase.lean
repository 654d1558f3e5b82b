/- HttpCase. -/
import Derived.Test.YtjpmjhnjdnbopaaPBackH
namespace Go.Proofs.Ytjpmjhnjdnbopaa
open Go D
set_option linter.unusedVariables false
set_option linter.unusedSimpArgs false

theorem size_app (a b : ByteArray) : (a ++ b).size = a.size + b.size := by rw [← bl_len, bl_app, List.length_append, bl_len, bl_len]

theorem dropW_blank {p s : List UInt8} (hp : p.all blankB = true) : (p ++ s).dropWhile blankB = s.dropWhile blankB := by
  induction p with
  | nil => rfl
  | cons a r ih =>
    simp only [List.all_cons, Bool.and_eq_true] at hp
    rw [List.cons_append, List.dropWhile_cons, if_pos hp.1]
    exact ih hp.2
def rtr (s : List UInt8) : List UInt8 := (s.reverse.dropWhile blankB).reverse
theorem rtr_app {s q : List UInt8} (hq : q.all blankB = true) : rtr (s ++ q) = rtr s := by
  unfold rtr
  rw [List.reverse_append, dropW_blank (by rw [List.all_reverse]; exact hq)]
theorem trim_right {q : List UInt8} (hq : q.all blankB = true) : ∀ v : List UInt8, trimL (v ++ q) = trimL v
  | [] => by
    show rtr (q.dropWhile blankB) = rtr []
    have := dropW_blank (s := []) hq
    rw [List.append_nil] at this
    rw [this]
    rfl
  | a :: r => by
    show rtr ((a :: (r ++ q)).dropWhile blankB) = rtr ((a :: r).dropWhile blankB)
    rw [List.dropWhile_cons, List.dropWhile_cons]
    split
    · exact trim_right hq r
    · exact rtr_app (s := a :: r) hq
theorem trim_left {p : List UInt8} (hp : p.all blankB = true) (v : List UInt8) : trimL (p ++ v) = trimL v := by
  show rtr ((p ++ v).dropWhile blankB) = rtr (v.dropWhile blankB)
  rw [dropW_blank hp]

def getT : List UInt8 := [71, 69, 84, 32, 47, 32, 72, 84, 84, 80, 47, 49, 46, 49, 13, 10]
theorem getT_is : beginF getT = .ok ([71, 69, 84], [47], 16) := by kernel_rfl
def hostL : ByteArray := ⟨#[104, 111, 115, 116]⟩
def aL : ByteArray := ⟨#[97]⟩
def metaL : ByteArray := ⟨#[120, 45, 97, 109, 122, 45, 109, 101, 116, 97, 45, 97]⟩
def h1A : List UInt8 := [72, 79, 83, 84, 58, 97]
def h1B : List UInt8 := [104, 111, 115, 116, 58, 32, 97]
theorem h1A_is : headF h1A = some (hostL, aL) := by kernel_rfl
theorem h1B_is : headF h1B = some (hostL, aL) := by kernel_rfl
def nmA : List UInt8 := [88, 45, 65, 109, 122, 45, 77, 69, 84, 65, 45, 97]
def nmB : List UInt8 := [120, 45, 97, 109, 122, 45, 109, 101, 116, 97, 45, 97]

theorem case_check (t : ByteArray) : checkF [(hostL, aL), (metaL, t)] = (0, 0) := by kernel_rfl

def caseF (h1 name w : List UInt8) : List UInt8 := getT ++ (h1 ++ 13 :: 10 :: (name ++ 58 :: w ++ 13 :: 10 :: [13, 10]))

theorem case_req {h1 name w : List UInt8} (hh : headF h1 = some (hostL, aL)) (h13 : ∀ b ∈ h1, b ≠ 13) (hl1 : h1 ≠ [] ∧ h1.length ≤ 100) (hn : tokenL name = true ∧ lowerL name = nmB ∧ bareL name = false ∧ (∀ b ∈ name, b ≠ 58)) (hw : bareL w = false) (hwl : w.length ≤ 60000) :
    ∃ n, requestF (caseF h1 name w) = if valueL w then .ok (⟨[71, 69, 84], [47], [(hostL, aL), (metaL, ofL (trimL w))], []⟩, n) else .error 308 := by
  obtain ⟨hn1, hn2, hn3, hn4⟩ := hn
  have hnl : name.length = 12 := by have := congrArg List.length hn2; rw [lowerL_len] at this; exact this
  have hb := (beginF_app (a := getT) (b := h1 ++ 13 :: 10 :: (name ++ 58 :: w ++ 13 :: 10 :: [13, 10]))).1 _ getT_is
  have hd : (caseF h1 name w).drop 16 = h1 ++ 13 :: 10 :: (name ++ 58 :: w ++ 13 :: 10 :: [13, 10]) := by
    unfold caseF
    rw [show 16 = getT.length from rfl, List.drop_left']
    rfl
  have hL : bareL (name ++ 58 :: w) = false := by
    unfold bareL at *
    rw [List.any_append, List.any_cons, hn3, hw]
    rfl
  have hcut : cutAt 58 (name ++ 58 :: w) = (name, w, true) := by
    have := cutAt_yes (c := 58) (s := name ++ 58 :: w) (i := name.length) (by rw [List.getElem?_append_right (Nat.le_refl _), Nat.sub_self]; rfl) (fun j b hj hb => hn4 b (by
      rw [List.getElem?_append_left hj] at hb
      exact List.mem_of_getElem? hb))
    rw [this, List.take_left']
    · rw [← List.drop_drop, List.drop_left']
      · rfl
      · rfl
    · rfl
  have hhead : headF (name ++ 58 :: w) = if valueL w then some (metaL, ofL (trimL w)) else none := by
    unfold headF
    rw [hL, hcut, hn1]
    cases valueL w
    · rfl
    · show some (ofL (lowerL name), ofL (trimL w)) = some (metaL, ofL (trimL w))
      rw [hn2]; rfl
  have c1 := crlf_line (L := h1) (r := name ++ 58 :: w ++ 13 :: 10 :: [13, 10]) h13
  have c2 := crlf_line (L := name ++ 58 :: w) (r := [13, 10]) (bareL_no hL)
  have hll : (name ++ 58 :: w).length = 13 + w.length := by simp; omega
  have hh1 : h1.length ≠ 0 := fun e => hl1.1 (List.length_eq_zero_iff.1 e)
  have s1 := headersF_hcons (k := 99) (hd := 16) c1 hh1 (by omega) (by rw [List.take_left']; exact hh; rfl)
  rw [← List.drop_drop, List.drop_left' rfl] at s1
  rw [show (13 :: 10 :: (name ++ 58 :: w ++ 13 :: 10 :: [13, 10])).drop 2 = name ++ 58 :: w ++ 13 :: 10 :: [13, 10] from rfl] at s1
  have htk : (name ++ 58 :: w ++ 13 :: 10 :: [13, 10]).take (name ++ 58 :: w).length = name ++ 58 :: w := List.take_left' rfl
  cases hv : valueL w with
  | false =>
    rw [hv] at hhead
    have s2 := headersF_308 (k := 98) (hd := 16 + h1.length + 2) c2 (by omega) (by omega) (by rw [htk]; exact hhead)
    rw [s2] at s1
    refine ⟨0, ?_⟩
    exact reqF_head hb (by rw [hd]; exact s1)
  | true =>
    rw [hv] at hhead
    have s2 := headersF_hcons (k := 98) (hd := 16 + h1.length + 2) c2 (by omega) (by omega) (by rw [htk]; exact hhead)
    rw [← List.drop_drop, List.drop_left' rfl] at s2
    rw [show (13 :: 10 :: [13, 10] : List UInt8).drop 2 = [13, 10] from rfl] at s2
    have c3 : crlf [13, 10] = some 0 := rfl
    have s3 := headersF_end (k := 98) (hd := 16 + h1.length + 2 + (name ++ 58 :: w).length + 2) c3 (by omega)
    rw [s3] at s2
    rw [s2] at s1
    have hq : headersF 100 ((caseF h1 name w).drop 16) 16 = .ok ([(hostL, aL), (metaL, ofL (trimL w))], h1.length + 2 + ((name ++ 58 :: w).length + 2 + 2), 98) := by
      rw [hd]; exact s1
    have hck := case_check (ofL (trimL w))
    have := reqF_ok hb hq (by rw [hck]) (by rw [hck]; show ¬ ((0 : Int) < 0); omega) (by rw [hck]; show ¬ _ < ((0 : Int)).toNat; simp)
    rw [hck] at this
    exact ⟨_, this⟩

theorem and3 (x : Int) : 0 ≤ andI .i64 x 3 ∧ andI .i64 x 3 ≤ 3 := by
  unfold andI
  rw [BitVec.toNat_and]
  have h3 : (BitVec.ofInt IntKind.i64.bits 3).toNat = 3 := by decide
  rw [h3]
  have := Nat.and_le_right (n := (BitVec.ofInt IntKind.i64.bits x).toNat) (m := 3)
  have e := w64_id (x := (((BitVec.ofInt IntKind.i64.bits x).toNat &&& 3 : Nat) : Int)) (by omega) (by omega)
  show 0 ≤ w64 _ ∧ w64 _ ≤ 3
  rw [e]
  omega

def padL (n : Nat) : ByteArray := match n with | 0 => ⟨#[]⟩ | 1 => ⟨#[32]⟩ | 2 => ⟨#[9, 32]⟩ | _ => ⟨#[32, 32, 9]⟩
theorem padL_is (n : Nat) : (bl (padL n)).all blankB = true ∧ bareL (bl (padL n)) = false ∧ valueL (bl (padL n)) = true ∧ (padL n).size ≤ 3 := by
  match n with
  | 0 => exact ⟨by decide, by decide, by decide, by decide⟩
  | 1 => exact ⟨by decide, by decide, by decide, by decide⟩
  | 2 => exact ⟨by decide, by decide, by decide, by decide⟩
  | n + 3 => exact ⟨by show (bl ⟨#[32, 32, 9]⟩).all blankB = true; decide, by show bareL (bl ⟨#[32, 32, 9]⟩) = false; decide, by show valueL (bl ⟨#[32, 32, 9]⟩) = true; decide, by show (⟨#[32, 32, 9]⟩ : ByteArray).size ≤ 3; decide⟩

def preA : ByteArray := ⟨#[71, 69, 84, 32, 47, 32, 72, 84, 84, 80, 47, 49, 46, 49, 13, 10, 72, 79, 83, 84, 58, 97, 13, 10]⟩
def preB : ByteArray := ⟨#[71, 69, 84, 32, 47, 32, 72, 84, 84, 80, 47, 49, 46, 49, 13, 10, 104, 111, 115, 116, 58, 32, 97, 13, 10, 120, 45, 97, 109, 122, 45, 109, 101, 116, 97, 45, 97, 58, 32]⟩
def end4 : ByteArray := ⟨#[13, 10, 13, 10]⟩
def col1 : ByteArray := ⟨#[58]⟩

theorem httpCase_spec {h : Heap} {v : ByteArray} {up : Bool} {x2 : Int} (hg : MaxG h) {R : Bool → Heap → Prop} (hR : ∀ h', Nw h h' → R true h') :
    CallT Try.prog 8 [.string v, .bool up, .int .i64 x2] h [.sc .bool] R := by
  apply law16_HttpCase_call
  unfold law16_HttpCase
  have aw : CallT Try.prog law16_awake_no [] h [.sc .bool] fun (r1 : Bool) h2 => R r1 h2 := awake_spec hg hR
  have hl := bl_len v
  refine cnd_dec (fun _ => aw) (fun hsz => ?_)
  have hvs : v.size ≤ 1000 := by omega
  refine scan (s := v) (fun b => !isCL b) (by omega) (fun X i b hi hb hy hn => ?_) (fun hall X => ?_)
  · refine cnd_pos (by omega) ?_
    refine withJ.intro (fun _ h' => h' = h ∧ isCL b = false) (by rintro _ _ ⟨rfl, ht⟩; exact hy (by simp [ht])) ?_
    intro J hJ
    refine withJ.intro (fun (q : Bool) h' => h' = h ∧ q = isCL b) ?_ ?_
    · rintro q h' ⟨rfl, rfl⟩
      exact cnd_of (fun e => aw) (fun e => hJ _ _ ⟨rfl, e⟩)
    · intro J2 hJ2
      refine sidx_at hb ?_
      have q1 := beq_c b 13 (by decide)
      have q2 := beq_c b 10 (by decide)
      rw [show ((b.toNat : Int) == 13) = (b == 13) from q1]
      refine cnd_of (fun e => hJ2 _ _ ⟨rfl, by unfold isCL; rw [e]; rfl⟩) (fun e => ?_)
      refine sidx_at hb (hJ2 _ _ ⟨rfl, ?_⟩)
      rw [show ((b.toNat : Int) == 10) = (b == 10) from q2]
      unfold isCL
      rw [e]; rfl
  · refine cnd_neg (by omega) ?_
    have hbare : bareL (bl v) = false := by
      unfold bareL
      rw [List.any_eq_false]
      intro b hb
      have := List.all_eq_true.1 hall b hb
      simpa using this
    refine withJ.intro (fun (nm : ByteArray) h' => h' = h ∧ (nm = ofL nmA ∨ nm = ofL nmB)) ?_ ?_
    · rintro nm h' ⟨rfl, hnm⟩
      have hns : nm.size = 12 := by rcases hnm with rfl | rfl <;> rfl
      have hno : tokenL (bl nm) = true ∧ lowerL (bl nm) = nmB ∧ bareL (bl nm) = false ∧ (∀ b ∈ bl nm, b ≠ 58) := by
        rcases hnm with rfl | rfl <;> (rw [bl_ofL]; exact ⟨by decide, by decide, by decide, by decide⟩)
      refine newB_row ?_
      intro h1 s1 r1 k1
      obtain ⟨a0, a3⟩ := and3 x2
      generalize andI .i64 x2 3 = w at a0 a3
      obtain ⟨n, rfl⟩ : ∃ n : Nat, w = (n : Int) := ⟨w.toNat, by omega⟩
      refine idx_some a0 (by omega) ?_
      rw [add_mk]
      refine ldS_row (n := padL n) r1 ?_ ?_
      · match n, a3 with
        | 0, _ => rfl
        | 1, _ => rfl
        | 2, _ => rfl
        | 3, _ => rfl
        | n + 4, a3 => omega
      obtain ⟨pb, pc, pv, ps⟩ := padL_is n
      generalize padL n = pad at pb pc pv ps ⊢
      have e1 : (⟨#[71, 69, 84, 32, 47, 32, 72, 84, 84, 80, 47, 49, 46, 49, 13, 10, 72, 79, 83, 84, 58, 97, 13, 10]⟩ : ByteArray) = preA := rfl
      have e2 : (⟨#[58]⟩ : ByteArray) = col1 := rfl
      have e3 : (⟨#[13, 10, 13, 10]⟩ : ByteArray) = end4 := rfl
      have e4 : (⟨#[71, 69, 84, 32, 47, 32, 72, 84, 84, 80, 47, 49, 46, 49, 13, 10, 104, 111, 115, 116, 58, 32, 97, 13, 10, 120, 45, 97, 109, 122, 45, 109, 101, 116, 97, 45, 97, 58, 32]⟩ : ByteArray) = preB := rfl
      rw [e1, e2, e3, e4]
      have z1 : preA.size = 24 := rfl
      have z2 : col1.size = 1 := rfl
      have z3 : end4.size = 4 := rfl
      have z4 : preB.size = 39 := rfl
      simp only [size_app, z1, z2, z3, z4, hns]
      refine ⟨by omega, by omega, by omega, by omega, by omega, by omega, ?_⟩
      have hsA : bl ((((((preA ++ nm) ++ col1) ++ pad) ++ v) ++ pad) ++ end4) = caseF h1A (bl nm) (bl pad ++ bl v ++ bl pad) := by
        simp only [bl_app]
        unfold caseF
        have : bl preA = getT ++ (h1A ++ [13, 10]) := rfl
        rw [this, show bl col1 = [58] from rfl, show bl end4 = [13, 10, 13, 10] from rfl]
        simp
      have hszA : ((((((preA ++ nm) ++ col1) ++ pad) ++ v) ++ pad) ++ end4).size = 24 + 12 + 1 + pad.size + v.size + pad.size + 4 := by simp only [size_app, z1, z2, z3, hns]
      refine s2b_row (by rw [hszA]; omega) ?_
      intro cap h2 b2 k2 z5
      have rb2 := b2.rb
      replace rb2 : Rb h2 (some ⟨h1.size, 0, none⟩) _ (bl ((((((preA ++ nm) ++ col1) ++ pad) ++ v) ++ pad) ++ end4)) := rb2
      rw [hsA, hszA] at rb2
      have K2 := k1.trans' k2
      refine parse_all (x0 := ⟨some ⟨h1.size, 0, none⟩, 24 + 12 + 1 + pad.size + v.size + pad.size + 4, cap⟩) rb2 (by show 24 + 12 + 1 + pad.size + v.size + pad.size + 4 ≤ _; omega) (hg.nw K2) ?_
      intro x h3 st1 k3
      refine lay9_spec (t := 29) ?_
      intro h4 r4 k4
      refine ⟨by omega, by omega, ?_⟩
      have hsB : bl ((preB ++ v) ++ end4) = caseF h1B nmB (32 :: bl v) := by
        simp only [bl_app]
        unfold caseF
        have : bl preB = getT ++ (h1B ++ [13, 10]) ++ (nmB ++ [58, 32]) := rfl
        rw [this, show bl end4 = [13, 10, 13, 10] from rfl]
        simp
      have hszB : ((preB ++ v) ++ end4).size = 39 + v.size + 4 := by simp only [size_app, z4, z3]
      refine s2b_row (by rw [hszB]; omega) ?_
      intro cap2 h5 b5 k5 z6
      have rb5 := b5.rb
      replace rb5 : Rb h5 (some ⟨h4.size, 0, none⟩) _ (bl ((preB ++ v) ++ end4)) := rb5
      rw [hsB, hszB] at rb5
      have K5 := ((K2.trans' k3).trans' k4).trans' k5
      refine parse_all (x0 := ⟨some ⟨h4.size, 0, none⟩, 39 + v.size + 4, cap2⟩) rb5 (by show 39 + v.size + 4 ≤ _; omega) (hg.nw K5) ?_
      intro y h6 st2 k6
      refine lay9_spec (t := 29) ?_
      intro h7 r7 k7
      simp only [add_mk]
      have k47 := (k5.trans' k6).trans' k7
      have K7 := (K5.trans' k6).trans' k7
      have R4 := k47.row r4 (fun h => h)
      have hvalA : valueL (bl pad ++ bl v ++ bl pad) = valueL (bl v) := by
        unfold valueL at pv ⊢
        rw [List.all_append, List.all_append, pv]
        simp
      have hvalB : valueL (32 :: bl v) = valueL (bl v) := by
        unfold valueL
        rw [List.all_cons]
        rfl
      have hbarA : bareL (bl pad ++ bl v ++ bl pad) = false := by
        unfold bareL at *
        rw [List.any_append, List.any_append, pc, hbare]
        rfl
      have hbarB : bareL (32 :: bl v) = false := by
        unfold bareL at *
        rw [List.any_cons, hbare]
        rfl
      have htrA : trimL (bl pad ++ bl v ++ bl pad) = trimL (bl v) := by rw [trim_right pb, trim_left pb]
      have htrB : trimL (32 :: bl v) = trimL (bl v) := trim_left (p := [32]) (by decide) (bl v)
      have hpl := bl_len pad
      obtain ⟨n1, q1⟩ := case_req h1A_is (by decide) ⟨by decide, by decide⟩ hno hbarA (by simp; omega)
      obtain ⟨n2, q2⟩ := case_req (name := nmB) h1B_is (by decide) ⟨by decide, by decide⟩ ⟨by decide, by decide, by decide, by decide⟩ hbarB (by simp; omega)
      rw [hvalA, htrA] at q1
      rw [hvalB, htrB] at q2
      refine withJ.intro (fun (q : Bool) h8 => q = true ∧ Nw h7 h8) (by rintro q h8 ⟨rfl, k⟩; exact hR h8 (K7.trans' k)) ?_
      intro J hJ
      cases hval : valueL (bl v) with
      | true =>
        rw [hval, if_pos rfl] at q1 q2
        obtain ⟨a, b, rfl, sm, o1, o2, _⟩ := st1.ok q1
        obtain ⟨a2, b2', rfl, _, o3, o4, _⟩ := st2.ok q2
        unfold row9 at R4 r7
        refine ldI_row (o := 0) R4 rfl (ldI_row (o := 0) r7 rfl (cnd_t rfl ?_))
        refine ldS_row (o := 0 + 2) R4 rfl (ldS_row (o := 0 + 2 + 1) R4 rfl (ldL_row (o := 0 + 2 + 2) R4 rfl (ldL_row (o := 0 + 2 + 3) R4 rfl ?_)))
        refine ldS_row (o := 0 + 2) r7 rfl (ldS_row (o := 0 + 2 + 1) r7 rfl (ldL_row (o := 0 + 2 + 2) r7 rfl (ldL_row (o := 0 + 2 + 3) r7 rfl ?_)))
        have H1 := SlR.hds (o1.nw (k4.trans' k47)).sl
        refine same_spec (a1 := a) (b1 := b) (a2 := a2) (b2 := b2') (hs1 := [(hostL, aL), (metaL, ofL (trimL (bl v)))]) (hs2 := [(hostL, aL), (metaL, ofL (trimL (bl v)))]) (bd1 := []) (bd2 := []) H1 ((o2.nw (k4.trans' k47)).rv) (SlR.hds (o3.nw k7).sl) ((o4.nw k7).rv) (by have : a.len = 2 := H1.1; omega) ?_
        intro h8 k8
        refine cnd_t (decide_eq_true ⟨rfl, rfl, rfl, rfl⟩) ?_
        have R8 := k8.row R4 (fun h => h)
        have r8 := k8.row r7 (fun h => h)
        refine ldI_row (o := 0 + 6) R8 rfl (ldI_row (o := 0 + 6) r8 rfl (cnd_t rfl ?_))
        exact awake_spec (hg.nw (K7.trans' k8)) (fun h9 k9 => hJ _ _ ⟨rfl, k8.trans' k9⟩)
      | false =>
        rw [hval, if_neg (by simp)] at q1 q2
        rw [st1.bad q1 (by decide)] at R4
        rw [st2.bad q2 (by decide)] at r7
        unfold row9 at R4 r7
        refine ldI_row (o := 0) R4 rfl (ldI_row (o := 0) r7 rfl (cnd_t rfl ?_))
        refine ldS_row (o := 0 + 2) R4 rfl (ldS_row (o := 0 + 2 + 1) R4 rfl (ldL_row (o := 0 + 2 + 2) R4 rfl (ldL_row (o := 0 + 2 + 3) R4 rfl ?_)))
        refine ldS_row (o := 0 + 2) r7 rfl (ldS_row (o := 0 + 2 + 1) r7 rfl (ldL_row (o := 0 + 2 + 2) r7 rfl (ldL_row (o := 0 + 2 + 3) r7 rfl ?_)))
        refine same_spec (a1 := ⟨none, 0, 0⟩) (b1 := ⟨none, 0, 0⟩) (a2 := ⟨none, 0, 0⟩) (b2 := ⟨none, 0, 0⟩) (hs1 := []) (hs2 := []) (bd1 := []) (bd2 := []) (hds_nil _) (rb_nil _) (hds_nil _) (rb_nil _) (by show 0 ≤ _; omega) ?_
        intro h8 k8
        refine cnd_t (decide_eq_true ⟨rfl, rfl, rfl, rfl⟩) ?_
        have R8 := k8.row R4 (fun h => h)
        have r8 := k8.row r7 (fun h => h)
        refine ldI_row (o := 0 + 6) R8 rfl (ldI_row (o := 0 + 6) r8 rfl (cnd_t rfl ?_))
        exact awake_spec (hg.nw (K7.trans' k8)) (fun h9 k9 => hJ _ _ ⟨rfl, k8.trans' k9⟩)
    · intro J hJ
      exact cnd_of (fun _ => hJ _ _ ⟨rfl, .inl rfl⟩) (fun _ => hJ _ _ ⟨rfl, .inr rfl⟩)
end Go.Proofs.Ytjpmjhnjdnbopaa
