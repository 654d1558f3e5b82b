/- The program's reader: the request line; what is wrong with headers. -/
import Derived.Test.YtjpmjhnjdnbopaaPParseB
namespace Go.Proofs.Ytjpmjhnjdnbopaa
open Go D
set_option linter.unusedVariables false
set_option linter.unusedSimpArgs false

theorem strsAt {h : Heap} {a : Option Addr} {l : Nat} {ls : List (List UInt8)} (hs : Rv h a l (strsV ls)) {i : Int} (h0 : 0 ≤ i) {x : List UInt8} (hx : ls[i.toNat]? = some x) {K : ByteArray → Prop} (hk : K (ofL x)) : idx a l i fun y => ldS (y.add (i.toNat * 1)) h K := by
  have hl := hs.1
  have hi := (List.getElem?_eq_some_iff.1 hx).1
  unfold strsV at hl
  rw [List.length_map] at hl
  refine hs.at h0 (by omega) (v := .string (ofL x)) ?_ (fun y hy => ldS_at hy hk)
  unfold strsV
  rw [List.getElem?_map, hx]
  rfl

theorem beginF_n {rest l : List UInt8} {n : Nat} (h : lineF 8192 338 rest = .ok (l, n)) (hn : (splitL 32 l).length ≠ 3) : beginF rest = .error 308 := by
  unfold beginF
  rw [h]
  show (match splitL 32 l with | [m, t, v] => _ | _ => _) = _
  match hs : splitL 32 l with
  | [] => rfl
  | [_] => rfl
  | [_, _] => rfl
  | [_, _, _] => rw [hs] at hn; simp at hn
  | _ :: _ :: _ :: _ :: _ => rfl
theorem beginF_3 {rest l m t v : List UInt8} {n : Nat} (h : lineF 8192 338 rest = .ok (l, n)) (hs : splitL 32 l = [m, t, v]) : beginF rest = if startF m t v = 0 then .ok (m, t, n) else .error (startF m t v) := by
  unfold beginF
  rw [h]
  show (match splitL 32 l with | [m, t, v] => _ | _ => _) = _
  rw [hs]
theorem beginF_e {rest : List UInt8} {e : Int} (h : lineF 8192 338 rest = .error e) : beginF rest = .error e := by
  unfold beginF
  rw [h]
theorem three_of {α : Type} {l : List α} (h : l.length = 3) : ∃ a b c, l = [a, b, c] := by
  match l, h with
  | [a, b, c], _ => exact ⟨a, b, c, rfl⟩

theorem beq_byteN {b : UInt8} {n : Nat} (hn : n < 256) : (((b.toNat : Nat) : Int) != (n : Int)) = !decide (b = UInt8.ofNat n) := by
  rw [bne, beq_c b n hn, Bool.eq_iff_iff]
  simp

theorem splitA_len (c : UInt8) : ∀ (s cur : List UInt8), ∀ x ∈ splitA c cur s, x.length ≤ cur.length + s.length
  | [], cur => fun x hx => by
    simp [splitA] at hx
    subst hx
    simp
  | b :: r, cur => fun x hx => by
    unfold splitA at hx
    split at hx
    · rcases List.mem_cons.1 hx with rfl | hx
      · simp
      · have := splitA_len c r [] x hx
        simp at this ⊢; omega
    · have := splitA_len c r (cur ++ [b]) x hx
      simp at this ⊢; omega
theorem splitL_len {c : UInt8} {s x : List UInt8} (hx : x ∈ splitL c s) : x.length ≤ s.length := by
  have := splitA_len c s [] x hx
  simpa using this

theorem version_spec {h : Heap} {s : ByteArray} (hs : s.size ≤ 1000000000) {R : Int → Heap → Prop} (hk : R (versionF (bl s)) h) : CallT Try.prog http_version_no [.string s] h [.sc (.int .i64)] R := by
  apply http_version_call
  unfold http_version
  have hl := bl_len s
  unfold versionF at hk
  refine withJ.intro (fun _ h' => h' = h ∧ verB (bl s) = false) ?_ ?_
  · rintro _ h' ⟨rfl, e⟩
    rw [e, if_neg (by simp)] at hk
    rw [seq_bl, show bl (⟨#[72, 84, 84, 80, 47, 49, 46, 49]⟩ : ByteArray) = http11 from rfl]
    refine cnd_of (fun e2 => ?_) (fun e2 => ?_)
    · rw [if_neg (by simpa using e2)] at hk
      exact hk
    · rw [if_pos (by simpa using e2)] at hk
      exact hk
  · intro J hJ
    refine withJ.intro (fun (q : Bool) h' => h' = h ∧ q = verB (bl s)) ?_ ?_
    · rintro q h' ⟨rfl, rfl⟩
      refine cnd_of (fun e => ?_) (fun e => hJ _ _ ⟨rfl, e⟩)
      rw [e, if_pos rfl] at hk
      exact hk
    · intro J2 hJ2
      unfold verB at hJ2
      refine cnd_of (fun e => hJ2 _ _ ⟨rfl, ?_⟩) (fun e => ?_)
      · have : (bl s).length ≠ 8 := fun e2 => by rw [← hl, e2] at e; simp at e
        rw [decide_eq_true this]; rfl
      · have h8 : (bl s).length = 8 := by simp at e; omega
        rw [decide_eq_false (show ¬ (bl s).length ≠ 8 by omega)] at hJ2
        refine ssl_bl (by omega) (by omega) (by omega) ?_
        have e5 : ((bl s).drop (0 : Int).toNat).take ((5 : Int).toNat - (0 : Int).toNat) = (bl s).take 5 := rfl
        rw [e5, seq_bl, bl_ofL, show bl (⟨#[72, 84, 84, 80, 47]⟩ : ByteArray) = httpT from rfl]
        refine cnd_of (fun e => hJ2 _ _ ⟨rfl, by rw [e]; rfl⟩) (fun e => ?_)
        rw [e] at hJ2
        have g5 : (bl s)[5]? = some (bl s)[5] := List.getElem?_eq_getElem (by omega)
        have g6 : (bl s)[6]? = some (bl s)[6] := List.getElem?_eq_getElem (by omega)
        have g7 : (bl s)[7]? = some (bl s)[7] := List.getElem?_eq_getElem (by omega)
        generalize (bl s)[5] = x5 at g5
        generalize (bl s)[6] = x6 at g6
        generalize (bl s)[7] = x7 at g7
        rw [g5, g6, g7] at hJ2
        refine sidx_i (b := x5) (by omega) g5 (digit_spec ?_)
        refine cnd_of (fun e => hJ2 _ _ ⟨rfl, by simp [show digB x5 = false by simpa using e]⟩) (fun e => ?_)
        have e5 : digB x5 = true := by simpa using e
        refine sidx_i (b := x6) (by omega) g6 ?_
        have hq := beq_byteN (b := x6) (n := 46) (by decide)
        rw [show ((x6.toNat : Int) != 46) = !decide (x6 = 46) from hq]
        refine cnd_of (fun e => hJ2 _ _ ⟨rfl, ?_⟩) (fun e => ?_)
        · have : ¬ x6 = 46 := by simpa using e
          simp [e5, this]
        · have e6 : x6 = 46 := by simpa using e
          refine sidx_i (b := x7) (by omega) g7 (digit_spec (hJ2 _ _ ⟨rfl, ?_⟩))
          simp [e5, e6]

theorem begin_spec {h : Heap} {p : Nat} {s : ByteArray} {at_ lines chunks : Nat} (r : Row h p (rdRow s at_ lines chunks 0)) (hg : MaxG h) (hp : p ≠ 0) (hs : s.size ≤ 1000000000) (hat : at_ ≤ s.size) {R : ByteArray × ByteArray × Bool → Heap → Prop}
    (hok : ∀ m t n h', beginF ((bl s).drop at_) = .ok (m, t, n) → Row h' p (rdRow s (at_ + n) lines chunks 0) → Keep (· = p) h h' → R (ofL m, ofL t, true) h')
    (hno : ∀ m t f h', beginF ((bl s).drop at_) = .error f → Stop h' p s f → Keep (· = p) h h' → R (m, t, false) h') :
    CallT Try.prog http_reader_begin_no [.pointer (some ⟨p, 0, none⟩)] h [.sc .str, .sc .str, .sc .bool] R := by
  apply http_reader_begin_call
  simp only [http_reader_begin, nn_eq, add_mk]
  refine line_spec (bound := 8192) r hg hp hs hat (by omega) ?_ ?_
  rotate_left
  · intro f h2 e st k2
    exact cnd_t rfl (hno _ _ f h2 (beginF_e e) st k2)
  intro l n h2 eL r2 k2
  refine cnd_f rfl ?_
  obtain ⟨i, hi1, hi2, hi3, hi4, hi5, hi6⟩ := lineF_ok eL
  have ll : l.length ≤ 8192 := by rw [hi2, List.length_take]; omega
  have sl := ofL_size l
  refine split_spec (s := ofL l) (c := 32) (by omega) ?_
  rw [bl_ofL]
  intro o h3 own k3
  have olen := own.len
  have slen : (strsV (splitL 32 l)).length = (splitL 32 l).length := List.length_map _
  rw [slen, Nat.mul_one] at olen
  have K3 : Keep (· = p) h h3 := keepP k2 k3
  have r3 := k3.row r2 (fun h => h)
  have r3' := r3
  unfold rdRow at r3'
  have st308 : beginF ((bl s).drop at_) = .error 308 → stC ⟨p, 0 + 4, none⟩ (.int .i64 308) h3 fun h39 => R ((⟨#[]⟩ : ByteArray), (⟨#[]⟩ : ByteArray), false) h39 := fun e => by
    refine stC_row r3' (by simp) rfl ?_
    intro h4 s4 r4 k4
    exact hno _ _ 308 h4 e ⟨_, _, _, r4⟩ (K3.trans' k4)
  refine withJ.intro (fun _ h' => h' = h3 ∧ ∃ m t v, splitL 32 l = [m, t, v] ∧ tokenL m = true ∧ m.length ≤ 16 ∧ targetL t = true) ?_ ?_
  · rintro _ h' ⟨rfl, m, t, v, e3, c1, c2, c3⟩
    have eb := beginF_3 eL e3
    have vl : v.length ≤ l.length := splitL_len (by rw [e3]; simp)
    have sv := ofL_size v
    have es : startF m t v = if versionF v ≠ 0 then versionF v else if t.head? ≠ some 47 ∧ t ≠ [42] then 331 else 0 := by
      unfold startF
      rw [c1, c3, decide_eq_false (show ¬ 16 < m.length by omega)]
      rfl
    rw [e3] at own
    have rv := own.rv
    refine strsAt rv (i := 2) (by omega) (x := v) rfl ?_
    refine version_spec (by omega) ?_
    rw [bl_ofL]
    refine stC_row r3' (by simp) rfl ?_
    intro h4 s4 r4 k4
    have rv4 : Rv h4 o.a o.len (strsV [m, t, v]) := rv.keep k4 (fun _ b hb e => by have := own.fresh b hb; have := r2.lt; have e' : b = p := e; omega)
    have r4' : Row h4 p (rdRow s (at_ + n) lines chunks (versionF v)) := r4
    have K4 := K3.trans' k4
    refine withJ.intro (fun _ h5 => Row h5 p (rdRow s (at_ + n) lines chunks (startF m t v)) ∧ Keep (· = p) h4 h5) ?_ ?_
    · rintro _ h5 ⟨r5, k5⟩
      have rv5 : Rv h5 o.a o.len (strsV [m, t, v]) := rv4.keep k5 (fun _ b hb e => by have := own.fresh b hb; have := r2.lt; have e' : b = p := e; omega)
      refine strsAt rv5 (i := 0) (by omega) (x := m) rfl ?_
      refine strsAt rv5 (i := 1) (by omega) (x := t) rfl ?_
      have r5' := r5
      unfold rdRow at r5'
      refine ldI_row (o := 0 + 4) r5' rfl ?_
      by_cases h0 : startF m t v = 0
      · rw [if_pos h0] at eb
        rw [h0] at r5 ⊢
        exact hok m t n h5 eb r5 (K4.trans' k5)
      · rw [if_neg h0] at eb
        rw [show (startF m t v == 0) = false by simpa using h0]
        exact hno _ _ _ h5 eb ⟨_, _, _, r5⟩ (K4.trans' k5)
    · intro J15 hJ15
      refine withJ.intro (fun (q : Bool) h5 => h5 = h4 ∧ q = (decide (versionF v = 0) && decide (t.head? ≠ some 47 ∧ t ≠ [42]))) ?_ ?_
      · rintro q h5 ⟨rfl, rfl⟩
        refine cnd_of (fun e => ?_) (fun e => ?_)
        · simp only [Bool.and_eq_true, decide_eq_true_eq] at e
          rw [if_neg (by simp [e.1]), if_pos e.2] at es
          refine stC_row r4 (by simp) rfl ?_
          intro h6 s6 r6 k6
          refine hJ15 _ _ ⟨?_, k6⟩
          rw [es]
          exact r6
        · refine hJ15 _ _ ⟨?_, .refl _ _⟩
          by_cases hv : versionF v = 0
          · rw [decide_eq_true hv, Bool.true_and] at e
            rw [if_neg (by simp [hv]), if_neg (of_decide_eq_false e)] at es
            rw [es, ← hv]
            exact r4'
          · rw [if_pos hv] at es
            rw [es]
            exact r4'
      · intro J24 hJ24
        refine ldI_row (o := 0 + 4) r4 rfl ?_
        refine cnd_of (fun e => ?_) (fun e => hJ24 _ _ ⟨rfl, ?_⟩)
        · have hv : versionF v = 0 := eq_of_beq e
          rw [decide_eq_true hv] at hJ24
          refine strsAt rv4 (i := 1) (by omega) (x := t) rfl ?_
          have ht : t ≠ [] := by
            rintro rfl
            exact absurd c3 (by decide)
          match t, ht with
          | b :: tr, _ =>
            refine sidx_at (i := 0) (b := b) (by rw [bl_ofL]; rfl) ?_
            have hq := beq_byteN (b := b) (n := 47) (by decide)
            rw [show ((b.toNat : Int) != 47) = !decide (b = 47) from hq]
            refine cnd_of (fun e => ?_) (fun e => hJ24 _ _ ⟨rfl, ?_⟩)
            · have hb : ¬ b = 47 := by simpa using e
              refine strsAt rv4 (i := 1) (by omega) (x := b :: tr) rfl (hJ24 _ _ ⟨rfl, ?_⟩)
              rw [seq_bl, bl_ofL, show bl (⟨#[42]⟩ : ByteArray) = [42] from rfl, Bool.eq_iff_iff]
              simp [hb]
            · have hb : b = 47 := by simpa using e
              subst hb
              simp
        · have hv : ¬ versionF v = 0 := ne_of_beq_false e
          rw [decide_eq_false hv]; rfl
  · intro J6 hJ6
    refine withJ.intro (fun (q : Bool) h' => h' = h3 ∧ (q = true → beginF ((bl s).drop at_) = .error 308) ∧ (q = false → ∃ m t v, splitL 32 l = [m, t, v] ∧ tokenL m = true ∧ m.length ≤ 16 ∧ targetL t = true)) ?_ ?_
    · rintro q h' ⟨rfl, hy, hn⟩
      exact cnd_of (fun e => st308 (hy e)) (fun e => hJ6 _ _ ⟨rfl, hn e⟩)
    · intro J36 hJ36
      refine cnd_of (fun e => hJ36 _ _ ⟨rfl, fun _ => beginF_n eL (fun e3 => ?_), fun e => by cases e⟩) (fun e => ?_)
      · rw [← olen, e3] at e; simp at e
      · have l3 : (splitL 32 l).length = 3 := by simp at e; omega
        obtain ⟨m, t, v, e3⟩ := three_of l3
        have eb := beginF_3 eL e3
        have ml : m.length ≤ l.length := splitL_len (by rw [e3]; simp)
        have tl : t.length ≤ l.length := splitL_len (by rw [e3]; simp)
        have sm := ofL_size m
        have st := ofL_size t
        have bad : (!tokenL m || (decide (16 < m.length) || !targetL t)) = true → beginF ((bl s).drop at_) = .error 308 := fun hb => by
          rw [eb]
          have : startF m t v = 308 := by unfold startF; rw [if_pos hb]
          rw [this]
          rfl
        rw [e3] at own
        have rv := own.rv
        refine strsAt rv (i := 0) (by omega) (x := m) rfl ?_
        refine token_spec (by omega) ?_
        rw [bl_ofL]
        refine cnd_of (fun h1 => hJ36 _ _ ⟨rfl, fun _ => bad (by rw [h1]; rfl), fun e => by cases e⟩) (fun h1 => ?_)
        refine strsAt rv (i := 0) (by omega) (x := m) rfl ?_
        refine cnd_dec (fun h2 => hJ36 _ _ ⟨rfl, fun _ => bad (by rw [decide_eq_true (show 16 < m.length by omega)]; simp), fun e => by cases e⟩) (fun h2 => ?_)
        refine strsAt rv (i := 1) (by omega) (x := t) rfl ?_
        refine target_spec (by omega) ?_
        rw [bl_ofL]
        refine hJ36 _ _ ⟨rfl, fun h3 => bad (by rw [h3]; simp), fun h3 => ⟨m, t, v, e3, by simpa using h1, by omega, by simpa using h3⟩⟩

/-! ### headers of a name -/
def getR (l : List ByteArray) : ByteArray × Bool := match l with | v :: _ => (v, true) | [] => (⟨#[]⟩, false)

theorem get_spec {h : Heap} {x0 : Sl} {name : ByteArray} {hs : List HP} (hh : HdsAt h x0.a x0.len hs) (hl : x0.len ≤ 10000000) {R : ByteArray × Bool → Heap → Prop} (hk : ∀ h', Nw h h' → R (getR (allF name hs)) h') :
    CallT Try.prog http_Get_no [.slice x0.a x0.len x0.cap, .string name] h [.sc .str, .sc .bool] R := by
  apply http_Get_call
  unfold http_Get
  have hlen := hh.1
  refine LoopT.intro (fun (i : Int) h' => 0 ≤ i ∧ i ≤ x0.len ∧ allF name (hs.take i.toNat) = [] ∧ Nw h h') (fun i _ => (x0.len - i).toNat) ⟨by omega, by omega, by simp [allF], .refl _ _⟩ ?_
  rintro i h2 ⟨p1, p2, p3, p4⟩
  refine cnd_dec (fun hi => ?_) (fun hi => ?_)
  · have hin : i.toNat < hs.length := by omega
    have hget : hs[i.toNat]? = some hs[i.toNat] := List.getElem?_eq_getElem hin
    generalize hs[i.toNat] = q at hget
    obtain ⟨x, e1, e2, e3⟩ := (hh.keep0 p4).2 _ _ hget
    have htk := allF_take (name := name) hget
    refine ⟨x, e1, p1, hi, ?_⟩
    refine ldS_at e2 (ldS_at e3 ?_)
    refine newB_row ?_
    intro h3 s3 r3 k3
    refine stC_row r3 (by simp) rfl ?_
    intro h4 s4 r4 k4
    rw [add_mk]
    refine stC_row r4 (by simp) rfl ?_
    intro h5 s5 r5 k5
    have K5 : Nw h h5 := Nw.st (Nw.st (p4.trans' k3) k4 p4.size) k5 p4.size
    refine ldS_row (o := 0) r5 rfl ?_
    rw [seq_dec]
    refine cnd_dec (fun e => ?_) (fun e => ?_)
    · refine ldS_row (o := 0 + 1) r5 rfl ?_
      have : allF name hs = q.2 :: allF name (hs.drop (i.toNat + 1)) := by
        rw [← List.take_append_drop (i.toNat + 1) hs, allF_app, htk, p3, if_pos e]
        simp
      have h := hk h5 K5
      rw [this] at h
      exact h
    · rw [w64_id (by omega) (by omega)]
      refine ⟨⟨by omega, by omega, ?_, K5⟩, by omega⟩
      rw [show (i + 1).toNat = i.toNat + 1 by omega, htk, p3, if_neg e]
      rfl
  · rw [List.take_of_length_le (by omega)] at p3
    have h := hk h2 p4
    rw [p3] at h
    exact h
end Go.Proofs.Ytjpmjhnjdnbopaa
