/- Requests out of bytes: what the program's reader comes to (in plain words over lists of bytes); lines, sizes, header lines. -/
import Derived.Test.YtjpmjhnjdnbopaaPHds
namespace Go.Proofs.Ytjpmjhnjdnbopaa
open Go D
set_option linter.unusedVariables false
set_option linter.unusedSimpArgs false

abbrev HP := ByteArray × ByteArray

/-! ### the words -/
/-- a line, and how many bytes it takes; an error 0: its end is not there yet -/
def lineF (bound : Nat) (long : Int) (rest : List UInt8) : Except Int (List UInt8 × Nat) :=
  match crlf rest with
  | some i => if bound < i then .error long else if bareL (rest.take i) then .error 308 else .ok (rest.take i, i + 2)
  | none => if bound + 2 ≤ rest.length then .error long else .error 0
def headF (l : List UInt8) : Option HP :=
  if bareL l || (!(cutAt 58 l).2.2 || (!tokenL (cutAt 58 l).1 || !valueL (cutAt 58 l).2.1)) then none else some (ofL (lowerL (cutAt 58 l).1), ofL (trimL (cutAt 58 l).2.1))
/-- header lines up to an empty one: k more may come, hd bytes of the head are gone -/
def headersF : Nat → List UInt8 → Nat → Except Int (List HP × Nat × Nat)
  | 0, rest, hd => match crlf rest with
    | none => if 65536 < hd + rest.length then .error 339 else .error 0
    | some i => if 65536 < hd + i + 2 then .error 339 else if i = 0 then .ok ([], 2, 0) else .error 339
  | k + 1, rest, hd => match crlf rest with
    | none => if 65536 < hd + rest.length then .error 339 else .error 0
    | some i => if 65536 < hd + i + 2 then .error 339 else if i = 0 then .ok ([], 2, k + 1) else
      match headF (rest.take i) with
      | none => .error 308
      | some p => match headersF k (rest.drop (i + 2)) (hd + i + 2) with
        | .ok (l, n, k') => .ok (p :: l, i + 2 + n, k')
        | .error e => .error e
def hvx (b : UInt8) : Option Nat := if 48 ≤ b.toNat ∧ b.toNat ≤ 57 then some (b.toNat - 48) else if 97 ≤ b.toNat ∧ b.toNat ≤ 102 then some (b.toNat - 87) else if 65 ≤ b.toNat ∧ b.toNat ≤ 70 then some (b.toNat - 55) else none
def hexF : Nat → List UInt8 → Option Nat
  | acc, [] => some acc
  | acc, b :: r => match hvx b with | some d => hexF (16 * acc + d) r | none => none
def sizeF (l : List UInt8) : Option Nat :=
  if decide ((cutAt 59 l).1.length < 1) || (decide (8 < (cutAt 59 l).1.length) || !valueL (cutAt 59 l).2.1) then none else hexF 0 (cutAt 59 l).1
def badEnd (r : List UInt8) (m : Nat) : Bool := (decide (m < r.length) && !decide (r[m]? = some 13)) || (decide (m + 1 < r.length) && !decide (r[m + 1]? = some 10))

def piecesF (rest body : List UInt8) (hd k : Nat) : Except Int (List UInt8 × Nat) :=
  match lineF 256 308 rest with
  | .error e => .error e
  | .ok (l, n) => match sizeF l with
    | none => .error 308
    | some m => if 1048576 < body.length + m then .error 324 else if m = 0 then
        match headersF k (rest.drop n) hd with
        | .error e => .error e
        | .ok (_, c, _) => .ok (body, n + c)
      else if badEnd (rest.drop n) m then .error 308
      else if hlt : rest.length < n + m + 2 then .error 0
      else match piecesF (rest.drop (n + m + 2)) (body ++ (rest.drop n).take m) hd k with
        | .ok (b, c) => .ok (b, n + m + 2 + c)
        | .error e => .error e
termination_by rest.length
decreasing_by
  rw [List.length_drop]; omega

def httpT : List UInt8 := [72, 84, 84, 80, 47]
def http11 : List UInt8 := [72, 84, 84, 80, 47, 49, 46, 49]
def verB (v : List UInt8) : Bool := decide (v.length ≠ 8) || (!decide (v.take 5 = httpT) || (!((v[5]?.map digB).getD false) || (!decide (v[6]? = some 46) || !((v[7]?.map digB).getD false))))
def versionF (v : List UInt8) : Int := if verB v then 308 else if v = http11 then 0 else 340
def startF (m t v : List UInt8) : Int := if !tokenL m || (decide (16 < m.length) || !targetL t) then 308 else if versionF v ≠ 0 then versionF v else if t.head? ≠ some 47 ∧ t ≠ [42] then 331 else 0
def beginF (rest : List UInt8) : Except Int (List UInt8 × List UInt8 × Nat) :=
  match lineF 8192 338 rest with
  | .error e => .error e
  | .ok (l, n) => match splitL 32 l with
    | [m, t, v] => if startF m t v = 0 then .ok (m, t, n) else .error (startF m t v)
    | _ => .error 308

def teT : ByteArray := ⟨#[116, 114, 97, 110, 115, 102, 101, 114, 45, 101, 110, 99, 111, 100, 105, 110, 103]⟩
def clT : ByteArray := ⟨#[99, 111, 110, 116, 101, 110, 116, 45, 108, 101, 110, 103, 116, 104]⟩
def hostT : ByteArray := ⟨#[104, 111, 115, 116]⟩
def expectT : ByteArray := ⟨#[101, 120, 112, 101, 99, 116]⟩
def contT : ByteArray := ⟨#[49, 48, 48, 45, 99, 111, 110, 116, 105, 110, 117, 101]⟩
def chunkedT : ByteArray := ⟨#[99, 104, 117, 110, 107, 101, 100]⟩
def connT : ByteArray := ⟨#[99, 111, 110, 110, 101, 99, 116, 105, 111, 110]⟩
def closeT : ByteArray := ⟨#[99, 108, 111, 115, 101]⟩
def lowS (s : ByteArray) : ByteArray := ofL (lowerL (bl s))
/-- the last look: what Expect says -/
def expF (hs : List HP) (te : List ByteArray) (n : Int) : Int × Int :=
  match allF expectT hs with
  | e :: _ => if lowS e ≠ contT then (0, 337) else if te.length = 1 then (-1, 0) else (n, 0)
  | [] => if te.length = 1 then (-1, 0) else (n, 0)
def fitF (hs : List HP) (te cl : List ByteArray) : Int × Int :=
  if (allF hostT hs).length ≠ 1 ∨ (te ≠ [] ∧ cl ≠ []) ∨ 1 < te.length then (0, 308) else
  if te.length = 1 ∧ te.head?.map lowS ≠ some chunkedT then (0, 335) else
  match cl with
  | [] => expF hs te 0
  | x :: r => if (intF (bl x)).2 = false ∨ r ≠ [] then (0, 308) else if 1048576 < (intF (bl x)).1 then (0, 324) else expF hs te (intF (bl x)).1
def checkF (hs : List HP) : Int × Int := fitF hs (allF teT hs) (allF clT hs)

structure Rq where
  m : List UInt8
  t : List UInt8
  hs : List HP
  body : List UInt8
def requestF (s : List UInt8) : Except Int (Rq × Nat) :=
  match beginF s with
  | .error e => .error e
  | .ok (m, t, n) => match headersF 100 (s.drop n) n with
    | .error e => .error e
    | .ok (hs, c, k) => if (checkF hs).2 ≠ 0 then .error (checkF hs).2 else if (checkF hs).1 < 0 then
        match piecesF (s.drop (n + c)) [] (n + c) k with
        | .error e => .error e
        | .ok (b, d) => .ok (⟨m, t, hs, b⟩, n + c + d)
      else if s.length - (n + c) < (checkF hs).1.toNat then .error 0
      else .ok (⟨m, t, hs, (s.drop (n + c)).take (checkF hs).1.toNat⟩, n + c + (checkF hs).1.toNat)

/-! ### small facts -/
theorem crlf_lt {s : List UInt8} {i : Nat} (h : crlf s = some i) : i + 2 ≤ s.length := by
  rcases crlf_is s with ⟨e, _⟩ | ⟨k, e, hk, _⟩
  · rw [e] at h; cases h
  · rw [e] at h
    injection h with h
    subst h
    have := (List.getElem?_eq_some_iff.1 hk.2).1
    omega
theorem lineF_ok {b : Nat} {e : Int} {rest l : List UInt8} {n : Nat} (h : lineF b e rest = .ok (l, n)) : ∃ i, crlf rest = some i ∧ l = rest.take i ∧ n = i + 2 ∧ i ≤ b ∧ bareL l = false ∧ n ≤ rest.length := by
  unfold lineF at h
  cases hc : crlf rest with
  | none => rw [hc] at h; simp only at h; split at h <;> cases h
  | some i =>
    rw [hc] at h
    simp only at h
    split at h
    · cases h
    · split at h
      · cases h
      · rename_i h1 h2
        injection h with h
        injection h with h3 h4
        subst h3 h4
        have := crlf_lt hc
        exact ⟨i, rfl, rfl, rfl, by omega, by simpa using h2, this⟩
theorem cutAt_len (c : UInt8) : ∀ s, (cutAt c s).1.length ≤ s.length ∧ (cutAt c s).2.1.length ≤ s.length
  | [] => ⟨Nat.le_refl _, Nat.le_refl _⟩
  | a :: r => by
    have := cutAt_len c r
    unfold cutAt
    split
    · simp
    · simp; omega

/-- the program's reader -/
def rdRow (s : ByteArray) (at_ lines chunks : Nat) (f : Int) : List Value := [.string s, .int .i64 (at_ : Int), .int .i64 (lines : Int), .int .i64 (chunks : Int), .int .i64 f]
/-- it stopped with this fault -/
def Stop (h : Heap) (p : Nat) (s : ByteArray) (f : Int) : Prop := ∃ a b c : Nat, Row h p (rdRow s a b c f)

theorem rest_ssl {s : ByteArray} {at_ : Nat} (hat : at_ ≤ s.size) {K : ByteArray → Prop} (hk : K (ofL ((bl s).drop at_))) : ssl s (at_ : Int) (s.size : Int) K := by
  refine ssl_bl (by omega) (by omega) (by omega) ?_
  rw [Int.toNat_natCast, Int.toNat_natCast, List.take_of_length_le (by rw [List.length_drop, bl_len]; omega)]
  exact hk
theorem pre_ssl {l : List UInt8} {i : Nat} (hi : i ≤ l.length) {K : ByteArray → Prop} (hk : K (ofL (l.take i))) : ssl (ofL l) 0 (i : Int) K := by
  have := ofL_size l
  refine ssl_bl (by omega) (by omega) (by omega) ?_
  have e : ((bl (ofL l)).drop (0 : Int).toNat).take ((i : Int).toNat - (0 : Int).toNat) = l.take i := by rw [bl_ofL]; simp
  rw [e]
  exact hk

section
variable {h : Heap} {p : Nat} {s : ByteArray} {at_ lines chunks : Nat}

theorem line_spec (r : Row h p (rdRow s at_ lines chunks 0)) (hg : MaxG h) (hp : p ≠ 0) (hs : s.size ≤ 1000000000) (hat : at_ ≤ s.size) {bound : Nat} (hb : bound ≤ 100000) {long : Int} {R : ByteArray × Bool → Heap → Prop}
    (hok : ∀ l n h', lineF bound long ((bl s).drop at_) = .ok (l, n) → Row h' p (rdRow s (at_ + n) lines chunks 0) → Keep (· = p) h h' → R (ofL l, true) h')
    (hno : ∀ f h', lineF bound long ((bl s).drop at_) = .error f → Stop h' p s f → Keep (· = p) h h' → R (⟨#[]⟩, false) h') :
    CallT Try.prog http_reader_line_no [.pointer (some ⟨p, 0, none⟩), .int .i64 (bound : Int), .int .i64 long] h [.sc .str, .sc .bool] R := by
  apply http_reader_line_call
  simp only [http_reader_line, nn_eq, add_mk]
  have r' := r
  unfold rdRow at r'
  have hl := bl_len s
  refine ldS_row (o := 0) r' rfl (ldI_row (o := 0 + 1) r' rfl ?_)
  refine rest_ssl hat ?_
  have hrl : ((bl s).drop at_).length = s.size - at_ := by rw [List.length_drop]; omega
  generalize hrest : (bl s).drop at_ = rest at *
  have hsz := ofL_size rest
  refine indexS_spec (by omega) hg ?_
  rw [bl_ofL]
  unfold lineF at hok hno
  have stop0 : Stop h p s 0 := ⟨_, _, _, r⟩
  have long1 : ∀ {K : Heap → Prop}, (∀ h', Stop h' p s long → Keep (· = p) h h' → K h') → stC ⟨p, 0 + 4, none⟩ (.int .i64 long) h K := fun hk => by
    refine stC_row r' (by simp) rfl ?_
    intro h2 s2 r2 k2
    exact hk h2 ⟨_, _, _, r2⟩ k2
  refine withJ.intro (fun _ h' => h' = h ∧ ((∃ i, crlf rest = some i ∧ i ≤ bound) ∨ (crlf rest = none ∧ ¬ bound + 2 ≤ rest.length))) ?_ ?_
  · rintro _ h' ⟨rfl, ⟨i, hc, hi⟩ | ⟨hc, hi⟩⟩
    · rw [hc] at hok hno ⊢
      simp only [oI] at hok hno ⊢
      rw [if_neg (by omega)] at hok hno
      have hlt := crlf_lt hc
      refine cnd_neg (by omega) ?_
      refine ldI_row (o := 0 + 1) r' rfl ?_
      rw [w64_id (x := (i : Int) + 2) (by omega) (by omega), w64_id (by omega) (by omega)]
      refine stC_row r' (by simp) rfl ?_
      intro h2 s2 r2 k2
      have r2' : Row h2 p (rdRow s (at_ + (i + 2)) lines chunks 0) := by
        have e : ((at_ : Int) + ((i : Int) + 2)) = ((at_ + (i + 2) : Nat) : Int) := by omega
        rw [e] at r2
        exact r2
      refine pre_ssl (by omega) ?_
      have hts := ofL_size (rest.take i)
      rw [List.length_take] at hts
      refine bare_spec (by omega) ?_
      intro h3 k3
      rw [bl_ofL]
      have r3 := k3.row r2' (fun h => h)
      have K3 : Keep (· = p) h' h3 := k2.trans k3 (fun _ _ h => h.elim)
      refine cnd_of (fun hb => ?_) (fun hb => ?_)
      · rw [if_pos hb] at hno
        refine stC_row (o := 0 + 4) (by unfold rdRow at r3; exact r3) (by simp) rfl ?_
        intro h4 s4 r4 k4
        exact hno 308 h4 rfl ⟨_, _, _, r4⟩ (K3.trans' k4)
      · rw [if_neg (by simp [hb])] at hok
        refine pre_ssl (by omega) ?_
        exact hok _ _ h3 rfl r3 K3
    · rw [hc] at hok hno ⊢
      simp only [oI] at hok hno ⊢
      rw [if_neg hi] at hno
      refine cnd_pos (by omega) ?_
      exact hno 0 h' rfl stop0 (.refl _ _)
  · intro J hJ
    refine withJ.intro (fun (b : Bool) h' => h' = h ∧ b = (match crlf rest with | some i => decide (bound < i) | none => decide (bound + 2 ≤ rest.length))) ?_ ?_
    · rintro b h' ⟨rfl, rfl⟩
      refine cnd_of (fun e => ?_) (fun e => hJ _ _ ⟨rfl, ?_⟩)
      · refine long1 fun h2 st k2 => hno long h2 ?_ st k2
        cases hc : crlf rest with
        | some i => rw [hc] at e; simp only; rw [if_pos (by simpa using e)]
        | none => rw [hc] at e; simp only; rw [if_pos (by simpa using e)]
      · cases hc : crlf rest with
        | some i => rw [hc] at e; exact .inl ⟨i, rfl, by have := of_decide_eq_false e; omega⟩
        | none => rw [hc] at e; exact .inr ⟨rfl, of_decide_eq_false e⟩
    · intro J2 hJ2
      cases hc : crlf rest with
      | some i =>
        simp only [oI]
        refine cnd_dec (fun e => hJ2 _ _ ⟨rfl, ?_⟩) (fun e => cnd_neg (by omega) (hJ2 _ _ ⟨rfl, ?_⟩))
        · rw [hc]; exact (decide_eq_true (by omega)).symm
        · rw [hc]; exact (decide_eq_false (by omega)).symm
      | none =>
        simp only [oI]
        refine cnd_neg (by omega) (cnd_pos (by omega) (hJ2 _ _ ⟨rfl, ?_⟩))
        rw [hc, w64_id (by omega) (by omega), hsz]
        rw [Bool.eq_iff_iff, decide_eq_true_eq, decide_eq_true_eq]
        omega
end

/-! ### header lines -/
def hdV (hs : List HP) : List Value := hs.flatMap fun p => [.string p.1, .string p.2]
theorem hdV_snoc (hs : List HP) (p : HP) : hdV (hs ++ [p]) = hdV hs ++ [.string p.1, .string p.2] := by simp [hdV]
theorem hdV_len : ∀ hs : List HP, (hdV hs).length = 2 * hs.length
  | [] => rfl
  | p :: r => by
    have : hdV (p :: r) = .string p.1 :: .string p.2 :: hdV r := rfl
    rw [this, List.length_cons, List.length_cons, hdV_len r, List.length_cons]; omega
theorem hdV_get : ∀ {hs : List HP} {i : Nat} {p : HP}, hs[i]? = some p → (hdV hs)[2 * i]? = some (.string p.1) ∧ (hdV hs)[2 * i + 1]? = some (.string p.2)
  | q :: r, 0, p, h => by
    simp at h
    subst h
    exact ⟨rfl, rfl⟩
  | q :: r, i + 1, p, h => by
    have e : hdV (q :: r) = .string q.1 :: .string q.2 :: hdV r := rfl
    have := hdV_get (hs := r) (i := i) (p := p) (by simpa using h)
    rw [e, show 2 * (i + 1) = 2 * i + 1 + 1 by omega, show 2 * i + 1 + 1 + 1 = (2 * i + 1) + 1 + 1 by omega]
    simpa using this
theorem SlR.hds {h : Heap} {a : Option Addr} {l c : Nat} {hs : List HP} (hr : SlR h 2 a l c (hdV hs)) : HdsAt h a l hs := by
  have hl := hr.len
  rw [hdV_len] at hl
  refine ⟨by omega, fun i p hp => ?_⟩
  have hi := (List.getElem?_eq_some_iff.1 hp).1
  obtain ⟨e1, e2⟩ := hdV_get hp
  cases a with
  | none =>
    rcases hr with ⟨_, h2, _, _⟩ | ⟨_, _, _, e, _⟩
    · omega
    · cases e
  | some x =>
    refine ⟨x, rfl, ?_, ?_⟩
    · rw [hr.cell (by omega), Nat.mul_comm]; exact e1
    · rw [add_add hr.row, hr.cell (by omega), Nat.mul_comm]; exact e2

def addH (acc : List HP) (off : Nat) : Except Int (List HP × Nat × Nat) → Except Int (List HP × Nat × Nat)
  | .ok (l, n, k) => .ok (acc ++ l, off + n, k)
  | .error e => .error e
theorem addH_cons (acc : List HP) (off : Nat) (p : HP) (i : Nat) (r : Except Int (List HP × Nat × Nat)) : addH acc off (match r with | .ok (l, n, k') => .ok (p :: l, i + 2 + n, k') | .error e => .error e) = addH (acc ++ [p]) (off + (i + 2)) r := by
  cases r with
  | ok x =>
    obtain ⟨l, n, k⟩ := x
    simp [addH]; omega
  | error e => rfl
theorem headersF_no {k hd : Nat} {rest : List UInt8} (h : crlf rest = none) : headersF k rest hd = if 65536 < hd + rest.length then .error 339 else .error 0 := by
  cases k <;> simp [headersF, h]
theorem headersF_big {k hd i : Nat} {rest : List UInt8} (h : crlf rest = some i) (hb : 65536 < hd + i + 2) : headersF k rest hd = .error 339 := by
  cases k <;> simp [headersF, h, hb]
theorem headersF_many {hd i : Nat} {rest : List UInt8} (h : crlf rest = some i) (hi : i ≠ 0) : headersF 0 rest hd = .error 339 := by
  simp [headersF, h, hi]
theorem headersF_end {k hd : Nat} {rest : List UInt8} (h : crlf rest = some 0) (hb : ¬ 65536 < hd + 2) : headersF k rest hd = .ok ([], 2, k) := by
  cases k <;> simp [headersF, h, hb]
theorem headersF_step {k hd i : Nat} {rest : List UInt8} (h : crlf rest = some i) (hi : i ≠ 0) (hb : ¬ 65536 < hd + i + 2) : headersF (k + 1) rest hd = match headF (rest.take i) with
      | none => .error 308
      | some p => match headersF k (rest.drop (i + 2)) (hd + i + 2) with
        | .ok (l, n, k') => .ok (p :: l, i + 2 + n, k')
        | .error e => .error e := by
  simp [headersF, h, hi, hb]
end Go.Proofs.Ytjpmjhnjdnbopaa
