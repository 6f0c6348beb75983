/-
  What is read, in plain words: a part is read again from its bytes, and what was read has the bytes that were there. Conditions: as each theorem states them. The statements PartReads and PartBack: what must be shown. Conditions: none.
-/
import Derived.Test.YtngginofamlkkaaGreatDoorQOl
import Derived.Test.YtngginofamlkkaaGreatDoorMc
noncomputable section
namespace Go.Proofs.YtngginofamlkkaaGreatDoor
open Go Go.RowKit
set_option maxRecDepth 100000
theorem rdHead_ok {kind most : Nat} {fl : Bool} {st : St} (h : (rdHead kind most fl st).2.2 = 0) : st.2 = 0 ∧ ∃ n, pk st.1 kind kind = (kind, (rdHead kind most fl st).1, n, 0) ∧ n = (hd kind (rdHead kind most fl st).1).length ∧ (rdHead kind most fl st).2.1 = st.1.extract n st.1.size ∧ st.1 = str (hd kind (rdHead kind most fl st).1) ++ (rdHead kind most fl st).2.1 := by
  obtain ⟨s, e⟩ := st
  unfold rdHead at *
  dsimp only at *
  split at h
  · exact absurd h (by assumption)
  rename_i he
  rcases pk_cases s kind kind with ⟨e', he', hp⟩ | ⟨k, v, n, hp, h1, h2, h3, h4, h5, h6⟩
  · rw [hp] at h
    dsimp only at h
    rw [if_pos (by omega)] at h
    dsimp only at h
    omega
  · have hk : k = kind := by omega
    subst hk
    rw [if_neg he]
    rw [hp] at h ⊢
    dsimp only at *
    rw [if_neg (by decide)] at h ⊢
    split at h
    · cases h
    rename_i hm
    rw [if_neg hm]
    split at h
    · cases h
    rename_i hf
    rw [if_neg hf]
    exact ⟨by omega, n, rfl, h4, rfl, h6⟩
theorem rdHead_err {kind most : Nat} {fl : Bool} {st : St} (h : st.2 ≠ 0) : rdHead kind most fl st = (0, st) := by
  unfold rdHead
  rw [if_pos h]
theorem rdHead_hd {kind most : Nat} {fl : Bool} {v : Nat} (hk : kind < 8) (hv : v < 18446744073709551616) (hm : v ≤ most) (t : ByteArray) (hf : fl = true → v ≤ t.size) : rdHead kind most fl (str (hd kind v) ++ t, 0) = (v, t, 0) := by
  unfold rdHead
  dsimp only
  rw [if_neg (by decide), pk_hd hk hv t (.inl rfl)]
  dsimp only
  rw [if_neg (by decide), if_neg (by omega), if_neg, ext_app']
  rw [ba_size, str_size, Nat.add_sub_cancel_left]
  rintro ⟨h1, h2⟩
  have := hf h1
  omega
theorem qText_ok {m : Nat} {st : St} (h : (qText m st).2.2 = 0) : st.2 = 0 ∧ st.1 = bText (qText m st).1 ++ (qText m st).2.1 ∧ (qText m st).1.size ≤ m := by
  rw [qText_eq] at *
  have h' : (rdHead 2 m true st).2.2 = 0 := h
  obtain ⟨h0, n, h1, h2, h3, h4⟩ := rdHead_ok h'
  obtain ⟨k1, k2, k3⟩ := rdHead_left 2 m true st
  have k3 := k3 rfl
  refine ⟨h0, ?_, ?_⟩
  · have hs : ((rdHead 2 m true st).2.1.extract 0 (rdHead 2 m true st).1).size = (rdHead 2 m true st).1 := by
      rw [size_list, ext_list, List.drop_zero, List.length_take, size_list] at *
      omega
    conv => lhs; rw [h4]
    show _ = bText ((rdHead 2 m true st).2.1.extract 0 (rdHead 2 m true st).1) ++ (rdHead 2 m true st).2.1.extract (rdHead 2 m true st).1 (rdHead 2 m true st).2.1.size
    unfold bText
    rw [hs, ba_assoc, ← split_at]
  · show ((rdHead 2 m true st).2.1.extract 0 (rdHead 2 m true st).1).size ≤ m
    rw [size_list, ext_list, List.drop_zero, List.length_take]
    omega
theorem qText_b {m : Nat} {t : ByteArray} (ht : t.size ≤ m) (hm : m < 18446744073709551616) (r : ByteArray) : qText m (bText t ++ r, 0) = (t, r, 0) := by
  rw [qText_eq]
  unfold rdText bText
  rw [ba_assoc, rdHead_hd (by decide) (by omega) ht (t ++ r) (fun _ => by rw [ba_size]; omega)]
  dsimp only
  have e1 : (t ++ r).extract 0 t.size = t := by
    refine ba_ext ?_
    rw [ext_list, app_list, List.drop_zero, size_list, Nat.sub_zero, List.take_left]
  have e2 : (t ++ r).extract t.size (t ++ r).size = r := by
    refine ba_ext ?_
    rw [ext_list, app_list, ba_size, size_list, List.drop_left, size_list, Nat.add_sub_cancel_left, List.take_length]
  rw [e1, e2]
theorem qText_err {m : Nat} {st : St} (h : st.2 ≠ 0) : (qText m st).2 = st := by
  rw [qText_eq]
  unfold rdText
  rw [rdHead_err h]
  dsimp only
  rw [ext_all]
theorem qList_ok {m : Nat} {st : St} (h : (qList m st).2.2 = 0) : st.2 = 0 ∧ st.1 = bList (qList m st).1 ++ (qList m st).2.1 := by
  rw [qList_eq] at *
  obtain ⟨h0, n, h1, h2, h3, h4⟩ := rdHead_ok h
  exact ⟨h0, h4⟩
theorem qList_b {m n : Nat} (hn : n ≤ m) (hm : m < 18446744073709551616) (r : ByteArray) : qList m (bList n ++ r, 0) = (n, r, 0) := by
  rw [qList_eq]
  exact rdHead_hd (by decide) (by omega) hn r (fun h => by cases h)
theorem qList_err {m : Nat} {st : St} (h : st.2 ≠ 0) : qList m st = (0, st) := by
  rw [qList_eq]
  exact rdHead_err h
theorem rdN_ok {st : St} (h : (rdN st).2.2 = 0) : st.2 = 0 ∧ st.1 = bInt (rdN st).1 ++ (rdN st).2.1 ∧ In64 (rdN st).1 := by
  unfold rdN at *
  rw [qInt_eq] at *
  obtain ⟨s, e⟩ := st
  unfold rdInt at *
  dsimp only at *
  split at h
  · exact absurd h (by assumption)
  rename_i he
  rcases pk_cases s 0 1 with ⟨e', he', hp⟩ | ⟨k, v, n, hp, h1, h2, h3, h4, h5, h6⟩
  · rw [hp] at h
    dsimp only at h
    rw [if_pos (by omega)] at h
    dsimp only at h
    omega
  · rw [if_neg he]
    rw [hp] at h ⊢
    dsimp only at *
    rw [if_neg (by decide)] at h ⊢
    split at h
    · cases h
    rename_i hv
    rw [if_neg hv]
    generalize hx : (if k = 1 then (-1 - (v : Int)) else (v : Int)) = x at h ⊢
    split at h
    · cases h
    rename_i hr
    rw [if_neg hr]
    dsimp only
    refine ⟨by omega, ?_, ?_⟩
    · have : bInt x = str (hd k v) := by
        unfold bInt
        rcases h3 with rfl | rfl
        · rw [if_neg (by decide)] at hx
          rw [if_neg (by omega), ← hx]
          rfl
        · rw [if_pos rfl] at hx
          rw [if_pos (by omega), show (-1 - x).toNat = v by omega]
      rw [this, ← h6]
    · unfold In64
      omega
theorem rdN_b {x : Int} (hx : In64 x) (r : ByteArray) : rdN (bInt x ++ r, 0) = (x, r, 0) := by
  unfold rdN
  rw [qInt_eq]
  unfold rdInt bInt
  unfold In64 at hx
  dsimp only
  rw [if_neg (by decide)]
  by_cases h : x < 0
  · rw [if_pos h, pk_hd (by decide) (by omega) r (.inr rfl)]
    dsimp only
    rw [if_neg (by decide), if_neg (by omega), if_pos rfl, if_neg (by omega), ext_app']
    congr 1
    omega
  · rw [if_neg h, pk_hd (by decide) (by omega) r (.inl rfl)]
    dsimp only
    rw [if_neg (by decide), if_neg (by omega), if_neg (show ¬ (0 : Nat) = 1 by decide), if_neg (by omega), ext_app']
    congr 1
    omega
theorem rdN_err {st : St} (h : st.2 ≠ 0) : (rdN st).2 = st := by
  unfold rdN
  rw [qInt_eq]
  unfold rdInt
  rw [if_pos h]
/-- Bytes one behind the other. -/
def catB {α : Type} (f : α → ByteArray) : List α → ByteArray
  | [] => ⟨#[]⟩
  | a :: l => f a ++ catB f l
theorem ba_app_nil (a : ByteArray) : a ++ (⟨#[]⟩ : ByteArray) = a := ba_ext (by rw [app_list]; simp)
theorem foldl_cat {α : Type} (f : α → ByteArray) : ∀ (l : List α) (s : ByteArray), l.foldl (fun s a => s ++ f a) s = s ++ catB f l
  | [], s => (ba_app_nil s).symm
  | a :: l, s => by rw [List.foldl_cons, foldl_cat f l, catB, ba_assoc]
def bPt (p : Pt) : ByteArray := bInt p.x ++ bInt p.y
theorem bPts_cat (l : List Pt) : bPts l = bList l.length ++ catB bPt l := foldl_cat bPt l _
theorem bInts_cat (l : List Int) : bInts l = catB bInt l := by
  unfold bInts
  rw [foldl_cat bInt l, ba_nil]
theorem bPart_cat (p : Part) : bPart p = bFront p ++ catB bPts p.holes ++ bText p.sect ++ catB bInt (bRear p) := by
  unfold bPart bHoles
  rw [foldl_cat bPts, List.take_length, bInts_cat]
theorem rdPts_err : ∀ {n : Nat} {st : St}, st.2 ≠ 0 → (rdPts n st).2 = st
  | 0, st, h => rfl
  | n + 1, st, h => by
    unfold rdPts
    dsimp only
    have h1 := rdN_err h
    rw [h1, h1]
    exact rdPts_err h
theorem rdPts_ok : ∀ {n : Nat} {st : St}, (rdPts n st).2.2 = 0 → st.2 = 0 ∧ st.1 = catB bPt (rdPts n st).1 ++ (rdPts n st).2.1 ∧ ∀ p ∈ (rdPts n st).1, InPt p
  | 0, st, h => ⟨h, (ba_nil _).symm, fun p hp => by cases hp⟩
  | n + 1, st, h => by
    unfold rdPts at h ⊢
    dsimp only at h ⊢
    obtain ⟨h1, h2, h3⟩ := rdPts_ok h
    obtain ⟨k1, k2, k3⟩ := rdN_ok h1
    obtain ⟨q1, q2, q3⟩ := rdN_ok k1
    refine ⟨q1, ?_, fun p hp => ?_⟩
    · rw [catB, bPt, ba_assoc, ba_assoc, ← h2, ← k2, ← q2]
    · rcases List.mem_cons.1 hp with rfl | hp
      · exact ⟨q3, k3⟩
      · exact h3 p hp
theorem rdPts_b : ∀ {l : List Pt}, (∀ p ∈ l, InPt p) → ∀ r : ByteArray, rdPts l.length (catB bPt l ++ r, 0) = (l, r, 0)
  | [], _, r => by
    show ([], (catB bPt [] ++ r, 0)) = _
    rw [catB, ba_nil]
  | p :: l, h, r => by
    have hp := h p (by simp)
    rw [List.length_cons, rdPts, catB, bPt, ba_assoc, ba_assoc, rdN_b hp.1]
    dsimp only
    rw [rdN_b hp.2]
    dsimp only
    rw [rdPts_b (fun q hq => h q (by simp [hq]))]
theorem rdCorners_err {st : St} (h : st.2 ≠ 0) : (rdCorners st).2 = st := by
  unfold rdCorners
  rw [qList_err h]
  rfl
theorem rdCorners_ok {st : St} (h : (rdCorners st).2.2 = 0) : st.2 = 0 ∧ st.1 = bPts (rdCorners st).1 ++ (rdCorners st).2.1 ∧ (∀ p ∈ (rdCorners st).1, InPt p) ∧ (rdCorners st).1.length ≤ 32 := by
  unfold rdCorners at *
  obtain ⟨h1, h2, h3⟩ := rdPts_ok h
  obtain ⟨k1, k2⟩ := qList_ok h1
  have hl := (rdPts_left (qList 32 st).1 (qList 32 st).2).2
  refine ⟨k1, ?_, h3, by rw [hl]; exact (qList_left 32 st).2⟩
  rw [bPts_cat, hl, ba_assoc, ← h2, ← k2]
theorem rdCorners_b {l : List Pt} (h : ∀ p ∈ l, InPt p) (hl : l.length ≤ 32) (r : ByteArray) : rdCorners (bPts l ++ r, 0) = (l, r, 0) := by
  unfold rdCorners
  rw [bPts_cat, ba_assoc, qList_b hl (by decide)]
  exact rdPts_b h r
theorem rdHoles_err : ∀ {n : Nat} {st : St}, st.2 ≠ 0 → (rdHoles n st).2 = st
  | 0, st, h => rfl
  | n + 1, st, h => by
    unfold rdHoles
    dsimp only
    rw [rdCorners_err h]
    exact rdHoles_err h
theorem rdHoles_ok : ∀ {n : Nat} {st : St}, (rdHoles n st).2.2 = 0 → st.2 = 0 ∧ st.1 = catB bPts (rdHoles n st).1 ++ (rdHoles n st).2.1 ∧ (∀ l ∈ (rdHoles n st).1, (∀ p ∈ l, InPt p) ∧ l.length ≤ 32) ∧ (rdHoles n st).1.length = n
  | 0, st, h => ⟨h, (ba_nil _).symm, fun p hp => (by cases hp), rfl⟩
  | n + 1, st, h => by
    unfold rdHoles at h ⊢
    dsimp only at h ⊢
    obtain ⟨h1, h2, h3, h4⟩ := rdHoles_ok h
    obtain ⟨k1, k2, k3, k4⟩ := rdCorners_ok h1
    refine ⟨k1, ?_, fun p hp => ?_, by simp [h4]⟩
    · rw [catB, ba_assoc, ← h2, ← k2]
    · rcases List.mem_cons.1 hp with rfl | hp
      · exact ⟨k3, k4⟩
      · exact h3 p hp
theorem rdHoles_b : ∀ {l : List (List Pt)}, (∀ h ∈ l, (∀ p ∈ h, InPt p) ∧ h.length ≤ 32) → ∀ r : ByteArray, rdHoles l.length (catB bPts l ++ r, 0) = (l, r, 0)
  | [], _, r => by
    show ([], (catB bPts [] ++ r, 0)) = _
    rw [catB, ba_nil]
  | p :: l, h, r => by
    have hp := h p (by simp)
    rw [List.length_cons, rdHoles, catB, ba_assoc, rdCorners_b hp.1 hp.2]
    dsimp only
    rw [rdHoles_b (fun q hq => h q (by simp [hq]))]
theorem rdVec_err {st : St} (h : st.2 ≠ 0) : (rdVec st).2 = st := by
  unfold rdVec
  dsimp only
  have h1 := rdN_err h
  rw [h1, h1, h1]
theorem rdVec_ok {st : St} (h : (rdVec st).2.2 = 0) : st.2 = 0 ∧ st.1 = bInt (rdVec st).1.x ++ (bInt (rdVec st).1.y ++ (bInt (rdVec st).1.z ++ (rdVec st).2.1)) ∧ InV (rdVec st).1 := by
  unfold rdVec at *
  dsimp only at *
  obtain ⟨h1, h2, h3⟩ := rdN_ok h
  obtain ⟨k1, k2, k3⟩ := rdN_ok h1
  obtain ⟨q1, q2, q3⟩ := rdN_ok k1
  refine ⟨q1, ?_, q3, k3, h3⟩
  rw [← h2, ← k2, ← q2]
theorem rdVec_b {v : Vec3} (h : InV v) (r : ByteArray) : rdVec (bInt v.x ++ (bInt v.y ++ (bInt v.z ++ r)), 0) = (v, r, 0) := by
  unfold rdVec
  rw [rdN_b h.1]
  dsimp only
  rw [rdN_b h.2.1]
  dsimp only
  rw [rdN_b h.2.2]
/-- The limits of Read. -/
structure Fits (p : Part) : Prop where
  id : p.id.size ≤ 64
  node : p.node.size ≤ 64
  grade : p.grade.size ≤ 16
  sect : p.sect.size ≤ 16
  outer : p.outer.length ≤ 32
  holes : p.holes.length ≤ 8
  all : ∀ h ∈ p.holes, h.length ≤ 32
theorem bPart_row (p : Part) (r : ByteArray) : bPart p ++ r = bText p.id ++ (bInt p.rev ++ (bInt p.kind ++ (bText p.node ++ (bText p.grade ++ (bInt p.thick ++ (bPts p.outer ++ (bList p.holes.length ++ (catB bPts p.holes ++ (bText p.sect ++ (bInt p.long ++ (bInt p.mass ++
    (bInt p.centre.x ++ (bInt p.centre.y ++ (bInt p.centre.z ++ (bInt p.at_.x ++ (bInt p.at_.y ++ (bInt p.at_.z ++ (bInt p.turn ++ r)))))))))))))))))) := by
  rw [bPart_cat]
  unfold bFront bRear
  simp only [bInts_cat, catB, ba_assoc, ba_nil]
theorem rdPart_b {p : Part} (hin : InPart p) (hf : Fits p) (r : ByteArray) : rdPart (bPart p ++ r, 0) = (p, r, 0) := by
  rw [part_eq, bPart_row]
  rw [qText_b hf.id (by decide)]
  dsimp only
  rw [rdN_b hin.rev]
  dsimp only
  rw [rdN_b hin.kind]
  dsimp only
  rw [qText_b hf.node (by decide)]
  dsimp only
  rw [qText_b hf.grade (by decide)]
  dsimp only
  rw [rdN_b hin.thick]
  dsimp only
  rw [rdCorners_b hin.outer hf.outer]
  dsimp only
  rw [qList_b hf.holes (by decide)]
  dsimp only
  rw [rdHoles_b (fun h hh => ⟨hin.holes h hh, hf.all h hh⟩)]
  dsimp only
  unfold finPart
  rw [rear_st, rear_eq]
  rw [qText_b hf.sect (by decide)]
  dsimp only
  rw [rdN_b hin.long]
  dsimp only
  rw [rdN_b hin.mass]
  dsimp only
  rw [rdVec_b hin.centre]
  dsimp only
  rw [rdVec_b hin.at_]
  dsimp only
  rw [rdN_b hin.turn]
  rfl
theorem maxLen_ge : 64 ≤ maxLen := by unfold maxLen; decide
/-- What was read lies within the limits, and has the bytes that were there; with an error there is no part. -/
theorem rdPart_ok {st : St} (h : (rdPart st).2.2 = 0) : st.1 = bPart (rdPart st).1 ++ (rdPart st).2.1 ∧ InPart (rdPart st).1 ∧ Fits (rdPart st).1 := by
  have hst : (rdPart st).2.2 = 0 := h
  rw [part_eq] at h ⊢
  unfold finPart at h ⊢
  rw [rear_st] at h ⊢
  dsimp only at h ⊢
  rw [if_pos h, rear_eq]
  obtain ⟨a1, a2, a3⟩ := rdN_ok h
  obtain ⟨b1, b2, b3⟩ := rdVec_ok a1
  obtain ⟨c1, c2, c3⟩ := rdVec_ok b1
  obtain ⟨d1, d2, d3⟩ := rdN_ok c1
  obtain ⟨e1, e2, e3⟩ := rdN_ok d1
  obtain ⟨f1, f2, f3⟩ := qText_ok e1
  obtain ⟨g1, g2, g3, g4⟩ := rdHoles_ok f1
  obtain ⟨i1, i2⟩ := qList_ok g1
  obtain ⟨j1, j2, j3, j4⟩ := rdCorners_ok i1
  obtain ⟨k1, k2, k3⟩ := rdN_ok j1
  obtain ⟨l1, l2, l3⟩ := qText_ok k1
  obtain ⟨m1, m2, m3⟩ := qText_ok l1
  obtain ⟨n1, n2, n3⟩ := rdN_ok m1
  obtain ⟨o1, o2, o3⟩ := rdN_ok n1
  obtain ⟨p1, p2, p3⟩ := qText_ok o1
  have hn := (qList_left 8 (rdCorners (rdN (qText 16 (qText 64 (rdN (rdN (qText 64 st).2).2).2).2).2).2).2).2
  have hm := maxLen_ge
  refine ⟨?_, ?_, ?_⟩
  · rw [bPart_row]
    unfold mkPart
    dsimp only
    rw [g4, ← a2, ← b2, ← c2, ← d2, ← e2, ← f2, ← g2, ← i2, ← j2, ← k2, ← l2, ← m2, ← n2, ← o2, ← p2]
  · unfold mkPart
    exact ⟨o3, n3, k3, j3, fun l hl => (g3 l hl).1, e3, d3, c3, b3, a3, by dsimp only; omega, by dsimp only; omega, by dsimp only; omega, by dsimp only; omega⟩
  · unfold mkPart
    exact ⟨p3, m3, l3, f3, j4, by dsimp only; rw [g4]; exact hn, fun l hl => (g3 l hl).2⟩
theorem rdPart_no {st : St} (h : (rdPart st).2.2 ≠ 0) : (rdPart st).1 = zeroPart := by
  rw [part_eq] at h ⊢
  unfold finPart at h ⊢
  rw [rear_st] at h ⊢
  dsimp only at h ⊢
  rw [if_neg h]
theorem fits_few {p : Part} (h : Fits p) : few16 p := ⟨Nat.le_trans h.id (by decide), Nat.le_trans h.node (by decide), Nat.le_trans h.grade (by decide), Nat.le_trans h.sect (by decide), Nat.le_trans h.outer (by decide), Nat.le_trans h.holes (by decide), fun x hx => Nat.le_trans (h.all x hx) (by decide)⟩
theorem in_zero : InPart zeroPart := by
  have z : In64 0 := by unfold In64; decide
  exact ⟨z, z, z, fun _ h => (by cases h), fun _ h => (by cases h), z, z, ⟨z, z, z⟩, ⟨z, z, z⟩, z, Nat.zero_le _, Nat.zero_le _, Nat.zero_le _, Nat.zero_le _⟩
theorem fits_zero : Fits zeroPart := ⟨Nat.zero_le _, Nat.zero_le _, Nat.zero_le _, Nat.zero_le _, Nat.zero_le _, Nat.zero_le _, fun _ h => (by cases h)⟩
end Go.Proofs.YtngginofamlkkaaGreatDoor
noncomputable section
namespace Go.Proofs.YtngginofamlkkaaGreatDoor
open Go Go.RowKit
set_option maxRecDepth 100000
abbrev eqLL (a b : List (List Value)) : Prop := a = b
/-- A closed run as a contract. -/
theorem spec_closed {P : Program} (hm : P.follows .mixedOrders = true) {k f : Nat} {args : List Value} {t : TypeId} {v u : Value} {st : Tr AObj × Nat} {hp' : Tr AObj} {ob : Prop} {Post : Value → List (List Value) → Prop} (h : acall P k f args .e 0 = some (v, st)) (hz : frzT P 0 t st.1 v = some (u, hp', ob)) (hob : ob) (hP : Post u []) : SpecI P f [] args Post := by
  intro W ρ w args' hrel hargs
  refine ((acode_sound (W := W) hm k).2.2 f args .e 0 v st.1 st.2 h ρ w args' hrel hargs).mono ?_
  rintro e w' ⟨v', ρ', rfl, h1, h2, h3⟩
  obtain ⟨ρ2, g1, g2, g3⟩ := frzT_sound h2 h1 hz hob
  exact ⟨u, hp', st.2, v', ρ2, ⟨rfl, hP⟩, rfl, g3, g1, ⟨fun b x hb => absurd hb (Nat.not_lt_zero b), (h3.trans g2).le.2⟩⟩
def c_readB (args : List Value) (conts : List (List Value)) (Post : Value → List (List Value) → Prop) : Prop :=
  match args with
  | [.pointer none] => conts = [] ∧ Post (partV zeroPart) []
  | _ => c_read1 args conts Post
def zeroV : Value := .agg zeroC.toArray
theorem read_nil : acall Tryz.prog 300 31 [.pointer none] .e 0 = some (zeroV, (acall Tryz.prog 300 31 [.pointer none] .e 0 |>.map (·.2)).getD (.e, 0)) := by kernel_rfl
def obs : Nat → Prop
  | 0 => True
  | n + 1 => True ∧ obs n
theorem obs_ok : ∀ n, obs n
  | 0 => trivial
  | n + 1 => ⟨trivial, obs_ok n⟩
theorem read_nil_z : frzT Tryz.prog 0 31 ((acall Tryz.prog 300 31 [.pointer none] .e 0 |>.map (·.2)).getD (.e, 0)).1 zeroV = some (partV zeroPart, ((acall Tryz.prog 300 31 [.pointer none] .e 0 |>.map (·.2)).getD (.e, 0)).1, obs 18) := by kernel_rfl
theorem ok_readB : IEntOk Tryz.prog ⟨31, c_readB⟩ := by
  intro args conts Post h
  change c_readB args conts Post at h
  unfold c_readB at h
  split at h
  case h_2 => exact ok_pRead args conts Post h
  · obtain ⟨rfl, h⟩ := h
    exact spec_closed mixed read_nil read_nil_z (obs_ok 18) h
theorem e_fits (p : Part) (H : Code → List Fr → AS → Prop) (Post : Value → Prop) : vcP Tryz.prog noCall 37 [(4, [1, 3])] [partV p] H Post = (True ∧ True ∧ True ∧ True ∧ True ∧ True ∧ pIf (decide ((↑(ByteArray.size (Part.id p)) : Int) > 64)) (True ∧ True ∧ True ∧ True ∧ True ∧ True ∧ True ∧ True ∧ True ∧ True ∧ True ∧ True ∧ Post (Value.bool false)) (True ∧ True ∧ True ∧ True ∧ True ∧ pIf (decide ((↑(ByteArray.size (Part.node p)) : Int) > 64)) (True ∧ True ∧ True ∧ True ∧ True ∧ True ∧ True ∧ True ∧ True ∧ True ∧ True ∧ Post (Value.bool false)) (True ∧ True ∧ True ∧ True ∧ True ∧ True ∧ pIf (decide ((↑(ByteArray.size (Part.grade p)) : Int) > 16)) (True ∧ True ∧ True ∧ True ∧ True ∧ True ∧ True ∧ True ∧ True ∧ Post (Value.bool false)) (True ∧ True ∧ True ∧ True ∧ True ∧ True ∧ pIf (decide ((↑(ByteArray.size (Part.sect p)) : Int) > 16)) (True ∧ True ∧ True ∧ True ∧ True ∧ True ∧ True ∧ Post (Value.bool false)) (True ∧ True ∧ True ∧ True ∧ True ∧ True ∧ True ∧ pIf (decide ((↑(List.length (Part.outer p)) : Int) > 32)) (True ∧ True ∧ True ∧ True ∧ True ∧ Post (Value.bool false)) (True ∧ True ∧ True ∧ True ∧ True ∧ True ∧ True ∧ pIf (decide ((↑(List.length (Part.holes p)) : Int) > 8)) (True ∧ True ∧ True ∧ Post (Value.bool false)) (True ∧ True ∧ True ∧ (True ∧ True) ∧ H (lpC Tryz.prog 37 4) (lpK Tryz.prog 37 4) (stV [(1, some (Value.pointer (some (Addr.mk 0 0 none)))), (3, some (Value.int IntKind.i64 0))] [(0, some (AObj.cells [Value.string (Part.id p), Value.int IntKind.i64 (Part.rev p), Value.int IntKind.i64 (Part.kind p), Value.string (Part.node p), Value.string (Part.grade p), Value.int IntKind.i64 (Part.thick p), tree 2 (List.length (Part.outer p)) (encL (Part.outer p)), tree 1 (List.length (Part.holes p)) (encL (Part.holes p)), Value.string (Part.sect p), Value.int IntKind.i64 (Part.long p), Value.int IntKind.i64 (Part.mass p), Value.int IntKind.i64 (Vec3.x (Part.centre p)), Value.int IntKind.i64 (Vec3.y (Part.centre p)), Value.int IntKind.i64 (Vec3.z (Part.centre p)), Value.int IntKind.i64 (Vec3.x (Part.at_ p)), Value.int IntKind.i64 (Vec3.y (Part.at_ p)), Value.int IntKind.i64 (Vec3.z (Part.at_ p)), Value.int IntKind.i64 (Part.turn p)] true))] 1)))))))) := by kernel_rfl
theorem l_fits (p : Part) (k : Int) (H : Code → List Fr → AS → Prop) (Post : Value → Prop) : vcLP Tryz.prog noCall 37 [partV p] [(4, [1, 3])] 4 (stV [(1, some (.pointer (some ⟨0, 0, none⟩))), (3, some (.int .i64 k))] [(0, some (.cells (partC p) true))] 1) H Post = (True ∧ True ∧ True ∧ True ∧ True ∧ True ∧ pIf (decide (k < (↑(List.length (Part.holes p)) : Int))) (True ∧ True ∧ True ∧ True ∧ (0 ≤ k ∧ k < (↑(List.length (Part.holes p)) : Int)) ∧ cellAt (encL (Part.holes p)) (Int.toNat k) 0 = tree 2 (toN (cellAt (encL (Part.holes p)) (Int.toNat k) 0)) (toE (cellAt (encL (Part.holes p)) (Int.toNat k) 0)) ∧ True ∧ True ∧ pIf (decide ((↑(toN (cellAt (encL (Part.holes p)) (Int.toNat k) 0)) : Int) > 32)) (True ∧ True ∧ Post (Value.bool false)) (True ∧ True ∧ True ∧ True ∧ (True ∧ True) ∧ H (lpC Tryz.prog 37 4) (lpK Tryz.prog 37 4) (stV [(1, some (Value.pointer (some (Addr.mk 0 0 none)))), (3, some (Value.int IntKind.i64 (IntKind.wrap IntKind.i64 (k + 1))))] [(0, some (AObj.cells [Value.string (Part.id p), Value.int IntKind.i64 (Part.rev p), Value.int IntKind.i64 (Part.kind p), Value.string (Part.node p), Value.string (Part.grade p), Value.int IntKind.i64 (Part.thick p), tree 2 (List.length (Part.outer p)) (encL (Part.outer p)), tree 1 (List.length (Part.holes p)) (encL (Part.holes p)), Value.string (Part.sect p), Value.int IntKind.i64 (Part.long p), Value.int IntKind.i64 (Part.mass p), Value.int IntKind.i64 (Vec3.x (Part.centre p)), Value.int IntKind.i64 (Vec3.y (Part.centre p)), Value.int IntKind.i64 (Vec3.z (Part.centre p)), Value.int IntKind.i64 (Vec3.x (Part.at_ p)), Value.int IntKind.i64 (Vec3.y (Part.at_ p)), Value.int IntKind.i64 (Vec3.z (Part.at_ p)), Value.int IntKind.i64 (Part.turn p)] true))] 1))) (True ∧ True ∧ Post (Value.bool true))) := by kernel_rfl
theorem fits_iff (p : Part) : Fits p ↔ p.id.size ≤ 64 ∧ p.node.size ≤ 64 ∧ p.grade.size ≤ 16 ∧ p.sect.size ≤ 16 ∧ p.outer.length ≤ 32 ∧ p.holes.length ≤ 8 ∧ ∀ h ∈ p.holes, h.length ≤ 32 := ⟨fun h => ⟨h.id, h.node, h.grade, h.sect, h.outer, h.holes, h.all⟩, fun ⟨a, b, c, d, e, f, g⟩ => ⟨a, b, c, d, e, f, g⟩⟩
instance (p : Part) : Decidable (Fits p) := decidable_of_iff _ (fits_iff p).symm
def c_fits (args : List Value) (Post : Value → Prop) : Prop := ∃ p : Part, args = [partV p] ∧ Post (.bool (decide (Fits p)))
theorem ok_fits : EntOk Tryz.prog ⟨37, c_fits⟩ := by
  rintro args Post ⟨p, rfl, hP⟩
  refine pure_P (vc := noCall) noCall_ok mixed (by kernel_rfl) (by kernel_rfl) _ (e_fits p _ _) ?_
  simp only [true_and, pIf_iff, decide_eq_false_iff_not, decide_eq_true_eq]
  have no : ¬ Fits p → Post (.bool false) := fun hn => of_b hP (decide_eq_false hn)
  refine ⟨fun h => no fun f => ?_, fun h1 => ⟨fun h => no fun f => ?_, fun h2 => ⟨fun h => no fun f => ?_, fun h3 => ⟨fun h => no fun f => ?_, fun h4 => ⟨fun h => no fun f => ?_, fun h5 => ⟨fun h => no fun f => ?_, fun h6 => ?_⟩⟩⟩⟩⟩⟩
  · have := f.id; omega
  · have := f.node; omega
  · have := f.grade; omega
  · have := f.sect; omega
  · have := f.outer; omega
  · have := f.holes; omega
  · refine down (n := p.holes.length) (p := fun k => (∀ i (hi : i < p.holes.length), i < k → p.holes[i].length ≤ 32) → OkP 37 [partV p] 4 Post
      (stV [(1, some (.pointer (some ⟨0, 0, none⟩))), (3, some (.int .i64 k))] [(0, some (.cells (partC p) true))] 1)) (fun hall => ?_) (fun k h1 ih hall => ?_) (fun i hi h0 => by omega)
    · refine ok_P (vc := noCall) noCall_ok mixed _ (l_fits p p.holes.length _ _) ?_
      simp only [true_and, pIf_iff, decide_eq_true_eq, decide_eq_false_iff_not]
      refine ⟨fun hlt => by omega, fun _ => of_b hP (decide_eq_true ⟨by omega, by omega, by omega, by omega, by omega, by omega, fun h hh => ?_⟩)⟩
      obtain ⟨i, hi, rfl⟩ := List.mem_iff_getElem.1 hh
      exact hall i hi hi
    · refine ok_P (vc := noCall) noCall_ok mixed _ (l_fits p k _ _) ?_
      simp only [true_and, and_true, pIf_iff, decide_eq_true_eq, decide_eq_false_iff_not, Int.toNat_natCast, cell_pts h1, toN_tree, toE_tree, wrapSucc (show k < 2 ^ 62 by omega)]
      refine ⟨fun _ => ⟨by omega, fun hl => no fun f => ?_, fun hl => ih fun i hi hik => ?_⟩, fun h' => by omega⟩
      · have := f.all _ (List.getElem_mem h1); omega
      · rcases Nat.lt_or_ge i k with h' | h'
        · exact hall i hi h'
        · have : i = k := by omega
          subst this
          omega
def baseQ : VCall := tabCallF Tryz.prog [⟨28, c_Same⟩] (tabCall [⟨25, c_Encode⟩, ⟨17, c_true⟩, ⟨37, c_fits⟩] noCall)
theorem baseQ_ok : VCallOk Tryz.prog baseQ := tabCallF_ok (by
  intro e he
  simp only [List.mem_cons, List.not_mem_nil, or_false] at he
  rcases he with rfl
  exact ok_Same16) (tabCall_ok (by
  intro e he
  simp only [List.mem_cons, List.not_mem_nil, or_false] at he
  rcases he with rfl | rfl | rfl
  · exact ok_Encode
  · exact ok_alive
  · exact ok_fits) noCall_ok)
def callQ : VCall := inlCall Tryz.prog [29, 30, 33, 34, 35, 36] (itabCall [⟨31, c_readB⟩, ⟨32, c_read2⟩] baseQ) 2
theorem callQ_ok : VCallOk Tryz.prog callQ := inlCall_ok mixed (itabCall_ok (by
  intro e he
  simp only [List.mem_cons, List.not_mem_nil, or_false] at he
  rcases he with rfl | rfl
  · exact ok_readB
  · exact ok_rRead) baseQ_ok) 2
theorem e_PartReads (s : ByteArray) (H : Code → List Fr → AS → Prop) (Post : Value → Prop) : vcP Tryz.prog callQ 9 [] [.string s] H Post = (True ∧ True ∧ True ∧ True ∧ pIf (decide ((↑(ByteArray.size s) : Int) > 3000)) (eqL [] [] ∧ True ∧ True ∧ Post (Value.bool true)) (True ∧ True ∧ True ∧ True ∧ True ∧ True ∧ True ∧ True ∧ True ∧ True ∧ True ∧ True ∧ True ∧ True ∧ True ∧ True ∧ true = true ∧ ∃ (st : St), eqL [Value.pointer (some (Addr.mk 0 0 none))] [Value.pointer (some (Addr.mk 0 0 none))] ∧ eqLL [[Value.string s, Value.int IntKind.i64 0]] [[Value.string (Prod.fst st), Value.int IntKind.i64 (↑(Prod.snd st) : Int)]] ∧ ByteArray.size (Prod.fst st) < 4611686018427387904 ∧ 1 = 1 ∧ True ∧ true = true ∧ ∃ (S : ByteArray), ∃ (st_1 : St), eqL [Value.pointer (some (Addr.mk 0 0 none))] [Value.pointer (some (Addr.mk 0 0 none))] ∧ eqLL [[Value.string s, Value.int IntKind.i64 0, Value.int IntKind.i64 0]] [[Value.string S, Value.int IntKind.i64 (↑(ByteArray.size S - ByteArray.size (Prod.fst st_1)) : Int), Value.int IntKind.i64 (↑(Prod.snd st_1) : Int)]] ∧ ByteArray.size S < 4611686018427387904 ∧ (ByteArray.size (Prod.fst st_1) ≤ ByteArray.size S ∧ Prod.fst st_1 = ByteArray.extract S (ByteArray.size S - ByteArray.size (Prod.fst st_1)) (ByteArray.size S)) ∧ 1 = 1 ∧ True ∧ True ∧ 18 ≤ 18 ∧ 18 ≤ 18 ∧ True ∧ True ∧ ((True ∧ True ∧ True ∧ True ∧ True ∧ True ∧ True ∧ True ∧ True ∧ True ∧ True ∧ True ∧ True ∧ True ∧ True ∧ True ∧ True ∧ True ∧ True) ∧ (True ∧ True ∧ True ∧ True ∧ True ∧ True ∧ True ∧ True ∧ True ∧ True ∧ True ∧ True ∧ True ∧ True ∧ True ∧ True ∧ True ∧ True ∧ True) ∧ True) ∧ ∃ (p : Part), ∃ (q : Part), eqL [Value.agg #[Value.string (Part.id (Prod.fst (rdPart st))), Value.int IntKind.i64 (Part.rev (Prod.fst (rdPart st))), Value.int IntKind.i64 (Part.kind (Prod.fst (rdPart st))), Value.string (Part.node (Prod.fst (rdPart st))), Value.string (Part.grade (Prod.fst (rdPart st))), Value.int IntKind.i64 (Part.thick (Prod.fst (rdPart st))), trPt (Part.outer (Prod.fst (rdPart st))), trPts (Part.holes (Prod.fst (rdPart st))), Value.string (Part.sect (Prod.fst (rdPart st))), Value.int IntKind.i64 (Part.long (Prod.fst (rdPart st))), Value.int IntKind.i64 (Part.mass (Prod.fst (rdPart st))), Value.int IntKind.i64 (Vec3.x (Part.centre (Prod.fst (rdPart st)))), Value.int IntKind.i64 (Vec3.y (Part.centre (Prod.fst (rdPart st)))), Value.int IntKind.i64 (Vec3.z (Part.centre (Prod.fst (rdPart st)))), Value.int IntKind.i64 (Vec3.x (Part.at_ (Prod.fst (rdPart st)))), Value.int IntKind.i64 (Vec3.y (Part.at_ (Prod.fst (rdPart st)))), Value.int IntKind.i64 (Vec3.z (Part.at_ (Prod.fst (rdPart st)))), Value.int IntKind.i64 (Part.turn (Prod.fst (rdPart st)))], Value.agg #[Value.string (Part.id (Prod.fst (rdPart st_1))), Value.int IntKind.i64 (Part.rev (Prod.fst (rdPart st_1))), Value.int IntKind.i64 (Part.kind (Prod.fst (rdPart st_1))), Value.string (Part.node (Prod.fst (rdPart st_1))), Value.string (Part.grade (Prod.fst (rdPart st_1))), Value.int IntKind.i64 (Part.thick (Prod.fst (rdPart st_1))), trPt (Part.outer (Prod.fst (rdPart st_1))), trPts (Part.holes (Prod.fst (rdPart st_1))), Value.string (Part.sect (Prod.fst (rdPart st_1))), Value.int IntKind.i64 (Part.long (Prod.fst (rdPart st_1))), Value.int IntKind.i64 (Part.mass (Prod.fst (rdPart st_1))), Value.int IntKind.i64 (Vec3.x (Part.centre (Prod.fst (rdPart st_1)))), Value.int IntKind.i64 (Vec3.y (Part.centre (Prod.fst (rdPart st_1)))), Value.int IntKind.i64 (Vec3.z (Part.centre (Prod.fst (rdPart st_1)))), Value.int IntKind.i64 (Vec3.x (Part.at_ (Prod.fst (rdPart st_1)))), Value.int IntKind.i64 (Vec3.y (Part.at_ (Prod.fst (rdPart st_1)))), Value.int IntKind.i64 (Vec3.z (Part.at_ (Prod.fst (rdPart st_1)))), Value.int IntKind.i64 (Part.turn (Prod.fst (rdPart st_1)))]] [partV p, partV q] ∧ ShortP p ∧ pIf (decide (p = q)) (True ∧ True ∧ True ∧ True ∧ True ∧ True ∧ True ∧ True ∧ True ∧ True ∧ True ∧ True ∧ True ∧ True ∧ True ∧ True ∧ True ∧ True ∧ True ∧ True ∧ True ∧ True ∧ pIf (!decide ((↑(Prod.snd (Prod.snd (rdPart st))) : Int) = (↑(Prod.snd (Prod.snd (rdPart st_1))) : Int))) (True ∧ True ∧ True ∧ True ∧ True ∧ Post (Value.bool false)) (True ∧ True ∧ True ∧ True ∧ True ∧ True ∧ True ∧ True ∧ True ∧ True ∧ True ∧ True ∧ True ∧ True ∧ True ∧ True ∧ True ∧ True ∧ True ∧ True ∧ True ∧ True ∧ True ∧ True ∧ True ∧ True ∧ True ∧ True ∧ True ∧ pIf (!decide ((↑(ByteArray.size (Prod.fst (Prod.snd (rdPart st)))) : Int) = IntKind.wrap IntKind.i64 ((↑(ByteArray.size S) : Int) - (↑(ByteArray.size S - ByteArray.size (Prod.fst (Prod.snd (rdPart st_1)))) : Int)))) (True ∧ True ∧ True ∧ Post (Value.bool false)) (True ∧ True ∧ ∃ (p : Part), eqL [Value.agg #[Value.string (Part.id (Prod.fst (rdPart st))), Value.int IntKind.i64 (Part.rev (Prod.fst (rdPart st))), Value.int IntKind.i64 (Part.kind (Prod.fst (rdPart st))), Value.string (Part.node (Prod.fst (rdPart st))), Value.string (Part.grade (Prod.fst (rdPart st))), Value.int IntKind.i64 (Part.thick (Prod.fst (rdPart st))), trPt (Part.outer (Prod.fst (rdPart st))), trPts (Part.holes (Prod.fst (rdPart st))), Value.string (Part.sect (Prod.fst (rdPart st))), Value.int IntKind.i64 (Part.long (Prod.fst (rdPart st))), Value.int IntKind.i64 (Part.mass (Prod.fst (rdPart st))), Value.int IntKind.i64 (Vec3.x (Part.centre (Prod.fst (rdPart st)))), Value.int IntKind.i64 (Vec3.y (Part.centre (Prod.fst (rdPart st)))), Value.int IntKind.i64 (Vec3.z (Part.centre (Prod.fst (rdPart st)))), Value.int IntKind.i64 (Vec3.x (Part.at_ (Prod.fst (rdPart st)))), Value.int IntKind.i64 (Vec3.y (Part.at_ (Prod.fst (rdPart st)))), Value.int IntKind.i64 (Vec3.z (Part.at_ (Prod.fst (rdPart st)))), Value.int IntKind.i64 (Part.turn (Prod.fst (rdPart st)))]] [partV p] ∧ InPart p ∧ (ByteArray.size (Part.id p) ≤ 200 ∧ ByteArray.size (Part.node p) ≤ 200 ∧ ByteArray.size (Part.grade p) ≤ 200 ∧ ByteArray.size (Part.sect p) ≤ 200 ∧ List.length (Part.outer p) ≤ 40 ∧ List.length (Part.holes p) ≤ 12 ∧ ∀ (h : List Pt), h ∈ Part.holes p → List.length h ≤ 40) ∧ True ∧ True ∧ True ∧ True ∧ True ∧ True ∧ True ∧ True ∧ True ∧ True ∧ True ∧ pIf (!decide ((↑(Prod.snd (Prod.snd (rdPart st_1))) : Int) = 0)) (True ∧ True ∧ True ∧ eqL [] [] ∧ True ∧ True ∧ True ∧ Post (Value.bool true)) (True ∧ True ∧ True ∧ True ∧ True ∧ True ∧ pIf (decide ((↑(ByteArray.size (bPart p)) : Int) ≤ (↑(ByteArray.size s) : Int))) (True ∧ True ∧ True ∧ True ∧ True ∧ (0 ≤ (↑(ByteArray.size (bPart p)) : Int) ∧ True ∧ 0 ≤ Int.toNat (↑(ByteArray.size (bPart p)) : Int) ∧ Int.toNat (↑(ByteArray.size (bPart p)) : Int) ≤ ByteArray.size s) ∧ True ∧ pIf (decide (bPart p = ByteArray.extract s 0 (Int.toNat (↑(ByteArray.size (bPart p)) : Int)))) (True ∧ True ∧ True ∧ True ∧ True ∧ True ∧ True ∧ True ∧ True ∧ True ∧ True ∧ True ∧ True ∧ True ∧ True ∧ True ∧ True ∧ True ∧ True ∧ True ∧ True ∧ True ∧ True ∧ pIf (decide (IntKind.wrap IntKind.i64 ((↑(ByteArray.size S) : Int) - (↑(ByteArray.size S - ByteArray.size (Prod.fst (Prod.snd (rdPart st_1)))) : Int)) = IntKind.wrap IntKind.i64 ((↑(ByteArray.size s) : Int) - (↑(ByteArray.size (bPart p)) : Int)))) (True ∧ True ∧ True ∧ eqL [] [] ∧ True ∧ True ∧ True ∧ Post (Value.bool true)) (True ∧ True ∧ True ∧ True ∧ True ∧ True ∧ Post (Value.bool false))) (True ∧ True ∧ True ∧ True ∧ True ∧ True ∧ True ∧ True ∧ Post (Value.bool false))) (True ∧ True ∧ True ∧ True ∧ True ∧ True ∧ True ∧ True ∧ True ∧ Post (Value.bool false)))))) (True ∧ True ∧ True ∧ True ∧ True ∧ True ∧ True ∧ Post (Value.bool false)))) := by kernel_rfl
theorem e_PartBack (p : Part) (s : ByteArray) (H : Code → List Fr → AS → Prop) (Post : Value → Prop) : vcP Tryz.prog callQ 10 [] [partV p, .string s] H Post = (True ∧ True ∧ true = true ∧ eqLL [] [] ∧ 0 = 0 ∧ True ∧ 18 ≤ 18 ∧ True ∧ True ∧ ((True ∧ True ∧ True ∧ True ∧ True ∧ True ∧ True ∧ True ∧ True ∧ True ∧ True ∧ True ∧ True ∧ True ∧ True ∧ True ∧ True ∧ True ∧ True) ∧ (True ∧ True ∧ True ∧ True ∧ True ∧ True ∧ True ∧ True ∧ True ∧ True ∧ True ∧ True ∧ True ∧ True ∧ True ∧ True ∧ True ∧ True ∧ True) ∧ True) ∧ ∃ (p_1 : Part), ∃ (q : Part), eqL [Value.agg #[Value.string (Part.id zeroPart), Value.int IntKind.i64 (Part.rev zeroPart), Value.int IntKind.i64 (Part.kind zeroPart), Value.string (Part.node zeroPart), Value.string (Part.grade zeroPart), Value.int IntKind.i64 (Part.thick zeroPart), trPt (Part.outer zeroPart), trPts (Part.holes zeroPart), Value.string (Part.sect zeroPart), Value.int IntKind.i64 (Part.long zeroPart), Value.int IntKind.i64 (Part.mass zeroPart), Value.int IntKind.i64 (Vec3.x (Part.centre zeroPart)), Value.int IntKind.i64 (Vec3.y (Part.centre zeroPart)), Value.int IntKind.i64 (Vec3.z (Part.centre zeroPart)), Value.int IntKind.i64 (Vec3.x (Part.at_ zeroPart)), Value.int IntKind.i64 (Vec3.y (Part.at_ zeroPart)), Value.int IntKind.i64 (Vec3.z (Part.at_ zeroPart)), Value.int IntKind.i64 (Part.turn zeroPart)], Value.agg #[Value.string (ByteArray.mk #[]), Value.int IntKind.i64 0, Value.int IntKind.i64 0, Value.string (ByteArray.mk #[]), Value.string (ByteArray.mk #[]), Value.int IntKind.i64 0, tree 2 0 #[], tree 1 0 #[], Value.string (ByteArray.mk #[]), Value.int IntKind.i64 0, Value.int IntKind.i64 0, Value.int IntKind.i64 0, Value.int IntKind.i64 0, Value.int IntKind.i64 0, Value.int IntKind.i64 0, Value.int IntKind.i64 0, Value.int IntKind.i64 0, Value.int IntKind.i64 0]] [partV p_1, partV q] ∧ ShortP p_1 ∧ pIf (decide (p_1 = q)) (True ∧ True ∧ ∃ (p_2 : Part), eqL [Value.agg #[Value.string (Part.id p), Value.int IntKind.i64 (Part.rev p), Value.int IntKind.i64 (Part.kind p), Value.string (Part.node p), Value.string (Part.grade p), Value.int IntKind.i64 (Part.thick p), trPt (Part.outer p), trPts (Part.holes p), Value.string (Part.sect p), Value.int IntKind.i64 (Part.long p), Value.int IntKind.i64 (Part.mass p), Value.int IntKind.i64 (Vec3.x (Part.centre p)), Value.int IntKind.i64 (Vec3.y (Part.centre p)), Value.int IntKind.i64 (Vec3.z (Part.centre p)), Value.int IntKind.i64 (Vec3.x (Part.at_ p)), Value.int IntKind.i64 (Vec3.y (Part.at_ p)), Value.int IntKind.i64 (Vec3.z (Part.at_ p)), Value.int IntKind.i64 (Part.turn p)]] [partV p_2] ∧ pIf (decide (Fits p_2)) (True ∧ True ∧ True ∧ True ∧ True ∧ pIf (decide ((↑(ByteArray.size s) : Int) > 500)) (True ∧ eqL [] [] ∧ True ∧ True ∧ Post (Value.bool true)) (True ∧ True ∧ ∃ (p_3 : Part), eqL [Value.agg #[Value.string (Part.id p), Value.int IntKind.i64 (Part.rev p), Value.int IntKind.i64 (Part.kind p), Value.string (Part.node p), Value.string (Part.grade p), Value.int IntKind.i64 (Part.thick p), trPt (Part.outer p), trPts (Part.holes p), Value.string (Part.sect p), Value.int IntKind.i64 (Part.long p), Value.int IntKind.i64 (Part.mass p), Value.int IntKind.i64 (Vec3.x (Part.centre p)), Value.int IntKind.i64 (Vec3.y (Part.centre p)), Value.int IntKind.i64 (Vec3.z (Part.centre p)), Value.int IntKind.i64 (Vec3.x (Part.at_ p)), Value.int IntKind.i64 (Vec3.y (Part.at_ p)), Value.int IntKind.i64 (Vec3.z (Part.at_ p)), Value.int IntKind.i64 (Part.turn p)]] [partV p_3] ∧ InPart p_3 ∧ (ByteArray.size (Part.id p_3) ≤ 200 ∧ ByteArray.size (Part.node p_3) ≤ 200 ∧ ByteArray.size (Part.grade p_3) ≤ 200 ∧ ByteArray.size (Part.sect p_3) ≤ 200 ∧ List.length (Part.outer p_3) ≤ 40 ∧ List.length (Part.holes p_3) ≤ 12 ∧ ∀ (h : List Pt), h ∈ Part.holes p_3 → List.length h ≤ 40) ∧ True ∧ ByteArray.size (bPart p_3) + ByteArray.size s ≤ 9223372036854775807 ∧ True ∧ True ∧ True ∧ True ∧ True ∧ True ∧ True ∧ True ∧ True ∧ true = true ∧ ∃ (st : St), eqL [Value.pointer (some (Addr.mk 0 0 none))] [Value.pointer (some (Addr.mk 0 0 none))] ∧ eqLL [[Value.string (bPart p_3 ++ s), Value.int IntKind.i64 0]] [[Value.string (Prod.fst st), Value.int IntKind.i64 (↑(Prod.snd st) : Int)]] ∧ ByteArray.size (Prod.fst st) < 4611686018427387904 ∧ 1 = 1 ∧ ((Value.agg #[Value.string (Part.id p), Value.int IntKind.i64 (Part.rev p), Value.int IntKind.i64 (Part.kind p), Value.string (Part.node p), Value.string (Part.grade p), Value.int IntKind.i64 (Part.thick p), trPt (Part.outer p), trPts (Part.holes p), Value.string (Part.sect p), Value.int IntKind.i64 (Part.long p), Value.int IntKind.i64 (Part.mass p), Value.int IntKind.i64 (Vec3.x (Part.centre p)), Value.int IntKind.i64 (Vec3.y (Part.centre p)), Value.int IntKind.i64 (Vec3.z (Part.centre p)), Value.int IntKind.i64 (Vec3.x (Part.at_ p)), Value.int IntKind.i64 (Vec3.y (Part.at_ p)), Value.int IntKind.i64 (Vec3.z (Part.at_ p)), Value.int IntKind.i64 (Part.turn p)] = Value.agg #[Value.string (Part.id p), Value.int IntKind.i64 (Part.rev p), Value.int IntKind.i64 (Part.kind p), Value.string (Part.node p), Value.string (Part.grade p), Value.int IntKind.i64 (Part.thick p), trPt (Part.outer p), trPts (Part.holes p), Value.string (Part.sect p), Value.int IntKind.i64 (Part.long p), Value.int IntKind.i64 (Part.mass p), Value.int IntKind.i64 (Vec3.x (Part.centre p)), Value.int IntKind.i64 (Vec3.y (Part.centre p)), Value.int IntKind.i64 (Vec3.z (Part.centre p)), Value.int IntKind.i64 (Vec3.x (Part.at_ p)), Value.int IntKind.i64 (Vec3.y (Part.at_ p)), Value.int IntKind.i64 (Vec3.z (Part.at_ p)), Value.int IntKind.i64 (Part.turn p)] ∧ True) ∧ True) ∧ ((True ∧ True ∧ True ∧ True ∧ True ∧ True ∧ True ∧ True ∧ True ∧ True ∧ True ∧ True ∧ True ∧ True ∧ True ∧ True ∧ True ∧ True ∧ True) ∧ (True ∧ True ∧ True ∧ True ∧ True ∧ True ∧ True ∧ True ∧ True ∧ True ∧ True ∧ True ∧ True ∧ True ∧ True ∧ True ∧ True ∧ True ∧ True) ∧ True) ∧ ∃ (p_4 : Part), ∃ (q : Part), eqL [Value.agg #[Value.string (Part.id (Prod.fst (rdPart st))), Value.int IntKind.i64 (Part.rev (Prod.fst (rdPart st))), Value.int IntKind.i64 (Part.kind (Prod.fst (rdPart st))), Value.string (Part.node (Prod.fst (rdPart st))), Value.string (Part.grade (Prod.fst (rdPart st))), Value.int IntKind.i64 (Part.thick (Prod.fst (rdPart st))), trPt (Part.outer (Prod.fst (rdPart st))), trPts (Part.holes (Prod.fst (rdPart st))), Value.string (Part.sect (Prod.fst (rdPart st))), Value.int IntKind.i64 (Part.long (Prod.fst (rdPart st))), Value.int IntKind.i64 (Part.mass (Prod.fst (rdPart st))), Value.int IntKind.i64 (Vec3.x (Part.centre (Prod.fst (rdPart st)))), Value.int IntKind.i64 (Vec3.y (Part.centre (Prod.fst (rdPart st)))), Value.int IntKind.i64 (Vec3.z (Part.centre (Prod.fst (rdPart st)))), Value.int IntKind.i64 (Vec3.x (Part.at_ (Prod.fst (rdPart st)))), Value.int IntKind.i64 (Vec3.y (Part.at_ (Prod.fst (rdPart st)))), Value.int IntKind.i64 (Vec3.z (Part.at_ (Prod.fst (rdPart st)))), Value.int IntKind.i64 (Part.turn (Prod.fst (rdPart st)))], Value.agg #[Value.string (Part.id p), Value.int IntKind.i64 (Part.rev p), Value.int IntKind.i64 (Part.kind p), Value.string (Part.node p), Value.string (Part.grade p), Value.int IntKind.i64 (Part.thick p), trPt (Part.outer p), trPts (Part.holes p), Value.string (Part.sect p), Value.int IntKind.i64 (Part.long p), Value.int IntKind.i64 (Part.mass p), Value.int IntKind.i64 (Vec3.x (Part.centre p)), Value.int IntKind.i64 (Vec3.y (Part.centre p)), Value.int IntKind.i64 (Vec3.z (Part.centre p)), Value.int IntKind.i64 (Vec3.x (Part.at_ p)), Value.int IntKind.i64 (Vec3.y (Part.at_ p)), Value.int IntKind.i64 (Vec3.z (Part.at_ p)), Value.int IntKind.i64 (Part.turn p)]] [partV p_4, partV q] ∧ ShortP p_4 ∧ pIf (decide (p_4 = q)) (True ∧ True ∧ True ∧ True ∧ True ∧ True ∧ True ∧ True ∧ True ∧ True ∧ True ∧ True ∧ True ∧ True ∧ pIf (decide ((↑(Prod.snd (Prod.snd (rdPart st))) : Int) = 0)) (True ∧ True ∧ True ∧ True ∧ True ∧ True ∧ True ∧ True ∧ True ∧ True ∧ True ∧ True ∧ True ∧ True ∧ True ∧ True ∧ True ∧ pIf (decide ((↑(ByteArray.size (Prod.fst (Prod.snd (rdPart st)))) : Int) = (↑(ByteArray.size s) : Int))) (True ∧ True ∧ eqL [] [] ∧ True ∧ True ∧ True ∧ True ∧ Post (Value.bool true)) (True ∧ True ∧ True ∧ True ∧ True ∧ Post (Value.bool false))) (True ∧ True ∧ True ∧ True ∧ True ∧ True ∧ True ∧ Post (Value.bool false))) (True ∧ True ∧ True ∧ True ∧ True ∧ True ∧ True ∧ True ∧ True ∧ Post (Value.bool false)))) (True ∧ True ∧ True ∧ eqL [] [] ∧ True ∧ True ∧ Post (Value.bool true))) (True ∧ True ∧ True ∧ Post (Value.bool false))) := by kernel_rfl
theorem bPart_max {p : Part} (h : few16 p) : (bPart p).size ≤ 13000 := by
  have h1 := bHoles_size h p.holes.length
  have h2 := bText_size p.sect
  have h3 := h.2.2.2.1
  have h4 : (bInts (bRear p)).size ≤ 81 := bInts_size _
  unfold bPart
  rw [ba_size, ba_size]
  omega
theorem ba_take (a b : ByteArray) : (a ++ b).extract 0 a.size = a := by
  refine ba_ext ?_
  rw [ext_list, app_list, List.drop_zero, size_list, Nat.sub_zero, List.take_left]
theorem fits_short {p : Part} (h : Fits p) : ShortP p := few_short' (fits_few h)
where few_short' {p : Part} (h : few16 p) : ShortP p := ⟨by have := h.2.2.2.2.1; show p.outer.length < 2 ^ 62; omega, by have := h.2.2.2.2.2.1; show p.holes.length < 2 ^ 62; omega, fun x hx => by have := h.2.2.2.2.2.2 x hx; show x.length < 2 ^ 62; omega⟩
theorem rd_fine (st : St) : InPart (rdPart st).1 ∧ Fits (rdPart st).1 := by
  by_cases h : (rdPart st).2.2 = 0
  · exact ⟨(rdPart_ok h).2.1, (rdPart_ok h).2.2⟩
  · rw [rdPart_no h]; exact ⟨in_zero, fits_zero⟩
theorem rdPart_left (st : St) : (rdPart st).2.1.size ≤ st.1.size := by
  unfold rdPart
  show (rdRear _).2.1.size ≤ _
  rw [rear_st]
  refine Nat.le_trans (rdN_left _) (Nat.le_trans (rdVec_left _) (Nat.le_trans (rdVec_left _) (Nat.le_trans (rdN_left _) (Nat.le_trans (rdN_left _) (Nat.le_trans (qText_left 16 _) (Nat.le_trans (rdHoles_left _ _) (Nat.le_trans (qList_left 8 _).1 ?_)))))))
  unfold rdFront rdF3 rdF2
  exact Nat.le_trans (rdCorners_left _) (Nat.le_trans (rdN_left _) (Nat.le_trans (qText_left 16 _) (Nat.le_trans (qText_left 64 _) (Nat.le_trans (rdN_left _) (Nat.le_trans (rdN_left _) (qText_left 64 st))))))
theorem partReads_pure (s : ByteArray) : Pure Tryz.prog 9 [.string s] fun v => v = .bool true := by
  refine pure_P (vc := callQ) callQ_ok mixed (by kernel_rfl) (by kernel_rfl) _ (e_PartReads s _ _) ?_
  simp only [true_and, and_true, pIf_iff, decide_eq_true_eq, decide_eq_false_iff_not, Bool.not_eq_true', Bool.not_eq_false']
  refine ⟨fun _ => trivial, fun hs => ?_⟩
  obtain ⟨f1, f2⟩ := rd_fine (s, 0)
  have hl := rdPart_left (s, 0)
  have hsz : s.size < 2 ^ 62 := by omega
  have ew : IntKind.i64.wrap (((s.size : Nat) : Int) - ((s.size - (rdPart (s, 0)).2.1.size : Nat) : Int)) = (((rdPart (s, 0)).2.1.size : Nat) : Int) := by
    dsimp only at hl
    rw [show ((s.size : Nat) : Int) - ((s.size - (rdPart (s, 0)).2.1.size : Nat) : Int) = (((rdPart (s, 0)).2.1.size : Nat) : Int) by omega, wrapNat (by omega)]
  refine ⟨(s, 0), rfl, hsz, s, (s, 0), by rw [Nat.sub_self]; rfl, hsz, suf_all s, Nat.le_refl _, Nat.le_refl _, _, _, rfl, fits_short f2, fun _ => ⟨fun h => absurd rfl h, fun _ => ⟨fun h => absurd ew.symm h, fun _ => ⟨_, rfl, f1, fits_few f2, fun h => trivial, fun he => ?_⟩⟩⟩, fun h => absurd rfl h⟩
  have he : (rdPart (s, 0)).2.2 = 0 := Int.ofNat.inj he
  obtain ⟨g1, _, _⟩ := rdPart_ok he
  dsimp only at g1
  have g2 : s.size = (bPart (rdPart (s, 0)).1).size + (rdPart (s, 0)).2.1.size := by
    have := congrArg ByteArray.size g1
    rwa [ba_size] at this
  refine ⟨fun _ => ⟨⟨by omega, by omega, by omega⟩, fun _ => ⟨fun _ => trivial, fun h => absurd ?_ h⟩, fun h => absurd ?_ h⟩, fun h => by omega⟩
  · rw [ew, wrap64 (by omega) (by omega)]
    omega
  · rw [Int.toNat_natCast]
    have := ba_take (bPart (rdPart (s, 0)).1) (rdPart (s, 0)).2.1
    rw [← g1] at this
    exact this.symm
theorem partBack_pure (p : Part) (hp : InPart p) (s : ByteArray) : Pure Tryz.prog 10 [partV p, .string s] fun v => v = .bool true := by
  refine pure_P (vc := callQ) callQ_ok mixed (by kernel_rfl) (by kernel_rfl) _ (e_PartBack p s _ _) ?_
  simp only [true_and, and_true, pIf_iff, decide_eq_true_eq, decide_eq_false_iff_not, Bool.not_eq_true', Bool.not_eq_false']
  refine ⟨Nat.le_refl _, zeroPart, zeroPart, rfl, fits_short fits_zero, fun _ => ⟨p, rfl, fun hf => ⟨fun _ => trivial, fun hs => ?_⟩, fun _ => trivial⟩, fun h => absurd rfl h⟩
  have hb := bPart_max (fits_few hf)
  have hr := rdPart_b hp hf s
  refine ⟨p, rfl, hp, fits_few hf, by omega, (bPart p ++ s, 0), rfl, by rw [ba_size]; show _ + _ < 4611686018427387904; omega, p, p, by rw [hr]; rfl, fits_short hf, fun _ => ⟨fun _ => ⟨fun _ => trivial, fun h => absurd ?_ h⟩, fun h => absurd ?_ h⟩, fun h => absurd rfl h⟩
  · rw [hr]
  · rw [hr]; rfl
end Go.Proofs.YtngginofamlkkaaGreatDoor
